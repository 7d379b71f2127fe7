/- The laws of tiny, walked: THE THEOREM OF STAGE 35: requests for keys that are there. -/
import Derived.Test.YtdpiglociolagaaGreatTyLB
import Derived.Test.YtdpiglociolagaaGreatTyHo
import Derived.Test.YtdpiglociolagaaGreatSlMapN
namespace Go.Sl
def blkOfC (k : Nat) : Code → Option Code
  | .block i c => if i = k then some (.block i c) else blkOfC k c
  | .seq a b => (blkOfC k a).or (blkOfC k b)
  | .cond _ a b => (blkOfC k a).or (blkOfC k b)
  | .loop c => blkOfC k c
  | .scope c => blkOfC k c
  | .rangeFunc _ _ a b => (blkOfC k a).or (blkOfC k b)
  | _ => none
theorem TC.entail {r : Option Nat} {P : Program} {base : World} {n : Nat} {ds : List Deferred} {c : Code} {Q : Exit → Act → World → Prop} {env : Env} {l l' : List HP} (h : TC r P base n ds c Q env l') (e : Ent l l') : TC r P base n ds c Q env l := by
  unfold TC at *
  exact TK.ent e h
end Go.Sl
namespace Go.Proofs.YtdpiglociolagaaGreat
open Go.Lk Go.Sl Go.Gh Go.Ms Go.Ty
attribute [local irreducible] TK TL TC Th Bk Nx fnPost WA TQ OpQ OpN SpecH Rd Ent IterH RoundH Rb Rp fnPostM
attribute [local irreducible] Ty.shS Ty.sumB Ty.plS Ty.at64 Ty.cAdd Ty.plB Ty.bA Ty.bS Ty.hasB Ty.addB Ty.Mem.note Ty.Mem.guess Ty.adN Ty.useW Ty.useHit Ty.useLeft Ty.useOut
theorem ty_useT : Known Tryz.prog 11 (∀ (p size most lim w : Nat) (seed : BitVec 64) (W A B : List Nat) (m : Mem) (xk : Int) (k : Nat) [NatI xk k] (W' A' B' : List Nat) (m' : Mem) (h b : Bool) (o : Nat), UseT3 size most lim w seed W A B m k W' A' B' m' h b o → k < 4294967296 → SpecH Tryz.prog 11 #[.pointer (some ⟨p, 0, none⟩), .int .u32 xk] [TinyAt p size most lim w seed W A B m] (fun _ : Unit => .tuple #[.agg #[.bool h, .bool b, .int .u32 (o : Nat)], .int .i64 0]) (fun _ => [TinyAt p size most lim w seed W' A' B' m'])) := ⟨fun p size most lim w seed W A B m xk k _ W' A' B' m' h b o u hk => by
  have t := ty_use.out p size most lim w seed W A B m xk k hk
  rwa [u.m, u.st, u.h, u.b, u.o] at t⟩
theorem ty_hasB : Known Tryz.prog 13 (∀ (p size most lim w : Nat) (seed : BitVec 64) (W A B : List Nat) (m : Mem) (xk : Int) (k : Nat) [NatI xk k] (b : Bool), Mem3 W A B k b → SpecH Tryz.prog 13 #[.pointer (some ⟨p, 0, none⟩), .int .u32 xk] [TinyAt p size most lim w seed W A B m] (fun _ : Unit => .bool b) (fun _ => [TinyAt p size most lim w seed W A B m])) := ⟨fun p size most lim w seed W A B m xk k _ b hb => by
  have t := ty_has.out p size most lim w seed W A B m xk k
  rwa [hb.out] at t⟩
set_option maxHeartbeats 32000000 in
theorem th_hit {base : World} {F : HP} {K : Act → World → Prop} {Q : Exit → Act → World → Prop} {c : Code} {p b2 bt b11 size most prot lim w nn rq i len cap : Nat} {seed : BitVec 64} {W A B : List Nat} {m : Mem} {kt : List (Nat × Bool)} {a : Option Addr} {Z : Nat → Int × Nat} (hcode : (Tryz.f3.body).bind (blkOfC 2) = some c) (c1 : 2 ≤ size ∧ size ≤ 24 ∧ 1 ≤ most ∧ most < size ∧ prot ≤ 99) (o : Ty.Ok size most lim W A B) (ls : Ls3 W A B) (hS : HS w nn size ⟨W, A, B⟩ m rq kt i) (_hktl : kt.length = W.length + A.length + B.length) (hn : len ≤ 120) (hc : i < len) (hk : (Z i).2 < 4294967296) (hrle : rq ≤ i) (h0 : (Z i).1 = 0) (hin : In W A B (Z i).2) (hK2 : CutK base 283 [] K (fun y : { y : St × Mem × Nat × List (Nat × Bool) // HS w nn size y.1 y.2.1 y.2.2.1 y.2.2.2 (i + 1) } => [(10, .int .i64 (i : Nat)), (9, .int .i64 (y.1.2.2.1 : Nat)), (11, .pointer (some ⟨b11, 0, none⟩)), (8, .map (some bt)), (5, .pointer (some ⟨p, 0, none⟩)), (4, .bool false), (2, .pointer (some ⟨b2, 0, none⟩)), (1, .slice a len cap)]) (fun y => [obj b11 43 [.int .i64 (Z i).1, .int .u32 ((Z i).2 : Nat)], TinyAt p size most lim w seed y.1.1.W y.1.1.A y.1.1.B y.1.2.1, MapA .u32 (fun b : Bool => .bool b) bt y.1.2.2.2, obj b2 24 [.int .i64 (size : Nat), .int .i64 (most : Nat), .int .i64 (prot : Nat), .int .u64 (seed.toNat : Nat)], RoS 2 a len cap (rows len fun i => [.int .i64 (Z i).1, .int .u32 ((Z i).2 : Nat)]), F])) : TC none Tryz.prog base 283 [] c (Th K Q) [(56, .int .i64 (Z i).1), (10, .int .i64 (i : Nat)), (9, .int .i64 (rq : Nat)), (11, .pointer (some ⟨b11, 0, none⟩)), (8, .map (some bt)), (5, .pointer (some ⟨p, 0, none⟩)), (4, .bool false), (2, .pointer (some ⟨b2, 0, none⟩)), (1, .slice a len cap)] [obj b11 43 [.int .i64 (Z i).1, .int .u32 ((Z i).2 : Nat)], TinyAt p size most lim w seed W A B m, MapA .u32 (fun b : Bool => .bool b) bt kt, obj b2 24 [.int .i64 (size : Nat), .int .i64 (most : Nat), .int .i64 (prot : Nat), .int .u64 (seed.toNat : Nat)], RoS 2 a len cap (rows len fun i => [.int .i64 (Z i).1, .int .u32 ((Z i).2 : Nat)]), F] := by
  have e : (Tryz.f3.body).bind (blkOfC 2) = some _ := rfl
  obtain rfl := Option.some.inj (hcode.symm.trans e)
  clear hcode e
  have hms : 0 < 10 * size := by omega
  have x2 := o.m2
  have x3 := o.w
  have x4 := o.ab
  haveI := ty_useT
  haveI := ty_hasB
  obtain ⟨W', A', B', m', hu, hH, hgq⟩ := hit_step (most := most) (lim := lim) (seed := seed) ls (by omega) hS hin
  have mt := hS.t.yes (in_app.2 hin)
  by_cases hrq : (rq + 1) % (10 * size) = 0
  · have hz := mod_zero hrq
    repeat' (first | refine sts ?_ | refine And.intro ?_ ?_ | (intro e; exfalso; omega) | (intro e; subst e) | intro _)
    exact fin hK2 ⟨(⟨W', A', B'⟩, m', rq + 1, mput kt (Z i).2 true), hH⟩
  · have hz := mod_ne hrq; have hg1 := hgq hrq
    repeat' (first | refine sts ?_ | refine And.intro ?_ ?_ | (intro e; exfalso; omega) | (intro e; subst e) | intro _)
    exact fin hK2 ⟨(⟨W', A', B'⟩, m', rq + 1, mput kt (Z i).2 true), hH⟩
end Go.Proofs.YtdpiglociolagaaGreat
