/- The laws of tiny, walked: THE THEOREM OF STAGE 35: requests for other keys. -/
import Derived.Test.YtdpiglociolagaaGreatTyHu
namespace Go.Proofs.YtdpiglociolagaaGreat
open Go.Lk Go.Sl Go.Gh Go.Ms Go.Ty
attribute [local irreducible] TK TL TC Th Bk Nx fnPost WA TQ OpQ OpN SpecH Rd Ent IterH RoundH Rb Rp fnPostM
attribute [local irreducible] Ty.shS Ty.sumB Ty.plS Ty.at64 Ty.cAdd Ty.plB Ty.bA Ty.bS Ty.hasB Ty.addB Ty.Mem.note Ty.Mem.guess Ty.adN Ty.useW Ty.useHit Ty.useLeft Ty.useOut
set_option maxHeartbeats 32000000 in
theorem th_miss {base : World} {F : HP} {K : Act → World → Prop} {Q : Exit → Act → World → Prop} {c : Code} {p b2 bt b11 size most prot lim w nn rq i len cap : Nat} {seed : BitVec 64} {W A B : List Nat} {m : Mem} {kt : List (Nat × Bool)} {a : Option Addr} {Z : Nat → Int × Nat} (hcode : (Tryz.f3.body).bind (blkOfC 2) = some c) (c1 : 2 ≤ size ∧ size ≤ 24 ∧ 1 ≤ most ∧ most < size ∧ prot ≤ 99) (o : Ty.Ok size most lim W A B) (ls : Ls3 W A B) (hS : HS w nn size ⟨W, A, B⟩ m rq kt i) (hktl : kt.length = W.length + A.length + B.length) (hn : len ≤ 120) (hc : i < len) (hk : (Z i).2 < 4294967296) (hrle : rq ≤ i) (h0 : (Z i).1 = 0) (hin : ¬ In W A B (Z i).2) (hK2 : CutK base 283 [] K (fun y : { y : St × Mem × Nat × List (Nat × Bool) // HS w nn size y.1 y.2.1 y.2.2.1 y.2.2.2 (i + 1) } => [(10, .int .i64 (i : Nat)), (9, .int .i64 (y.1.2.2.1 : Nat)), (11, .pointer (some ⟨b11, 0, none⟩)), (8, .map (some bt)), (5, .pointer (some ⟨p, 0, none⟩)), (4, .bool false), (2, .pointer (some ⟨b2, 0, none⟩)), (1, .slice a len cap)]) (fun y => [obj b11 43 [.int .i64 (Z i).1, .int .u32 ((Z i).2 : Nat)], TinyAt p size most lim w seed y.1.1.W y.1.1.A y.1.1.B y.1.2.1, MapA .u32 (fun b : Bool => .bool b) bt y.1.2.2.2, obj b2 24 [.int .i64 (size : Nat), .int .i64 (most : Nat), .int .i64 (prot : Nat), .int .u64 (seed.toNat : Nat)], RoS 2 a len cap (rows len fun i => [.int .i64 (Z i).1, .int .u32 ((Z i).2 : Nat)]), F])) : TC none Tryz.prog base 283 [] c (Th K Q) [(56, .int .i64 (Z i).1), (10, .int .i64 (i : Nat)), (9, .int .i64 (rq : Nat)), (11, .pointer (some ⟨b11, 0, none⟩)), (8, .map (some bt)), (5, .pointer (some ⟨p, 0, none⟩)), (4, .bool false), (2, .pointer (some ⟨b2, 0, none⟩)), (1, .slice a len cap)] [obj b11 43 [.int .i64 (Z i).1, .int .u32 ((Z i).2 : Nat)], TinyAt p size most lim w seed W A B m, MapA .u32 (fun b : Bool => .bool b) bt kt, obj b2 24 [.int .i64 (size : Nat), .int .i64 (most : Nat), .int .i64 (prot : Nat), .int .u64 (seed.toNat : Nat)], RoS 2 a len cap (rows len fun i => [.int .i64 (Z i).1, .int .u32 ((Z i).2 : Nat)]), F] := by
  have e : (Tryz.f3.body).bind (blkOfC 2) = some _ := rfl
  obtain rfl := Option.some.inj (hcode.symm.trans e)
  clear hcode e
  have hms : 0 < 10 * size := by omega
  have x2 := o.m2
  have x3 := o.w
  have x4 := o.ab
  haveI := ty_useT
  haveI := ty_hasB
  obtain ⟨full, out, W', A', B', m', hu, hgq, q0, q1⟩ := miss_step (seed := seed) o ls hS hin
  have mt := hS.t.no (fun h => hin (in_app.1 h))
  rcases Bool.eq_false_or_eq_true full with hf | hf
  · obtain rfl : full = true := hf
    obtain ⟨ho, hsz, hWl, hoL, hcL, hH, hgu⟩ := q1 rfl
    clear q0 q1
    have mo := hS.t.yes (in_app.2 ho)
    by_cases hoc : out = W.getD (W.length - 1) 0
    · by_cases hrq : (rq + 1) % (10 * size) = 0
      · have hz := mod_zero hrq
        repeat' (first | ((fail_if_success (refine atD ?_)); refine sts ?_) | refine And.intro ?_ ?_ | (intro e; exfalso; omega) | (intro e; subst e) | intro _)
        refine drx [TinyAt p size most lim w seed W' A' B' m'] ?_
        refine tks [0, 2, 1, 3, 4, 5, 6, 8, 9, 10] 10 ?_; repeat' (first | refine sts ?_ | refine And.intro ?_ ?_ | (intro e; exfalso; omega) | (intro e; subst e) | intro _)
        refine hvs 7 ?_
        refine hvs 11 ?_
        refine tks [12, 13, 14, 15] 4 ?_; repeat' (first | refine sts ?_ | refine And.intro ?_ ?_ | (intro e; exfalso; omega) | (intro e; subst e) | intro _)
        refine hvs 16 ?_
        refine tks [17, 18, 19] 0 ?_; repeat' (first | refine sts ?_ | refine And.intro ?_ ?_ | (intro e; exfalso; omega) | (intro e; subst e) | intro _)
        exact fin hK2 ⟨(⟨W', A', B'⟩, m', rq + 1, mput (mdel kt out) (Z i).2 true), hH⟩
      · have hz := mod_ne hrq; have hg1 := hgq hrq
        repeat' (first | ((fail_if_success (refine atD ?_)); refine sts ?_) | refine And.intro ?_ ?_ | (intro e; exfalso; omega) | (intro e; subst e) | intro _)
        refine drx [TinyAt p size most lim w seed W' A' B' m'] ?_
        refine tks [0, 2, 1, 3, 4, 5, 6, 8, 9, 10] 10 ?_; repeat' (first | refine sts ?_ | refine And.intro ?_ ?_ | (intro e; exfalso; omega) | (intro e; subst e) | intro _)
        refine hvs 7 ?_
        refine hvs 11 ?_
        refine tks [12, 13, 14, 15] 4 ?_; repeat' (first | refine sts ?_ | refine And.intro ?_ ?_ | (intro e; exfalso; omega) | (intro e; subst e) | intro _)
        refine hvs 16 ?_
        refine tks [17, 18, 19] 0 ?_; repeat' (first | refine sts ?_ | refine And.intro ?_ ?_ | (intro e; exfalso; omega) | (intro e; subst e) | intro _)
        exact fin hK2 ⟨(⟨W', A', B'⟩, m', rq + 1, mput (mdel kt out) (Z i).2 true), hH⟩
    · obtain ⟨hg, hm3⟩ := hgu hoc
      by_cases hrq : (rq + 1) % (10 * size) = 0
      · have hz := mod_zero hrq
        repeat' (first | ((fail_if_success (refine atD ?_)); refine sts ?_) | refine And.intro ?_ ?_ | (intro e; exfalso; omega) | (intro e; subst e) | intro _)
        refine drx [TinyAt p size most lim w seed W' A' B' m'] ?_
        refine tks [0, 2, 1, 3, 4, 5, 6, 8, 9, 10] 10 ?_; repeat' (first | refine sts ?_ | refine And.intro ?_ ?_ | (intro e; exfalso; omega) | (intro e; subst e) | intro _)
        refine hv 7 fun _ => ?_
        refine hv 11 fun _ => ?_
        refine tks [12, 13, 14, 15] 4 ?_; repeat' (first | refine sts ?_ | refine And.intro ?_ ?_ | (intro e; exfalso; omega) | (intro e; subst e) | intro _)
        refine hv 16 fun _ => ?_
        refine tks [17, 18, 19] 0 ?_; repeat' (first | refine sts ?_ | refine And.intro ?_ ?_ | (intro e; exfalso; omega) | (intro e; subst e) | intro _)
        exact fin hK2 ⟨(⟨W', A', B'⟩, m', rq + 1, mput (mdel kt out) (Z i).2 true), hH⟩
      · have hz := mod_ne hrq; have hg1 := hgq hrq
        repeat' (first | ((fail_if_success (refine atD ?_)); refine sts ?_) | refine And.intro ?_ ?_ | (intro e; exfalso; omega) | (intro e; subst e) | intro _)
        refine drx [TinyAt p size most lim w seed W' A' B' m'] ?_
        refine tks [0, 2, 1, 3, 4, 5, 6, 8, 9, 10] 10 ?_; repeat' (first | refine sts ?_ | refine And.intro ?_ ?_ | (intro e; exfalso; omega) | (intro e; subst e) | intro _)
        refine hv 7 fun _ => ?_
        refine hv 11 fun _ => ?_
        refine tks [12, 13, 14, 15] 4 ?_; repeat' (first | refine sts ?_ | refine And.intro ?_ ?_ | (intro e; exfalso; omega) | (intro e; subst e) | intro _)
        refine hv 16 fun _ => ?_
        refine tks [17, 18, 19] 0 ?_; repeat' (first | refine sts ?_ | refine And.intro ?_ ?_ | (intro e; exfalso; omega) | (intro e; subst e) | intro _)
        exact fin hK2 ⟨(⟨W', A', B'⟩, m', rq + 1, mput (mdel kt out) (Z i).2 true), hH⟩
  · obtain rfl : full = false := hf
    obtain ⟨hz0, hH⟩ := q0 rfl
    clear q0 q1
    subst hz0
    by_cases hrq : (rq + 1) % (10 * size) = 0
    · have hz := mod_zero hrq
      repeat' (first | refine sts ?_ | refine And.intro ?_ ?_ | (intro e; exfalso; omega) | (intro e; subst e) | intro _)
      exact fin hK2 ⟨(⟨W', A', B'⟩, m', rq + 1, mput kt (Z i).2 true), hH⟩
    · have hz := mod_ne hrq; have hg1 := hgq hrq
      repeat' (first | refine sts ?_ | refine And.intro ?_ ?_ | (intro e; exfalso; omega) | (intro e; subst e) | intro _)
      exact fin hK2 ⟨(⟨W', A', B'⟩, m', rq + 1, mput kt (Z i).2 true), hH⟩
end Go.Proofs.YtdpiglociolagaaGreat
