/- TyLB: TyL4, TyL5. -/
import Derived.Test.YtdpiglociolagaaGreatTyLA
import Derived.Test.YtdpiglociolagaaGreatSlD
import Derived.Test.YtdpiglociolagaaGreatSlMapN
/- The laws of tiny, walked: any calls. -/
namespace Go.Ty
open Go.Sl
structure Pl where
  p : Nat
  l : S3
  r : S4
  f : Option Addr × Nat
  ad : Nat
  s : St
  m : Mem
end Go.Ty
namespace Go.Proofs.YtdpiglociolagaaGreat
open Go.Lk Go.Sl Go.Gh Go.Ty
theorem atBlk (id : Nat) {r0 : Option Nat} {P : Program} {base : World} {n : Nat} {ds : List Deferred} {Q : Exit → Act → World → Prop} {env : Env} {l : List HP} {c : Code} (h : TC r0 P base n ds (.block id c) Q env l) : TC r0 P base n ds (.block id c) Q env l := h
attribute [local irreducible] TK TL TC Th Bk Nx fnPost WA TQ OpQ OpN SpecH Rd Ent IterH RoundH Rb Rp fnPostM
attribute [local irreducible] Ty.shS Ty.sumB Ty.plS Ty.at64 Ty.cAdd Ty.plB Ty.bA Ty.bS Ty.hasB Ty.addB Ty.Mem.note Ty.Mem.guess Ty.adN Ty.useW Ty.useHit Ty.useLeft Ty.useOut
instance (Z : Nat → Int × Nat) : Width (fun i => ([.int .i64 (Z i).1, .int .u32 ((Z i).2 : Nat)] : List Value)) 2 := ⟨fun _ => rfl⟩
set_option maxHeartbeats 16000000 in
instance tyl_plays : Known Tryz.prog 19 (∀ (p size most lim : Nat) (a0 a1 a2 a3 fa ea : Option Addr) (k0 k1 k2 k3 fc ec w n : Nat) (seed : BitVec 64) (m : Mem) (a : Option Addr) (len cap : Nat) (Z : Nat → Int × Nat), (∀ i, i < len → (Z i).2 < 4294967296) → len ≤ 120 → MemOk w n m → SpecH Tryz.prog 19 #[.pointer (some ⟨p, 0, none⟩), .agg #[.int .i64 (size : Nat), .int .i64 (most : Nat), .int .i64 (lim : Nat), .int .i64 (m.req : Nat), .slice none 0 0, .slice none 0 0, .slice none 0 0, .int .i64 (w : Nat), .int .i64 0, .int .i64 0, .int .u64 (seed.toNat : Nat), .slice a0 w k0, .slice a1 w k1, .slice a2 w k2, .slice a3 w k3, .int .i64 3, .int .u64 (seed.toNat : Nat), .slice fa n fc, .int .i64 3, .int .u64 (seed.toNat : Nat), .slice ea n ec], .slice a len cap] [TinyAt p size most lim w seed [] [] [] m, RoS 1 a0 w k0 (i64n m.c0), RoS 1 a1 w k1 (i64n m.c1), RoS 1 a2 w k2 (i64n m.c2), RoS 1 a3 w k3 (i64n m.c3), RoS 1 fa n fc (bls m.b), RoS 1 ea n ec (bls (List.replicate n false)), RoS 2 a len cap (rows len fun i => [.int .i64 (Z i).1, .int .u32 ((Z i).2 : Nat)])] (fun y : { y : Pl // MemOk w n y.m ∧ y.ad ≤ 200 } => .tuple #[.pointer (some ⟨y.1.p, 0, none⟩), .agg #[.int .i64 (size : Nat), .int .i64 (most : Nat), .int .i64 (lim : Nat), .int .i64 (y.1.m.req : Nat), .slice y.1.l.1.1 (y.1.s.W).length y.1.l.1.2, .slice y.1.l.2.1.1 (y.1.s.A).length y.1.l.2.1.2, .slice y.1.l.2.2.1 (y.1.s.B).length y.1.l.2.2.2, .int .i64 (w : Nat), .int .i64 0, .int .i64 (y.1.ad : Nat), .int .u64 (seed.toNat : Nat), .slice y.1.r.1.1 w y.1.r.1.2, .slice y.1.r.2.1.1 w y.1.r.2.1.2, .slice y.1.r.2.2.1.1 w y.1.r.2.2.1.2, .slice y.1.r.2.2.2.1 w y.1.r.2.2.2.2, .int .i64 3, .int .u64 (seed.toNat : Nat), .slice y.1.f.1 n y.1.f.2, .int .i64 3, .int .u64 (seed.toNat : Nat), .slice ea n ec], .bool true]) (fun y => [TinyAt y.1.p size most lim w seed y.1.s.W y.1.s.A y.1.s.B y.1.m, RoS 1 y.1.l.1.1 y.1.s.W.length y.1.l.1.2 (u32s y.1.s.W), RoS 1 y.1.l.2.1.1 y.1.s.A.length y.1.l.2.1.2 (u32s y.1.s.A), RoS 1 y.1.l.2.2.1 y.1.s.B.length y.1.l.2.2.2 (u32s y.1.s.B), RoS 1 y.1.r.1.1 w y.1.r.1.2 (i64n y.1.m.c0), RoS 1 y.1.r.2.1.1 w y.1.r.2.1.2 (i64n y.1.m.c1), RoS 1 y.1.r.2.2.1.1 w y.1.r.2.2.1.2 (i64n y.1.m.c2), RoS 1 y.1.r.2.2.2.1 w y.1.r.2.2.2.2 (i64n y.1.m.c3), RoS 1 y.1.f.1 n y.1.f.2 (bls y.1.m.b)])) := ⟨fun p size most lim a0 a1 a2 a3 fa ea k0 k1 k2 k3 fc ec w n seed m a len cap Z hZ hn ok => by
  refine spec_of Tryz.func19 rfl Tryz.ntmps19 rfl [(0, _), (1, _), (2, _)] rfl ?_; intro base F l0 hl0; (try simp only [List.cons_append] at hl0); (try simp only [List.nil_append] at hl0); subst hl0
  repeat' (first | refine sts ?_ | refine And.intro ?_ ?_ | (intro e; exfalso; omega) | (intro e; subst e) | intro _)
  rename_i b4 b7
  refine TC.weak (env' := [(9, .int .i64 0), (0, .pointer (some ⟨p, 0, none⟩)), (6, .pointer none), (8, .bool false), (2, .slice a len cap), (4, .pointer (some ⟨b4, 0, none⟩)), (7, .pointer (some ⟨b7, 0, none⟩))]) ?_ (by (repeat (first | exact Sub.nil | (apply Sub.cons; exact rfl))); done)
  refine tc_lp (ι := { x : Nat × Pl // x.1 ≤ len ∧ MemOk w n x.2.m ∧ x.2.ad ≤ x.1 }) [0, 9] (fun e x => (0, .pointer (some ⟨x.1.2.p, 0, none⟩)) :: (9, .int .i64 (x.1.1 : Nat)) :: e)
    (fun x => [TinyAt x.1.2.p size most lim w seed x.1.2.s.W x.1.2.s.A x.1.2.s.B x.1.2.m, obj b4 36 [.int .i64 (size : Nat), .int .i64 (most : Nat), .int .i64 (lim : Nat), .int .i64 (x.1.2.m.req : Nat), .slice x.1.2.l.1.1 (x.1.2.s.W).length x.1.2.l.1.2, .slice x.1.2.l.2.1.1 (x.1.2.s.A).length x.1.2.l.2.1.2, .slice x.1.2.l.2.2.1 (x.1.2.s.B).length x.1.2.l.2.2.2, .int .i64 (w : Nat), .int .i64 0, .int .i64 (x.1.2.ad : Nat), .int .u64 (seed.toNat : Nat), .slice x.1.2.r.1.1 w x.1.2.r.1.2, .slice x.1.2.r.2.1.1 w x.1.2.r.2.1.2, .slice x.1.2.r.2.2.1.1 w x.1.2.r.2.2.1.2, .slice x.1.2.r.2.2.2.1 w x.1.2.r.2.2.2.2, .int .i64 3, .int .u64 (seed.toNat : Nat), .slice x.1.2.f.1 n x.1.2.f.2, .int .i64 3, .int .u64 (seed.toNat : Nat), .slice ea n ec], RoS 1 x.1.2.l.1.1 x.1.2.s.W.length x.1.2.l.1.2 (u32s x.1.2.s.W), RoS 1 x.1.2.l.2.1.1 x.1.2.s.A.length x.1.2.l.2.1.2 (u32s x.1.2.s.A), RoS 1 x.1.2.l.2.2.1 x.1.2.s.B.length x.1.2.l.2.2.2 (u32s x.1.2.s.B), RoS 1 x.1.2.r.1.1 w x.1.2.r.1.2 (i64n x.1.2.m.c0), RoS 1 x.1.2.r.2.1.1 w x.1.2.r.2.1.2 (i64n x.1.2.m.c1), RoS 1 x.1.2.r.2.2.1.1 w x.1.2.r.2.2.1.2 (i64n x.1.2.m.c2), RoS 1 x.1.2.r.2.2.2.1 w x.1.2.r.2.2.2.2 (i64n x.1.2.m.c3), RoS 1 x.1.2.f.1 n x.1.2.f.2 (bls x.1.2.m.b), RoS 1 ea n ec (bls (List.replicate n false)), obj b7 36 [.int .i64 0, .int .i64 0, .int .i64 0, .int .i64 0, .slice none 0 0, .slice none 0 0, .slice none 0 0, .int .i64 0, .int .i64 0, .int .i64 0, .int .u64 0, .slice none 0 0, .slice none 0 0, .slice none 0 0, .slice none 0 0, .int .i64 0, .int .u64 0, .slice none 0 0, .int .i64 0, .int .u64 0, .slice none 0 0], RoS 2 a len cap (rows len fun i => [.int .i64 (Z i).1, .int .u32 ((Z i).2 : Nat)]), F]) (fun x => len - x.1.1) ⟨(0, ⟨p, ((none, 0), (none, 0), none, 0), ((a0, k0), (a1, k1), (a2, k2), a3, k3), (fa, fc), 0, ⟨[], [], []⟩, m⟩), by dsimp only; omega, ok, by dsimp only; omega⟩ ?_
    (hl := by show Ent _ [TinyAt p size most lim w seed [] [] [] m, obj b4 36 [.int .i64 (size : Nat), .int .i64 (most : Nat), .int .i64 (lim : Nat), .int .i64 (m.req : Nat), .slice none 0 0, .slice none 0 0, .slice none 0 0, .int .i64 (w : Nat), .int .i64 0, .int .i64 0, .int .u64 (seed.toNat : Nat), .slice a0 w k0, .slice a1 w k1, .slice a2 w k2, .slice a3 w k3, .int .i64 3, .int .u64 (seed.toNat : Nat), .slice fa n fc, .int .i64 3, .int .u64 (seed.toNat : Nat), .slice ea n ec], RoS 1 none 0 0 [], RoS 1 none 0 0 [], RoS 1 none 0 0 [], RoS 1 a0 w k0 (i64n m.c0), RoS 1 a1 w k1 (i64n m.c1), RoS 1 a2 w k2 (i64n m.c2), RoS 1 a3 w k3 (i64n m.c3), RoS 1 fa n fc (bls m.b), RoS 1 ea n ec (bls (List.replicate n false)), obj b7 36 [.int .i64 0, .int .i64 0, .int .i64 0, .int .i64 0, .slice none 0 0, .slice none 0 0, .slice none 0 0, .int .i64 0, .int .i64 0, .int .i64 0, .int .u64 0, .slice none 0 0, .slice none 0 0, .slice none 0 0, .slice none 0 0, .int .i64 0, .int .u64 0, .slice none 0 0, .int .i64 0, .int .u64 0, .slice none 0 0], RoS 2 a len cap (rows len fun i => [.int .i64 (Z i).1, .int .u32 ((Z i).2 : Nat)]), F]; exact en)
  rintro K ⟨⟨i, y⟩, hi, ok, had⟩ hK
  obtain ⟨p, ⟨⟨q1, q2⟩, ⟨u1, u2⟩, g1, g2⟩, ⟨⟨a0, k0⟩, ⟨a1, k1⟩, ⟨a2, k2⟩, a3, k3⟩, ⟨fa, fc⟩, ad, ⟨W, A, B⟩, m⟩ := y
  dsimp only at hi ok had ⊢
  by_cases hc : i < len
  · have hk := hZ i hc
    refine TinyAt.factsC fun o ls hq => ?_
    have s3 := o.s3
    have o2 := o.m2
    have o3 := o.w
    have o4 := o.ab
    have wn := ls.wn
    have an := ls.an
    have bn := ls.bn
    repeat' (first | ((fail_if_success (refine atBlk 2 ?_)); refine sts ?_) | refine And.intro ?_ ?_ | (intro e; exfalso; omega) | (intro e; subst e) | intro _)
    rename_i b10
    refine cut (ι := { y : Pl // MemOk w n y.m ∧ y.ad ≤ i + 1 }) (fun y => [(0, .pointer (some ⟨y.1.p, 0, none⟩)), (6, .pointer none), (8, .bool false), (2, .slice a len cap), (4, .pointer (some ⟨b4, 0, none⟩)), (7, .pointer (some ⟨b7, 0, none⟩)), (9, .int .i64 (i : Nat)), (10, .pointer (some ⟨b10, 0, none⟩))])
      (fun y => [obj b10 43 [.int .i64 (Z i).1, .int .u32 ((Z i).2 : Nat)], TinyAt y.1.p size most lim w seed y.1.s.W y.1.s.A y.1.s.B y.1.m, obj b4 36 [.int .i64 (size : Nat), .int .i64 (most : Nat), .int .i64 (lim : Nat), .int .i64 (y.1.m.req : Nat), .slice y.1.l.1.1 (y.1.s.W).length y.1.l.1.2, .slice y.1.l.2.1.1 (y.1.s.A).length y.1.l.2.1.2, .slice y.1.l.2.2.1 (y.1.s.B).length y.1.l.2.2.2, .int .i64 (w : Nat), .int .i64 0, .int .i64 (y.1.ad : Nat), .int .u64 (seed.toNat : Nat), .slice y.1.r.1.1 w y.1.r.1.2, .slice y.1.r.2.1.1 w y.1.r.2.1.2, .slice y.1.r.2.2.1.1 w y.1.r.2.2.1.2, .slice y.1.r.2.2.2.1 w y.1.r.2.2.2.2, .int .i64 3, .int .u64 (seed.toNat : Nat), .slice y.1.f.1 n y.1.f.2, .int .i64 3, .int .u64 (seed.toNat : Nat), .slice ea n ec], RoS 1 y.1.l.1.1 y.1.s.W.length y.1.l.1.2 (u32s y.1.s.W), RoS 1 y.1.l.2.1.1 y.1.s.A.length y.1.l.2.1.2 (u32s y.1.s.A), RoS 1 y.1.l.2.2.1 y.1.s.B.length y.1.l.2.2.2 (u32s y.1.s.B), RoS 1 y.1.r.1.1 w y.1.r.1.2 (i64n y.1.m.c0), RoS 1 y.1.r.2.1.1 w y.1.r.2.1.2 (i64n y.1.m.c1), RoS 1 y.1.r.2.2.1.1 w y.1.r.2.2.1.2 (i64n y.1.m.c2), RoS 1 y.1.r.2.2.2.1 w y.1.r.2.2.2.2 (i64n y.1.m.c3), RoS 1 y.1.f.1 n y.1.f.2 (bls y.1.m.b), RoS 1 ea n ec (bls (List.replicate n false)), obj b7 36 [.int .i64 0, .int .i64 0, .int .i64 0, .int .i64 0, .slice none 0 0, .slice none 0 0, .slice none 0 0, .int .i64 0, .int .i64 0, .int .i64 0, .int .u64 0, .slice none 0 0, .slice none 0 0, .slice none 0 0, .slice none 0 0, .int .i64 0, .int .u64 0, .slice none 0 0, .int .i64 0, .int .u64 0, .slice none 0 0], RoS 2 a len cap (rows len fun i => [.int .i64 (Z i).1, .int .u32 ((Z i).2 : Nat)]), F]) ?_ ?_
    · intro K hK2
      by_cases h0 : (Z i).1 = 0
      · have ad1 := adN_le (m := m) (mst := 10 * size) (ad := ad) (h := sumB seed (txt (Z i).2))
        repeat' (first | refine sts ?_ | refine And.intro ?_ ?_ | (intro e; exfalso; omega) | (intro e; subst e) | intro _)
        rename_i b11 ra rb b13 b14
        exact fin hK2 ⟨⟨p, ra, rb.1, rb.2, adN m (10 * size) ad (sumB seed (txt (Z i).2)), Ty.useW size most lim (fun x => (m.note (10 * size) w (sumB seed (txt (Z i).2))).guess w (sumB seed (txt x))) W A B (Z i).2, m.note (10 * size) w (sumB seed (txt (Z i).2))⟩, ok.note, by dsimp only; omega⟩
      by_cases h1 : (Z i).1 = 1
      · repeat' (first | refine sts ?_ | refine And.intro ?_ ?_ | (intro e; exfalso; omega) | (intro e; subst e) | intro _)
        rename_i ra rb b17
        exact fin hK2 ⟨⟨p, (ra, rb), ((a0, k0), (a1, k1), (a2, k2), a3, k3), (fa, fc), ad, ⟨W.erase (Z i).2, A.erase (Z i).2, B.erase (Z i).2⟩, m⟩, ok, by dsimp only; omega⟩
      · haveI : NatI (IntKind.wrap .u32 ((Z i).2 + 77)) (((Z i).2 + 77) % 4294967296) := ⟨by show ((Z i).2 + 77 : Int) % 4294967296 = _; omega⟩
        have hw : (((Z i).2 + 77) % 4294967296) < 4294967296 := by omega
        repeat' (first | refine sts ?_ | refine And.intro ?_ ?_ | (intro e; exfalso; omega) | (intro e; subst e) | intro _)
        rename_i x
        exact fin hK2 ⟨⟨x, ((q1, q2), (u1, u2), g1, g2), ((a0, k0), (a1, k1), (a2, k2), a3, k3), (fa, fc), ad, ⟨W, A, B⟩, m⟩, ok, by dsimp only; omega⟩
    · rintro ⟨⟨p, ⟨⟨q1, q2⟩, ⟨u1, u2⟩, g1, g2⟩, ⟨⟨a0, k0⟩, ⟨a1, k1⟩, ⟨a2, k2⟩, a3, k3⟩, ⟨fa, fc⟩, ad, ⟨W, A, B⟩, m⟩, ok, had⟩
      dsimp only at ok had ⊢
      repeat' (first | refine sts ?_ | refine And.intro ?_ ?_ | (intro e; exfalso; omega) | (intro e; subst e) | intro _)
      exact again hK ⟨(i + 1, ⟨p, ((q1, q2), (u1, u2), g1, g2), ((a0, k0), (a1, k1), (a2, k2), a3, k3), (fa, fc), ad, ⟨W, A, B⟩, m⟩), by dsimp only; omega, ok, had⟩
  · obtain rfl : len = i := by omega
    repeat' (first | ((fail_if_success (refine atD ?_)); refine sts ?_) | refine And.intro ?_ ?_ | (intro e; exfalso; omega) | (intro e; subst e) | intro _)
    refine drx [obj b7 36 [.int .i64 0, .int .i64 0, .int .i64 0, .int .i64 0, .slice none 0 0, .slice none 0 0, .slice none 0 0, .int .i64 0, .int .i64 0, .int .i64 0, .int .u64 0, .slice none 0 0, .slice none 0 0, .slice none 0 0, .slice none 0 0, .int .i64 0, .int .u64 0, .slice none 0 0, .int .i64 0, .int .u64 0, .slice none 0 0]] ?_
    refine tks [0, 1, 2] 2 ?_; repeat' (first | refine sts ?_ | refine And.intro ?_ ?_ | (intro e; exfalso; omega) | (intro e; subst e) | intro _)
    refine hv0 3 fun x3 => ?_
    refine tks [4] 0 ?_; repeat' (first | refine sts ?_ | refine And.intro ?_ ?_ | (intro e; exfalso; omega) | (intro e; subst e) | intro _)
    exact ram (⟨⟨p, ((q1, q2), (u1, u2), g1, g2), ((a0, k0), (a1, k1), (a2, k2), a3, k3), (fa, fc), ad, ⟨W, A, B⟩, m⟩, ok, by dsimp only; omega⟩ : { y : Pl // MemOk w n y.m ∧ y.ad ≤ 200 }) rfl⟩
end Go.Proofs.YtdpiglociolagaaGreat

/- The laws of tiny, walked: a cache that is made; a new one. -/
namespace Go.Sl
theorem SpecH.post {α : Type} {P : Program} {f : FuncId} {args : Array Value} {pre : List HP} {val : α → Value} {post post' : α → List HP} (h : SpecH P f args pre val post) (he : ∀ x, Ent (post x) (post' x)) : SpecH P f args pre val post' := fun base F w hw => by
  refine CallsIn.mono (h base F w hw) ?_
  rintro e w' ⟨x, rfl, hw'⟩
  exact ⟨x, rfl, hw'.ent ((he x).append [F])⟩
end Go.Sl
namespace Go.Proofs.YtdpiglociolagaaGreat
open Go.Lk Go.Sl Go.Gh Go.Ty
attribute [local irreducible] TK TL TC Th Bk Nx fnPost WA TQ OpQ OpN SpecH Rd Ent IterH RoundH Rb Rp fnPostM
attribute [local irreducible] Ty.shS Ty.sumB Ty.plS Ty.at64 Ty.cAdd Ty.plB Ty.bA Ty.bS Ty.hasB Ty.addB Ty.Mem.note Ty.Mem.guess Ty.adN Ty.useW Ty.useHit Ty.useLeft Ty.useOut
instance tyr_newM : Known Tryz.prog 17 (∀ (xs : Int) (size : Nat) [NatI xs size] (xm : Int) (most : Nat) [NatI xm most] (xq : Int) (prot : Nat) [NatI xq prot] (x : Int) (seed : BitVec 64) [BV x seed], 2 ≤ size → size ≤ 1024 → 1 ≤ most → most < size → prot ≤ 99 → SpecH Tryz.prog 17 #[.int .i64 xs, .int .i64 xm, .int .i64 xq, .int .u64 x] [] (fun q : (Nat × Nat × Nat × Nat) × Nat => .tuple #[.agg #[.int .i64 (size : Nat), .int .i64 (most : Nat), .int .i64 ((prot * (size - most) / 100) : Nat), .int .i64 ((Mem.new (atL 16 size) (atL 64 (8 * size))).req : Nat), .slice none 0 0, .slice none 0 0, .slice none 0 0, .int .i64 ((atL 16 size) : Nat), .int .i64 0, .int .i64 0, .int .u64 (seed.toNat : Nat), .slice (some ⟨q.1.1, 0, none⟩) (atL 16 size) (atL 16 size), .slice (some ⟨q.1.2.1, 0, none⟩) (atL 16 size) (atL 16 size), .slice (some ⟨q.1.2.2.1, 0, none⟩) (atL 16 size) (atL 16 size), .slice (some ⟨q.1.2.2.2, 0, none⟩) (atL 16 size) (atL 16 size), .int .i64 3, .int .u64 (seed.toNat : Nat), .slice (some ⟨q.2, 0, none⟩) (atL 64 (8 * size)) (atL 64 (8 * size)), .int .i64 3, .int .u64 (seed.toNat : Nat), .slice (some ⟨q.2, 0, none⟩) (atL 64 (8 * size)) (atL 64 (8 * size))], .int .i64 0]) (fun q => [RoS 1 (some ⟨q.1.1, 0, none⟩) (atL 16 size) (atL 16 size) (i64n (Mem.new (atL 16 size) (atL 64 (8 * size))).c0), RoS 1 (some ⟨q.1.2.1, 0, none⟩) (atL 16 size) (atL 16 size) (i64n (Mem.new (atL 16 size) (atL 64 (8 * size))).c1), RoS 1 (some ⟨q.1.2.2.1, 0, none⟩) (atL 16 size) (atL 16 size) (i64n (Mem.new (atL 16 size) (atL 64 (8 * size))).c2), RoS 1 (some ⟨q.1.2.2.2, 0, none⟩) (atL 16 size) (atL 16 size) (i64n (Mem.new (atL 16 size) (atL 64 (8 * size))).c3), RoS 1 (some ⟨q.2, 0, none⟩) (atL 64 (8 * size)) (atL 64 (8 * size)) (bls (Mem.new (atL 16 size) (atL 64 (8 * size))).b), RoS 1 (some ⟨q.2, 0, none⟩) (atL 64 (8 * size)) (atL 64 (8 * size)) (bls (List.replicate (atL 64 (8 * size)) false))])) := ⟨fun xs size _ xm most _ xq prot _ x seed _ h1 h2 h3 h4 h5 => by
  obtain rfl : xs = (size : Int) := NatI.out
  obtain rfl : xm = (most : Int) := NatI.out
  obtain rfl : xq = (prot : Int) := NatI.out
  obtain rfl : x = ((seed.toNat : Nat) : Int) := BV.out
  refine (tyr_new.out size size most most prot prot (seed.toNat : Nat) seed h1 h2 h3 h4 h5).post fun q => ?_
  show Ent [RoS 1 (some ⟨q.1.1, 0, none⟩) (atL 16 size) (atL 16 size) (i64n (List.replicate (atL 16 size) 0)), RoS 1 (some ⟨q.1.2.1, 0, none⟩) (atL 16 size) (atL 16 size) (i64n (List.replicate (atL 16 size) 0)), RoS 1 (some ⟨q.1.2.2.1, 0, none⟩) (atL 16 size) (atL 16 size) (i64n (List.replicate (atL 16 size) 0)), RoS 1 (some ⟨q.1.2.2.2, 0, none⟩) (atL 16 size) (atL 16 size) (i64n (List.replicate (atL 16 size) 0)), RoS 1 (some ⟨q.2, 0, none⟩) (atL 64 (8 * size)) (atL 64 (8 * size)) (bls (List.replicate (atL 64 (8 * size)) false))] [RoS 1 (some ⟨q.1.1, 0, none⟩) (atL 16 size) (atL 16 size) (i64n (List.replicate (atL 16 size) 0)), RoS 1 (some ⟨q.1.2.1, 0, none⟩) (atL 16 size) (atL 16 size) (i64n (List.replicate (atL 16 size) 0)), RoS 1 (some ⟨q.1.2.2.1, 0, none⟩) (atL 16 size) (atL 16 size) (i64n (List.replicate (atL 16 size) 0)), RoS 1 (some ⟨q.1.2.2.2, 0, none⟩) (atL 16 size) (atL 16 size) (i64n (List.replicate (atL 16 size) 0)), RoS 1 (some ⟨q.2, 0, none⟩) (atL 64 (8 * size)) (atL 64 (8 * size)) (bls (List.replicate (atL 64 (8 * size)) false)), RoS 1 (some ⟨q.2, 0, none⟩) (atL 64 (8 * size)) (atL 64 (8 * size)) (bls (List.replicate (atL 64 (8 * size)) false))]
  exact en⟩
theorem tyl_made_bad (x y z sd : Int) (h : x < 2 ∨ 1024 < x ∨ y < 1 ∨ x ≤ y ∨ z < 0 ∨ 99 < z) : SpecH Tryz.prog 8 #[.agg #[.int .i64 x, .int .i64 y, .int .i64 z, .int .u64 sd]] [] (fun _ : Unit => .tuple #[.pointer none, .agg #[.int .i64 0, .int .i64 0, .int .i64 0, .int .i64 0, .slice none 0 0, .slice none 0 0, .slice none 0 0, .int .i64 0, .int .i64 0, .int .i64 0, .int .u64 0, .slice none 0 0, .slice none 0 0, .slice none 0 0, .slice none 0 0, .int .i64 0, .int .u64 0, .slice none 0 0, .int .i64 0, .int .u64 0, .slice none 0 0], .bool false]) (fun _ => []) := by
  refine spec_of Tryz.func8 rfl Tryz.ntmps8 rfl [(0, _)] rfl ?_; intro base F l0 hl0; (try simp only [List.cons_append] at hl0); (try simp only [List.nil_append] at hl0); subst hl0
  repeat' (first | ((fail_if_success (refine atCall 17 ?_)); refine sts ?_) | refine And.intro ?_ ?_ | (intro e; exfalso; omega) | (intro e; subst e) | intro _)
  refine call (tyr_new_bad x y z sd h) ?_
  repeat' (first | ((fail_if_success (refine atD ?_)); refine sts ?_) | refine And.intro ?_ ?_ | (intro e; exfalso; omega) | (intro e; subst e) | intro _)
  rename_i b1 b3 b5
  refine drx [obj b3 36 _] ?_; refine tks [0, 1] 2 ?_; (repeat' (first | refine sts ?_ | refine And.intro ?_ ?_ | (intro e; exfalso; omega) | (intro e; subst e) | intro _)); refine hv0 2 fun _ => ?_; refine tks [3] 0 ?_; (repeat' (first | refine sts ?_ | refine And.intro ?_ ?_ | (intro e; exfalso; omega) | (intro e; subst e) | intro _))
  exact ram () rfl
set_option maxHeartbeats 4000000 in
theorem tyl_made_big (size most prot : Nat) (seed : BitVec 64) (h1 : 24 < size) (h2 : size ≤ 1024) (h3 : 1 ≤ most) (h4 : most < size) (h5 : prot ≤ 99) : SpecH Tryz.prog 8 #[.agg #[.int .i64 (size : Nat), .int .i64 (most : Nat), .int .i64 (prot : Nat), .int .u64 (seed.toNat : Nat)]] [] (fun q : (Nat × Nat × Nat × Nat) × Nat × Unit => .tuple #[.pointer none, .agg #[.int .i64 (size : Nat), .int .i64 (most : Nat), .int .i64 ((prot * (size - most) / 100) : Nat), .int .i64 ((Mem.new (atL 16 size) (atL 64 (8 * size))).req : Nat), .slice none 0 0, .slice none 0 0, .slice none 0 0, .int .i64 ((atL 16 size) : Nat), .int .i64 0, .int .i64 0, .int .u64 (seed.toNat : Nat), .slice (some ⟨q.1.1, 0, none⟩) (atL 16 size) (atL 16 size), .slice (some ⟨q.1.2.1, 0, none⟩) (atL 16 size) (atL 16 size), .slice (some ⟨q.1.2.2.1, 0, none⟩) (atL 16 size) (atL 16 size), .slice (some ⟨q.1.2.2.2, 0, none⟩) (atL 16 size) (atL 16 size), .int .i64 3, .int .u64 (seed.toNat : Nat), .slice (some ⟨q.2.1, 0, none⟩) (atL 64 (8 * size)) (atL 64 (8 * size)), .int .i64 3, .int .u64 (seed.toNat : Nat), .slice (some ⟨q.2.1, 0, none⟩) (atL 64 (8 * size)) (atL 64 (8 * size))], .bool false]) (fun _ => []) := by
  refine spec_of Tryz.func8 rfl Tryz.ntmps8 rfl [(0, _)] rfl ?_; intro base F l0 hl0; (try simp only [List.cons_append] at hl0); (try simp only [List.nil_append] at hl0); subst hl0
  repeat' (first | ((fail_if_success (refine atD ?_)); refine sts ?_) | refine And.intro ?_ ?_ | (intro e; exfalso; omega) | (intro e; subst e) | intro _)
  rename_i b1 b3 xa xb b5
  refine drx [obj b3 36 _] ?_; refine tks [0, 1] 2 ?_; (repeat' (first | refine sts ?_ | refine And.intro ?_ ?_ | (intro e; exfalso; omega) | (intro e; subst e) | intro _)); refine hv0 2 fun _ => ?_; refine tks [3] 0 ?_; (repeat' (first | refine sts ?_ | refine And.intro ?_ ?_ | (intro e; exfalso; omega) | (intro e; subst e) | intro _))
  exact ram (xa, xb, ()) rfl
set_option maxHeartbeats 4000000 in
instance tyl_made : Known Tryz.prog 8 (∀ (size most prot : Nat) (seed : BitVec 64), 2 ≤ size → size ≤ 24 → 1 ≤ most → most < size → prot ≤ 99 → SpecH Tryz.prog 8 #[.agg #[.int .i64 (size : Nat), .int .i64 (most : Nat), .int .i64 (prot : Nat), .int .u64 (seed.toNat : Nat)]] [] (fun q : (Nat × Nat × Nat × Nat) × Nat × Nat => .tuple #[.pointer (some ⟨q.2.2, 0, none⟩), .agg #[.int .i64 (size : Nat), .int .i64 (most : Nat), .int .i64 ((prot * (size - most) / 100) : Nat), .int .i64 ((Mem.new (atL 16 size) (atL 64 (8 * size))).req : Nat), .slice none 0 0, .slice none 0 0, .slice none 0 0, .int .i64 ((atL 16 size) : Nat), .int .i64 0, .int .i64 0, .int .u64 (seed.toNat : Nat), .slice (some ⟨q.1.1, 0, none⟩) (atL 16 size) (atL 16 size), .slice (some ⟨q.1.2.1, 0, none⟩) (atL 16 size) (atL 16 size), .slice (some ⟨q.1.2.2.1, 0, none⟩) (atL 16 size) (atL 16 size), .slice (some ⟨q.1.2.2.2, 0, none⟩) (atL 16 size) (atL 16 size), .int .i64 3, .int .u64 (seed.toNat : Nat), .slice (some ⟨q.2.1, 0, none⟩) (atL 64 (8 * size)) (atL 64 (8 * size)), .int .i64 3, .int .u64 (seed.toNat : Nat), .slice (some ⟨q.2.1, 0, none⟩) (atL 64 (8 * size)) (atL 64 (8 * size))], .bool true]) (fun q => [TinyAt q.2.2 size most (prot * (size - most) / 100) (atL 16 size) seed [] [] [] (Mem.new (atL 16 size) (atL 64 (8 * size))), RoS 1 (some ⟨q.1.1, 0, none⟩) (atL 16 size) (atL 16 size) (i64n (Mem.new (atL 16 size) (atL 64 (8 * size))).c0), RoS 1 (some ⟨q.1.2.1, 0, none⟩) (atL 16 size) (atL 16 size) (i64n (Mem.new (atL 16 size) (atL 64 (8 * size))).c1), RoS 1 (some ⟨q.1.2.2.1, 0, none⟩) (atL 16 size) (atL 16 size) (i64n (Mem.new (atL 16 size) (atL 64 (8 * size))).c2), RoS 1 (some ⟨q.1.2.2.2, 0, none⟩) (atL 16 size) (atL 16 size) (i64n (Mem.new (atL 16 size) (atL 64 (8 * size))).c3), RoS 1 (some ⟨q.2.1, 0, none⟩) (atL 64 (8 * size)) (atL 64 (8 * size)) (bls (Mem.new (atL 16 size) (atL 64 (8 * size))).b), RoS 1 (some ⟨q.2.1, 0, none⟩) (atL 64 (8 * size)) (atL 64 (8 * size)) (bls (List.replicate (atL 64 (8 * size)) false))])) := ⟨fun size most prot seed h1 h2 h3 h4 h5 => by
  refine spec_of Tryz.func8 rfl Tryz.ntmps8 rfl [(0, _)] rfl ?_; intro base F l0 hl0; (try simp only [List.cons_append] at hl0); (try simp only [List.nil_append] at hl0); subst hl0
  repeat' (first | ((fail_if_success (refine atD ?_)); refine sts ?_) | refine And.intro ?_ ?_ | (intro e; exfalso; omega) | (intro e; subst e) | intro _)
  rename_i b1 b3 xa xb b5 p
  refine drx [obj b3 36 _] ?_
  refine tks [0, 1, 2] 2 ?_; repeat' (first | refine sts ?_ | refine And.intro ?_ ?_ | (intro e; exfalso; omega) | (intro e; subst e) | intro _)
  refine hv0 3 fun _ => ?_
  refine tks [4] 0 ?_; repeat' (first | refine sts ?_ | refine And.intro ?_ ?_ | (intro e; exfalso; omega) | (intro e; subst e) | intro _)
  exact ram (xa, xb, p) rfl⟩
set_option maxHeartbeats 4000000 in
theorem tyl_newlaw (x y z : Int) (seed : BitVec 64) : SpecH Tryz.prog 4 #[.agg #[.int .i64 x, .int .i64 y, .int .i64 z, .int .u64 (seed.toNat : Nat)]] [] (fun _ : Unit => .bool true) (fun _ => []) := by
  by_cases hb : x < 2 ∨ 1024 < x ∨ y < 1 ∨ x ≤ y ∨ z < 0 ∨ 99 < z
  · refine spec_of Tryz.func4 rfl Tryz.ntmps4 rfl [(0, _)] rfl ?_; intro base F l0 hl0; (try simp only [List.cons_append] at hl0); (try simp only [List.nil_append] at hl0); subst hl0
    repeat' (first | ((fail_if_success (refine atCall 16 ?_)); refine sts ?_) | refine And.intro ?_ ?_ | (intro e; exfalso; omega) | (intro e; subst e) | intro _)
    refine call (ty_new_bad x y z (seed.toNat : Nat) hb) ?_
    repeat' (first | ((fail_if_success (refine atCall 17 ?_)); refine sts ?_) | refine And.intro ?_ ?_ | (intro e; exfalso; omega) | (intro e; subst e) | intro _)
    refine call (tyr_new_bad x y z (seed.toNat : Nat) hb) ?_
    repeat' (first | refine sts ?_ | refine And.intro ?_ ?_ | (intro e; exfalso; omega) | (intro e; subst e) | intro _)
    exact rt1 () rfl
  · obtain ⟨size, rfl⟩ : ∃ N : Nat, x = N := ⟨x.toNat, by omega⟩
    obtain ⟨most, rfl⟩ : ∃ N : Nat, y = N := ⟨y.toNat, by omega⟩
    obtain ⟨prot, rfl⟩ : ∃ N : Nat, z = N := ⟨z.toNat, by omega⟩
    have okM : MemOk (atL 16 size) (atL 64 (8 * size)) (Mem.new (atL 16 size) (atL 64 (8 * size))) := MemOk.new (width_ok (by omega)) ⟨bits_ok (by omega)⟩
    refine spec_of Tryz.func4 rfl Tryz.ntmps4 rfl [(0, _)] rfl ?_; intro base F l0 hl0; (try simp only [List.cons_append] at hl0); (try simp only [List.nil_append] at hl0); subst hl0
    repeat' (first | refine sts ?_ | refine And.intro ?_ ?_ | (intro e; exfalso; omega) | (intro e; subst e) | intro _)
    all_goals exact rt1 () rfl
end Go.Proofs.YtdpiglociolagaaGreat
