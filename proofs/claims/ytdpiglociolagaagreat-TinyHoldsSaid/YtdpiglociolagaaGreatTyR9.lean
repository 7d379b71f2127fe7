/- The reference of tiny, walked: a new cache; keys that are dropped. -/
import Derived.Test.YtdpiglociolagaaGreatTyI
import Derived.Test.YtdpiglociolagaaGreatSlHt
namespace Go.Proofs.YtdpiglociolagaaGreat
open Go.Lk Go.Sl Go.Gh Go.Ty
attribute [local irreducible] TK TL TC Th Bk Nx fnPost WA TQ OpQ OpN SpecH Rd Ent IterH RoundH Rb Rp fnPostM
attribute [local irreducible] Ty.shS Ty.sumB Ty.plS Ty.at64 Ty.cAdd Ty.plB Ty.bA Ty.bS Ty.hasB Ty.addB
instance tyr_atLeast : Known Tryz.prog 48 (∀ (xn xo : Int) (n o : Nat) [NatI xn n] [NatI xo o], 1 ≤ n → n ≤ 1000000 → o ≤ 1000000 → SpecH Tryz.prog 48 #[.int .i64 xn, .int .i64 xo] [] (fun _ : Unit => .int .i64 (atL n o : Nat)) (fun _ => [])) := ⟨fun xn xo n o _ _ h1 h2 h3 => by
  obtain rfl : xn = (n : Int) := NatI.out
  obtain rfl : xo = (o : Int) := NatI.out
  refine spec_of Tryz.func48 rfl Tryz.ntmps48 rfl [(0, _), (1, _)] rfl ?_; intro base F l0 hl0; (try simp only [List.cons_append] at hl0); (try simp only [List.nil_append] at hl0); subst hl0
  repeat' (first | refine sts ?_ | refine And.intro ?_ ?_ | (intro e; exfalso; omega) | (intro e; subst e) | intro _)
  refine tc_lp (ι := {v : Nat // 1 ≤ v ∧ v ≤ 2000000 ∧ atL v o = atL n o}) [0] (fun e v => (0, .int .i64 (v.1 : Nat)) :: e) (fun _ => _) (fun v => o - v.1) ⟨n, h1, by omega, rfl⟩ ?_ (hl := Ent.refl _)
  rintro K ⟨v, v1, v2, v3⟩ hK
  dsimp only at v1 v2 v3 ⊢
  by_cases hc : v < o
  · rw [atL_yes ⟨v1, hc⟩] at v3
    repeat' (first | refine sts ?_ | refine And.intro ?_ ?_ | (intro e; exfalso; omega) | (intro e; subst e) | intro _)
    rw [show (v : Int) * 2 = ((2 * v : Nat) : Int) by omega]
    exact again hK ⟨2 * v, by omega, by omega, v3⟩
  · rw [atL_no hc] at v3
    subst v3
    repeat' (first | refine sts ?_ | refine And.intro ?_ ?_ | (intro e; exfalso; omega) | (intro e; subst e) | intro _)
    exact rt1 () rfl⟩
theorem tyr_new_bad (a b c sd : Int) (h : a < 2 ∨ 1024 < a ∨ b < 1 ∨ a ≤ b ∨ c < 0 ∨ 99 < c) : SpecH Tryz.prog 17 #[.int .i64 a, .int .i64 b, .int .i64 c, .int .u64 sd] [] (fun _ : Unit => .tuple #[.agg #[.int .i64 0, .int .i64 0, .int .i64 0, .int .i64 0, .slice none 0 0, .slice none 0 0, .slice none 0 0, .int .i64 0, .int .i64 0, .int .i64 0, .int .u64 0, .slice none 0 0, .slice none 0 0, .slice none 0 0, .slice none 0 0, .int .i64 0, .int .u64 0, .slice none 0 0, .int .i64 0, .int .u64 0, .slice none 0 0], .int .i64 2]) (fun _ => []) := by
  refine spec_of Tryz.func17 rfl Tryz.ntmps17 rfl [(0, _), (1, _), (2, _), (3, _)] rfl ?_; intro base F l0 hl0; (try simp only [List.cons_append] at hl0); (try simp only [List.nil_append] at hl0); subst hl0
  repeat' (first | refine sts ?_ | refine And.intro ?_ ?_ | (intro e; exfalso; omega) | (intro e; subst e) | intro _)
  all_goals exact ra2 () rfl
set_option maxHeartbeats 4000000 in
instance tyr_new : Known Tryz.prog 17 (∀ (xs : Int) (size : Nat) [NatI xs size] (xm : Int) (most : Nat) [NatI xm most] (xq : Int) (prot : Nat) [NatI xq prot] (x : Int) (seed : BitVec 64) [BV x seed], 2 ≤ size → size ≤ 1024 → 1 ≤ most → most < size → prot ≤ 99 → SpecH Tryz.prog 17 #[.int .i64 xs, .int .i64 xm, .int .i64 xq, .int .u64 x] [] (fun q : (Nat × Nat × Nat × Nat) × Nat => .tuple #[.agg #[.int .i64 (size : Nat), .int .i64 (most : Nat), .int .i64 (prot * (size - most) / 100 : Nat), .int .i64 0, .slice none 0 0, .slice none 0 0, .slice none 0 0, .int .i64 ((atL 16 size) : Nat), .int .i64 0, .int .i64 0, .int .u64 (seed.toNat : Nat), .slice (some ⟨q.1.1, 0, none⟩) (atL 16 size) (atL 16 size), .slice (some ⟨q.1.2.1, 0, none⟩) (atL 16 size) (atL 16 size), .slice (some ⟨q.1.2.2.1, 0, none⟩) (atL 16 size) (atL 16 size), .slice (some ⟨q.1.2.2.2, 0, none⟩) (atL 16 size) (atL 16 size), .int .i64 3, .int .u64 (seed.toNat : Nat), .slice (some ⟨q.2, 0, none⟩) (atL 64 (8 * size)) (atL 64 (8 * size)), .int .i64 3, .int .u64 (seed.toNat : Nat), .slice (some ⟨q.2, 0, none⟩) (atL 64 (8 * size)) (atL 64 (8 * size))], .int .i64 0]) (fun q => [RoS 1 (some ⟨q.1.1, 0, none⟩) (atL 16 size) (atL 16 size) (i64n (List.replicate (atL 16 size) 0)), RoS 1 (some ⟨q.1.2.1, 0, none⟩) (atL 16 size) (atL 16 size) (i64n (List.replicate (atL 16 size) 0)), RoS 1 (some ⟨q.1.2.2.1, 0, none⟩) (atL 16 size) (atL 16 size) (i64n (List.replicate (atL 16 size) 0)), RoS 1 (some ⟨q.1.2.2.2, 0, none⟩) (atL 16 size) (atL 16 size) (i64n (List.replicate (atL 16 size) 0)), RoS 1 (some ⟨q.2, 0, none⟩) (atL 64 (8 * size)) (atL 64 (8 * size)) (bls (List.replicate (atL 64 (8 * size)) false))])) := ⟨fun xs size _ xm most _ xq prot _ x seed _ h1 h2 h3 h4 h5 => by
  obtain rfl : xs = (size : Int) := NatI.out
  obtain rfl : xm = (most : Int) := NatI.out
  obtain rfl : xq = (prot : Int) := NatI.out
  obtain rfl : x = ((seed.toNat : Nat) : Int) := BV.out
  have hw := width_ok h2
  have hb : Bits (atL 64 (8 * size)) := ⟨bits_ok h2⟩
  have hX : prot * (size - most) ≤ 99 * 1024 := Nat.mul_le_mul h5 (by omega)
  have eX : IntKind.i64.wrap ((prot : Int) * ((size : Int) - (most : Int))) = ((prot * (size - most) : Nat) : Int) := by
    rw [show (prot : Int) * ((size : Int) - (most : Int)) = ((prot * (size - most) : Nat) : Int) by rw [Int.natCast_mul, Int.natCast_sub (by omega)], IntKind.wrap_i64]; omega
  generalize prot * (size - most) = Y at hX eX ⊢
  refine spec_of Tryz.func17 rfl Tryz.ntmps17 rfl [(0, _), (1, _), (2, _), (3, _)] rfl ?_; intro base F l0 hl0; (try simp only [List.cons_append] at hl0); (try simp only [List.nil_append] at hl0); subst hl0
  repeat' (first | refine sts ?_ | refine And.intro ?_ ?_ | (intro e; exfalso; omega) | (intro e; subst e) | intro _)
  rw [eX]
  repeat' (first | refine sts ?_ | refine And.intro ?_ ?_ | (intro e; exfalso; omega) | (intro e; subst e) | intro _)
  rename_i b7 xa xb b31 xq b34
  obtain ⟨x1, x2, x3⟩ := xb
  rw [show (Y : Int) / 100 = ((Y / 100 : Nat) : Int) from rfl]
  exact ra2 ((xa, x1, x2, x3), xq) rfl⟩
end Go.Proofs.YtdpiglociolagaaGreat
