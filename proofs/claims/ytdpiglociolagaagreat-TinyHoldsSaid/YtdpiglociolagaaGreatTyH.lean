/- TyH: TyR5, TyR6. -/
import Derived.Test.YtdpiglociolagaaGreatTyF
/- The reference of bloom, walked. -/
namespace Go.Ty
structure Bits (n : Nat) : Prop where
  pw : ∃ e, 6 ≤ e ∧ e ≤ 20 ∧ n = 2 ^ e
theorem Bits.b {n : Nat} (h : Bits n) : 64 ≤ n ∧ n ≤ 1048576 := by
  obtain ⟨e, h1, h2, rfl⟩ := h.pw
  exact ⟨pow_le_of (j := 6) h1, pow_le_of (b := 20) h2⟩
end Go.Ty
namespace Go.Proofs.YtdpiglociolagaaGreat
open Go.Lk Go.Sl Go.Ty
attribute [local irreducible] TK TL TC Th Bk Nx fnPost WA TQ OpQ OpN SpecH Rd Ent IterH RoundH Rb Rp fnPostM
attribute [local irreducible] Ty.shS Ty.sumB Ty.plS Ty.at64 Ty.cAdd Ty.plB Ty.bA Ty.bS
end Go.Proofs.YtdpiglociolagaaGreat

/- The reference of bloom, walked: bits asked for, set; a new one. -/
namespace Go.Ty
theorem has_yes {B : List Bool} {h : BitVec 64} (e0 : B.getD (plB h B.length 0) false = true) (e1 : B.getD (plB h B.length 1) false = true) (e2 : B.getD (plB h B.length 2) false = true) : hasB B h = true := by
  unfold hasB
  simp only [hasN, e0, e1, e2, Bool.and_self]
theorem add_set {B : List Bool} {h : BitVec 64} : addB B h = ((B.set (plB h B.length 0) true).set (plB h B.length 1) true).set (plB h B.length 2) true := rfl
theorem addB_len {B : List Bool} {h : BitVec 64} : (addB B h).length = B.length := setN_len 3
end Go.Ty
namespace Go.Proofs.YtdpiglociolagaaGreat
open Go.Lk Go.Sl Go.Ty
attribute [local irreducible] TK TL TC Th Bk Nx fnPost WA TQ OpQ OpN SpecH Rd Ent IterH RoundH Rb Rp fnPostM
attribute [local irreducible] Ty.shS Ty.sumB Ty.plS Ty.at64 Ty.cAdd Ty.plB Ty.bA Ty.bS Ty.hasB Ty.addB
set_option maxHeartbeats 8000000 in
instance tyr_bnew : Known Tryz.prog 49 (∀ (xn : Int) (n : Nat) [NatI xn n] (x : Int) (seed : BitVec 64) [BV x seed], Bits n → SpecH Tryz.prog 49 #[.int .i64 xn, .int .i64 3, .int .u64 x] [] (fun q : Nat => .tuple #[.agg #[.int .i64 3, .int .u64 (seed.toNat : Nat), .slice (some ⟨q, 0, none⟩) n n], .int .i64 0]) (fun q => [RoS 1 (some ⟨q, 0, none⟩) n n (bls (List.replicate n false))])) := ⟨fun xn n _ x seed _ hpw => by
  obtain rfl : xn = (n : Int) := NatI.out
  obtain rfl : x = ((seed.toNat : Nat) : Int) := BV.out
  obtain ⟨hw1, hw2⟩ := hpw.b
  obtain ⟨e, he1, he2, he3⟩ := hpw.pw
  refine spec_of Tryz.func49 rfl Tryz.ntmps49 rfl [(0, _), (1, _), (2, _)] rfl ?_; intro base F l0 hl0; (try simp only [List.cons_append] at hl0); (try simp only [List.nil_append] at hl0); subst hl0
  repeat' (first | refine sts ?_ | refine And.intro ?_ ?_ | (intro e; exfalso; omega) | (intro e; subst e) | intro _)
  refine tc_lp (ι := {q : Nat × Nat × Bool // q.1 ≤ 21 ∧ q.2.1 = 2 ^ q.1 ∧ q.2.2 = decide (e < q.1)}) [8, 9] (fun en q => (8, .bool q.1.2.2) :: (9, .int .i64 (q.1.2.1 : Nat)) :: en) (fun _ => _) (fun q => 21 - q.1.1) ⟨(6, 64, false), by omega, rfl, (decide_eq_false (by omega)).symm⟩ ?_ (hl := Ent.refl _)
  rintro K ⟨⟨j, m, b⟩, hj, hm, hb⟩ hK
  dsimp only at hj hm hb ⊢
  obtain ⟨f1, f2, f3, f4, f5⟩ := pow_facts hm he3
  by_cases hc : j ≤ 20
  · have hm2 : m ≤ 1048576 := by rw [hm]; exact pow_le_of (b := 20) hc
    rcases Nat.lt_trichotomy j e with h | h | h
    · rw [decide_eq_false (by omega)] at hb
      subst hb
      have g := f1 h
      have d : false = decide (e < j + 1) := (decide_eq_false (by omega)).symm
      clear f1 f2 f3
      repeat' (first | refine sts ?_ | refine And.intro ?_ ?_ | (intro e; exfalso; omega) | (intro e; subst e) | intro _)
      exact again hK ⟨(j + 1, m * 2, false), by dsimp only; omega, f4, d⟩
    · rw [decide_eq_false (by omega)] at hb
      subst hb
      have g := f2 h
      have d : true = decide (e < j + 1) := (decide_eq_true (by omega)).symm
      clear f1 f2 f3
      repeat' (first | refine sts ?_ | refine And.intro ?_ ?_ | (intro e; exfalso; omega) | (intro e; subst e) | intro _)
      exact again hK ⟨(j + 1, m * 2, true), by dsimp only; omega, f4, d⟩
    · rw [decide_eq_true (by omega)] at hb
      subst hb
      have d : true = decide (e < j + 1) := (decide_eq_true (by omega)).symm
      clear f1 f2 f3
      repeat' (first | refine sts ?_ | refine And.intro ?_ ?_ | (intro e; exfalso; omega) | (intro e; subst e) | intro _)
      exact again hK ⟨(j + 1, m * 2, true), by dsimp only; omega, f4, d⟩
  · obtain rfl : j = 21 := by omega
    have hm2 : m = 2097152 := hm
    rw [decide_eq_true (by omega)] at hb
    subst hb; subst hm2
    clear f1 f2 f3
    repeat' (first | refine sts ?_ | refine And.intro ?_ ?_ | (intro e; exfalso; omega) | (intro e; subst e) | intro _)
    rename_i x
    rw [bls_zero]
    refine frz (some ⟨x, 0, none⟩) ?_
    exact ra2 x rfl⟩
end Go.Proofs.YtdpiglociolagaaGreat
