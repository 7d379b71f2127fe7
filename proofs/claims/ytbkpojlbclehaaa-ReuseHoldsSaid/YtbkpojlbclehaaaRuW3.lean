/- reuse, walked: hits. -/
import Derived.Test.YtbkpojlbclehaaaRuW2
namespace Go.Proofs.Ytbkpojlbclehaaa
open Go.Lk Go.Sl Go.Ru
attribute [local irreducible] TK TL TC Th Bk Nx fnPost WA TQ OpQ OpN SpecH Rd Ent IterH RoundH Rb Rp fnPostM
attribute [local irreducible] Ru.S Ru.D Ru.lb Ru.upd Ru.cnt Ru.cat Ru.dd Ru.stk Ru.rv
theorem ru_hits_bad (a : Option Addr) (n cap : Nat) (h : 4096 < n) (h2 : n ≤ 5000) : SpecH Try.prog 44 #[.slice a n cap] [] (fun _ : Unit => .tuple #[.slice none 0 0, .int .i64 5]) (fun _ => []) := by
  haveI : Known Try.prog 38 (SpecH Try.prog 38 #[.slice a n cap] [] (fun _ : Unit => .tuple #[.slice none 0 0, .int .i64 5]) (fun _ => [])) := ⟨ru_dists_bad a n cap h h2⟩
  refine spec_of Try.func44 rfl Try.ntmps44 rfl [(0, _)] rfl ?_; intro base F l0 hl0; (try simp only [List.cons_append] at hl0); (try simp only [List.nil_append] at hl0); subst hl0
  repeat' (first | refine stw ?_ | refine And.intro ?_ ?_ | (intro e; exfalso; omega) | (intro e; subst e) | intro _)
  exact rt2 () rfl
set_option maxHeartbeats 8000000 in
instance ru_hits : Known Try.prog 44 (∀ (a : Option Addr) (n cap : Nat) (tr : List Nat), n = tr.length → n ≤ 4096 → (∀ k ∈ tr, k < 4294967296) → SpecH Try.prog 44 #[.slice a n cap] [RoS 1 a n cap (u32s tr)] (fun q : Option Addr × Nat => .tuple #[.slice q.1 ((stk tr n).length + 1) q.2, .int .i64 0]) (fun q => [RoS 1 q.1 ((stk tr n).length + 1) q.2 (intsV .i64 (hitsL tr (stk tr n).length))])) := ⟨fun a n cap tr hn hx hlt => by
  subst hn
  have hKl := stk_len_le (tr := tr) (i := tr.length)
  have hdl := dL_len (tr := tr) (i := tr.length)
  refine spec_of Try.func44 rfl Try.ntmps44 rfl [(0, _)] rfl ?_; intro base F l0 hl0; (try simp only [List.cons_append] at hl0); (try simp only [List.nil_append] at hl0); subst hl0
  repeat' (first | refine stw ?_ | refine And.intro ?_ ?_ | (intro e; exfalso; omega) | (intro e; subst e) | intro _)
  rename_i d1 d2 bo
  refine tc_lp (ι := {x : Nat × Nat × Option Addr × Nat // x.1 ≤ tr.length ∧ x.2.1 = (stk tr x.1).length}) [6, 23] (fun e x => (6, .slice x.1.2.2.1 (x.1.2.1 + 1) x.1.2.2.2) :: (23, .int .i64 (x.1.1 : Nat)) :: e)
    (fun x => [Vec 3 1 x.1.2.2.1 (x.1.2.1 + 1) x.1.2.2.2 (intsV .i64 (List.replicate (x.1.2.1 + 1) 0)), RoS 1 d1 tr.length d2 (intsV .i64 (dL tr tr.length)), RoS 1 a tr.length cap (u32s tr), F]) (fun x => tr.length - x.1.1) ⟨(0, 0, some ⟨bo, 0, none⟩, 1), by omega, by rw [stk_zero]; rfl⟩ ?_
  rintro K ⟨⟨i, k, b, c⟩, hi, hk⟩ hK
  dsimp only at hi hk ⊢
  have hki := stk_len_le (tr := tr) (i := i)
  by_cases hc : i < tr.length
  · have hat := dL_at (tr := tr) hc
    have hs := stk_len hc
    by_cases hin : tr.getD i 0 ∈ stk tr i
    · have hd := D_in hin
      rw [if_pos hin] at hs
      repeat' (first | refine stw ?_ | refine And.intro ?_ ?_ | (intro e; exfalso; omega) | (intro e; subst e) | intro _)
      exact again hK ⟨(i + 1, k, b, c), by dsimp only; omega, by dsimp only; omega⟩
    · have hd := D_no hin
      rw [if_neg hin] at hs
      repeat' (first | refine stw ?_ | refine And.intro ?_ ?_ | (intro e; exfalso; omega) | (intro e; subst e) | intro _)
      rename_i _ b2 c2
      rw [← intsV_snoc, ← List.replicate_succ']
      exact again hK ⟨(i + 1, k + 1, b2, c2), by dsimp only; omega, by dsimp only; omega⟩
  · obtain rfl : i = tr.length := by omega
    rw [← catL_zero (tr := tr)]
    repeat' (first | refine stw ?_ | refine And.intro ?_ ?_ | (intro e; exfalso; omega) | (intro e; subst e) | intro _)
    refine tc_lp (ι := {x : Nat // x ≤ tr.length}) [35] (fun e x => (35, .int .i64 (x.1 : Nat)) :: e)
      (fun x => [Vec 3 1 b (k + 1) c (intsV .i64 (catL tr k x.1)), RoS 1 d1 tr.length d2 (intsV .i64 (dL tr tr.length)), RoS 1 a tr.length cap (u32s tr), F]) (fun x => tr.length - x.1) ⟨0, by omega⟩ ?_
    rintro K2 ⟨i, hi2⟩ hK2
    dsimp only
    have hcl := catL_len (tr := tr) (K := k) (i := i)
    by_cases hc2 : i < tr.length
    · have hat := dL_at (tr := tr) hc2
      by_cases hneg : D tr i < 0
      · rw [← catL_no hneg (K := k)]
        repeat' (first | refine stw ?_ | refine And.intro ?_ ?_ | (intro e; exfalso; omega) | (intro e; subst e) | intro _)
        exact again hK2 ⟨i + 1, by omega⟩
      · obtain ⟨d, hd, hdk⟩ := D_lt (tr := tr) (i := i) (by omega) hc2
        haveI : NatI ((dL tr tr.length).getD i 0) d := ⟨by rw [hat, hd]⟩
        have hst := catL_step (K := k) hd (by omega)
        have hca := catL_at (tr := tr) (K := k) (i := i) (s := d + 1) (by omega)
        have hcb := cat_le (tr := tr) (s := d + 1) (i := i)
        repeat' (first | refine stw ?_ | refine And.intro ?_ ?_ | (intro e; exfalso; omega) | (intro e; subst e) | intro _)
        rw [hst]
        exact again hK2 ⟨i + 1, by omega⟩
    · obtain rfl : i = tr.length := by omega
      rw [← sumL_zero]
      repeat' (first | refine stw ?_ | refine And.intro ?_ ?_ | (intro e; exfalso; omega) | (intro e; subst e) | intro _)
      refine tl_q (opq_slLo (i := 1) (by (first | exact want_none rfl | exact want_yes rfl rfl rfl rfl rfl | fail)) rfl rfl ⟨fun _ => rfl⟩ (by omega)) rfl (Nat.lt_of_ble_eq rfl) ?_
      rw [show k + 1 - 1 = k by omega]
      repeat' (first | refine stw ?_ | refine And.intro ?_ ?_ | (intro e; exfalso; omega) | (intro e; subst e) | intro _)
      refine tc_lp (ι := {x : Nat // x ≤ k}) [52] (fun e x => (52, .int .i64 (x.1 : Nat)) :: e)
        (fun x => [Vec 3 1 b (k + 1) c (intsV .i64 (sumL tr k x.1)), RoS 1 d1 tr.length d2 (intsV .i64 (dL tr tr.length)), RoS 1 a tr.length cap (u32s tr), F]) (fun x => k - x.1) ⟨0, by omega⟩ ?_
      rintro K3 ⟨i, hi3⟩ hK3
      dsimp only
      have hsl := sumL_len (tr := tr) (K := k) (i := i)
      by_cases hc3 : i < k
      · have hst := sumL_step (tr := tr) (K := k) (i := i) hc3
        have h1 := sumL_at (tr := tr) (K := k) (i := i) (s := i + 1) hc3
        have h2 := sumL_at (tr := tr) (K := k) (i := i) (s := i) (by omega)
        rw [if_neg (by omega)] at h1
        rw [if_pos (Nat.le_refl _)] at h2
        have b1 := cat_le (tr := tr) (s := i + 1) (i := tr.length)
        have b2 := cnt_le (tr := tr) (s := i) (i := tr.length)
        repeat' (first | ((fail_if_success (refine atD ?_)); refine stw ?_) | refine And.intro ?_ ?_ | (intro e; exfalso; omega) | (intro e; subst e) | intro _)
        refine tail 9 ?_
        repeat' (first | refine stw ?_ | refine And.intro ?_ ?_ | (intro e; exfalso; omega) | (intro e; subst e) | intro _)
        rw [hst]
        exact again hK3 ⟨i + 1, by omega⟩
      · obtain rfl : i = k := by omega
        rw [sumL_all (Nat.le_refl _)]
        subst hk
        repeat' (first | refine stw ?_ | refine And.intro ?_ ?_ | (intro e; exfalso; omega) | (intro e; subst e) | intro _)
        refine frz b ?_
        exact rt2 (b, c) rfl⟩
end Go.Proofs.Ytbkpojlbclehaaa
