/- The laws of lru, walked: a call on a list and on its reference. -/
import Derived.Test.YtbdiabakcgafgaaLrL1
import Derived.Test.YtbdiabakcgafgaaSlD
namespace Go.Proofs.Ytbdiabakcgafgaa
open Go.Lk Go.Sl Go.Lr
attribute [local irreducible] TK TL TC Th Bk Nx fnPost WA TQ OpQ OpN SpecH Rd Ent IterH RoundH Rb Rp fnPostM
attribute [local irreducible] Lr.addE Lr.addL Lr.remE Lr.useL Lr.renE' Lr.renL Lr.findI
set_option maxHeartbeats 8000000 in
instance lrl_step : Known Try.prog 46 (∀ (p : Nat) (L : List Nat) (a : Option Addr) (m c : Nat) (A : Lr.RAct) (ta : Option Addr) (tc : Nat), m = L.length → m ≤ 4999 → A.slot < 4294967296 → (∀ x ∈ A.to, x < 4294967296) → A.to.length ≤ 200 → SpecH Try.prog 46 #[.pointer (some ⟨p, 0, none⟩), .slice a m c, .agg #[.int .i64 A.what, .int .u32 (A.slot : Nat), .slice ta A.to.length tc]] [LruAt p L, RoS 1 a m c (u32s L), RoS 1 ta A.to.length tc (u32s A.to)]
    (fun q : Nat × Option Addr × Nat => .tuple #[.pointer (some ⟨q.1, 0, none⟩), .slice q.2.1 (Lr.stepR L A).length q.2.2, .bool true]) (fun q => [LruAt q.1 (Lr.stepR L A), RoS 1 q.2.1 (Lr.stepR L A).length q.2.2 (u32s (Lr.stepR L A))])) := ⟨fun p L a m c A ta tc hm hl hs hto htl => by
  subst hm
  refine spec_of Try.func46 rfl Try.ntmps46 rfl [(0, _), (1, _), (2, _)] rfl ?_; intro base F l0 hl0; (try simp only [List.cons_append] at hl0); (try simp only [List.nil_append] at hl0); subst hl0
  refine LruAt.factsC fun h1 h2 h3 => ?_
  by_cases c0 : A.what = 0
  · have e : Lr.stepR L A = Lr.addL L A.slot := by unfold Lr.stepR; rw [if_pos c0]
    rw [e]
    repeat' (first | refine stx ?_ | refine And.intro ?_ ?_ | (intro e; exfalso; omega) | (intro e; subst e) | intro _)
    rename_i a1 c1
    exact rt3 (p, a1, c1) rfl
  by_cases c1 : A.what = 1
  · have e : Lr.stepR L A = Lr.useL L A.slot := by unfold Lr.stepR; rw [if_neg c0, if_pos c1]
    have e2 : (Lr.useL L A.slot).length = L.length := Lr.useL_len
    rw [e, e2]
    repeat' (first | refine stx ?_ | refine And.intro ?_ ?_ | (intro e; exfalso; omega) | (intro e; subst e) | intro _)
    rename_i a1 c1
    exact rt3 (p, a1, c1) rfl
  by_cases c2 : A.what = 2
  · have e : Lr.stepR L A = L.erase A.slot := by unfold Lr.stepR; rw [if_neg c0, if_neg c1, if_pos c2]
    rw [e]
    repeat' (first | refine stx ?_ | refine And.intro ?_ ?_ | (intro e; exfalso; omega) | (intro e; subst e) | intro _)
    rename_i a1 c1
    exact rt3 (p, a1, c1) rfl
  by_cases c3 : A.what = 3
  · have e : Lr.stepR L A = Lr.renL L A.to := by unfold Lr.stepR; rw [if_neg c0, if_neg c1, if_neg c2, if_pos c3]
    have e2 : (Lr.renL L A.to).length = L.length := Lr.renL_len
    have htl4 : A.to.length ≤ 4194304 := by omega
    rw [e, e2]
    repeat' (first | ((fail_if_success (refine atCall 41 ?_)); refine stx ?_) | refine And.intro ?_ ?_ | (intro e; exfalso; omega) | (intro e; subst e) | intro _)
    rename_i _ a1 c1 oa oc
    refine call (spec_vecRo (E := 28) (lrr_same.out oa ta A.to.length A.to.length oc tc (u32s A.to) (u32s A.to) A.to A.to ⟨rfl⟩ ⟨rfl⟩ rfl rfl htl4 htl4)) ?_
    repeat' (first | refine stx ?_ | refine And.intro ?_ ?_ | (intro e; exfalso; omega) | (intro e; subst e) | intro _)
    obtain ⟨zs, hz, hzl⟩ : ∃ zs : List Int, u32s A.to = intsV .u32 zs ∧ zs.length = A.to.length := ⟨A.to.map fun n : Nat => (n : Int), by unfold u32s intsV; rw [List.map_map]; rfl, by simp⟩
    rename_i b5
    rw [hz, decide_eq_true (rfl : A.to = A.to)]
    refine tc_lp (ι := {x : Nat × List Int // x.1 ≤ A.to.length ∧ x.2.length = A.to.length}) [19] (fun e x => (19, .int .i64 (x.1.1 : Nat)) :: e)
      (fun x => [Vec 28 1 oa A.to.length oc (intsV .u32 x.1.2), LruAt p (Lr.renL L A.to), RoS 1 a1 L.length c1 (u32s (Lr.renL L A.to)), F]) (fun x => A.to.length - x.1.1) ⟨(0, zs), by simp, hzl⟩ ?_
    rintro K ⟨⟨i, ys⟩, hi, hy⟩ hK
    dsimp only at hi hy ⊢
    by_cases hc : i < A.to.length
    · repeat' (first | refine stx ?_ | refine And.intro ?_ ?_ | (intro e; exfalso; omega) | (intro e; subst e) | intro _)
      exact again hK ⟨(i + 1, ys.set i (IntKind.u32.wrap (ys.getD i 0 + 1))), by omega, by simpa using hy⟩
    · repeat' (first | refine stx ?_ | refine And.intro ?_ ?_ | (intro e; exfalso; omega) | (intro e; subst e) | intro _)
      exact rt3 (p, a1, c1) rfl
  · have e : Lr.stepR L A = L := by unfold Lr.stepR; rw [if_neg c0, if_neg c1, if_neg c2, if_neg c3]
    rw [e]
    repeat' (first | refine stx ?_ | refine And.intro ?_ ?_ | (intro e; exfalso; omega) | (intro e; subst e) | intro _)
    rename_i b5 b2
    exact rt3 (b2, a, c) rfl⟩
end Go.Proofs.Ytbdiabakcgafgaa
