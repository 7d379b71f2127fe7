/- The laws of ghost, walked: a new list; the greatest one. -/
import Derived.Test.YtbdiabakcgafgaaGhL1
namespace Go.Gh
/-- The keys after so many calls. -/
def fullL (most i : Nat) : List Nat := (List.range (min i most)).map fun j => i + 4 - j
theorem fullL_len {most i : Nat} : (fullL most i).length = min i most := by simp [fullL]
theorem fullL_mem {most i k : Nat} : k ∈ fullL most i ↔ i + 5 ≤ k + min i most ∧ k < i + 5 ∧ 0 < i := by
  simp only [fullL, List.mem_map, List.mem_range]
  constructor
  · rintro ⟨j, h, rfl⟩; omega
  · rintro ⟨h1, h2, h3⟩; exact ⟨i + 4 - k, by omega, by omega⟩
theorem fullL_getLast {most i : Nat} (h : 0 < min i most) : (fullL most i).getLastD 0 = i + 5 - min i most := by
  rw [List.getLastD_eq_getLast?, List.getLast?_eq_getElem?, fullL_len]
  simp only [fullL, List.getElem?_map]
  rw [List.getElem?_eq_getElem (by simp; omega)]
  simp
  try omega
theorem fullL_step {most i : Nat} (hm : 0 < most) : addL most (fullL most i) (i + 5) = fullL most (i + 1) ∧ addV most (fullL most i) (i + 5) = (if most ≤ i then i - most + 5 else 0) ∧ addB most (fullL most i) (i + 5) = decide (most ≤ i) := by
  have hn : i + 5 ∉ fullL most i := fun h => by have := (fullL_mem.1 h).2.1; omega
  have hc : (i + 5) :: fullL most i = (List.range (min i most + 1)).map fun j => i + 5 - j := by
    unfold fullL
    rw [List.range_succ_eq_map, List.map_cons, List.map_map]
    congr 1
    refine List.map_congr_left fun j _ => ?_
    simp only [Function.comp]; omega
  have hlen := fullL_len (most := most) (i := i)
  unfold addL addV addB
  rw [if_neg hn, if_neg hn]
  by_cases h : most ≤ i
  · rw [if_neg (by omega), if_neg (by omega), if_pos h, decide_eq_true h]
    refine ⟨?_, ?_, decide_eq_true ⟨hn, by omega⟩⟩
    · rw [hc, List.dropLast_eq_take, ← List.map_take, List.length_map, List.length_range, List.take_range]
      unfold fullL
      rw [show min (min i most + 1 - 1) (min i most + 1) = min (i + 1) most by omega]
      try exact List.map_congr_left fun j _ => by omega
    · have h0 : fullL most i ≠ [] := fun e => by rw [e] at hlen; simp at hlen; omega
      have : ((i + 5) :: fullL most i).getLastD 0 = (fullL most i).getLastD 0 := by
        cases hf : fullL most i with
        | nil => exact absurd hf h0
        | cons x l => rfl
      rw [this, fullL_getLast (by omega)]; omega
  · rw [if_pos (by omega), if_pos (by omega), if_neg h, decide_eq_false h]
    refine ⟨?_, rfl, decide_eq_false (fun k => by omega)⟩
    rw [hc]; unfold fullL
    rw [show min i most + 1 = min (i + 1) most by omega]
    try exact List.map_congr_left fun j _ => by omega
end Go.Gh
namespace Go.Proofs.Ytbdiabakcgafgaa
open Go.Lk Go.Sl Go.Gh
attribute [local irreducible] TK TL TC Th Bk Nx fnPost WA TQ OpQ OpN SpecH Rd Ent IterH RoundH Rb Rp fnPostM
attribute [local irreducible] fullL
theorem gnew_spec (m : Int) : SpecH Try.prog 4 #[.int .i64 m] [] (fun _ : Unit => .bool true) (fun _ => []) := by
  by_cases hb : m < 0 ∨ 4096 < m
  · haveI := rg_new_bad
    refine spec_of Try.func4 rfl Try.ntmps4 rfl [(0, _)] rfl ?_; intro base F l0 hl0; (try simp only [List.cons_append] at hl0); (try simp only [List.nil_append] at hl0); subst hl0
    repeat' (first | ((fail_if_success (refine atCall 14 ?_)); refine stx ?_) | refine And.intro ?_ ?_ | (intro e; exfalso; omega) | (intro e; subst e) | intro _)
    refine call (g_new_bad m hb) ?_
    repeat' (first | refine stx ?_ | refine And.intro ?_ ?_ | (intro e; exfalso; omega) | (intro e; subst e) | intro _)
    all_goals exact rt1 () rfl
  · obtain ⟨N, rfl⟩ : ∃ N : Nat, m = N := ⟨m.toNat, by omega⟩
    refine spec_of Try.func4 rfl Try.ntmps4 rfl [(0, _)] rfl ?_; intro base F l0 hl0; (try simp only [List.cons_append] at hl0); (try simp only [List.nil_append] at hl0); subst hl0
    repeat' (first | refine stx ?_ | refine And.intro ?_ ?_ | (intro e; exfalso; omega) | (intro e; subst e) | intro _)
    all_goals exact rt1 () rfl
class B2 (b : Bool) (v : outParam Int) : Prop where out : v = if b then 1 else 0
instance : B2 true 1 := ⟨rfl⟩
instance : B2 false 0 := ⟨rfl⟩
instance b2i_spec : Known Try.prog 16 (∀ (b : Bool) (v : Int) [B2 b v], SpecH Try.prog 16 #[.bool b] [] (fun _ : Unit => .int .i64 v) (fun _ => [])) := ⟨fun b v i => by
  obtain rfl := i.out
  cases b
  all_goals
    refine spec_of Try.func16 rfl Try.ntmps16 rfl [(0, _)] rfl ?_; intro base F l0 hl0; (try simp only [List.cons_append] at hl0); (try simp only [List.nil_append] at hl0); subst hl0
    repeat' (first | refine stx ?_ | refine And.intro ?_ ?_ | (intro e; exfalso; omega) | (intro e; subst e) | intro _)
    exact rt1 () rfl⟩
set_option maxHeartbeats 4000000 in
theorem gfull_spec (m : Int) (k : Nat) (hk : k < 256) : SpecH Try.prog 3 #[.int .i64 m, .int .u8 (k : Nat)] [] (fun _ : Unit => .bool true) (fun _ => []) := by
  by_cases hb : m < 4090 ∨ 4096 < m ∨ 20 < k
  · refine spec_of Try.func3 rfl Try.ntmps3 rfl [(0, _), (1, _)] rfl ?_; intro base F l0 hl0; (try simp only [List.cons_append] at hl0); (try simp only [List.nil_append] at hl0); subst hl0
    repeat' (first | refine stx ?_ | refine And.intro ?_ ?_ | (intro e; exfalso; omega) | (intro e; subst e) | intro _)
    all_goals exact rt1 () rfl
  · obtain ⟨N, rfl⟩ : ∃ N : Nat, m = N := ⟨m.toNat, by omega⟩
    refine spec_of Try.func3 rfl Try.ntmps3 rfl [(0, _), (1, _)] rfl ?_; intro base F l0 hl0; (try simp only [List.cons_append] at hl0); (try simp only [List.nil_append] at hl0); subst hl0
    repeat' (first | refine stx ?_ | refine And.intro ?_ ?_ | (intro e; exfalso; omega) | (intro e; subst e) | intro _)
    rename_i p
    refine tc_lp (ι := {i : Nat // i ≤ N + k}) [7] (fun e i => (7, .int .i64 (i.1 : Nat)) :: e) (fun i => [GhostAt p N (fullL N i.1), F]) (fun i => N + k - i.1) ⟨0, by omega⟩ ?_ (hl := by
      have : fullL N 0 = [] := by simp [fullL]
      dsimp only; rw [this]; exact en)
    rintro K ⟨i, hi⟩ hK
    dsimp only
    have hlen := fullL_len (most := N) (i := i)
    by_cases hc : i < N + k
    · obtain ⟨s1, s2, s3⟩ := fullL_step (most := N) (i := i) (by omega)
      by_cases hN : N ≤ i
      · haveI : NatI (max (0 : Int) (i - N + 5) * 1) (i - N + 5) := ⟨by omega⟩
        haveI : NatI ((i : Int) + 5) (i + 5) := ⟨by omega⟩
        have hadd := adds_spec.out p N (fullL N i) (i + 5 : Int) (i + 5) (max (0 : Int) (i - N + 5) * 1) (i - N + 5) true (by omega) (by omega)
        rw [s1, s2, s3, if_pos hN, decide_eq_true hN, decide_eq_true ⟨rfl, rfl⟩] at hadd
        repeat' (first | ((fail_if_success (refine atCall 15 ?_)); refine stx ?_) | refine And.intro ?_ ?_ | (intro e; exfalso; omega) | (intro e; subst e) | intro _)
        refine call hadd ?_
        repeat' (first | refine stx ?_ | refine And.intro ?_ ?_ | (intro e; exfalso; omega) | (intro e; subst e) | intro _)
        exact again hK ⟨i + 1, by omega⟩
      · haveI : NatI (max (0 : Int) (i - N + 5) * 0) 0 := ⟨by omega⟩
        haveI : NatI ((i : Int) + 5) (i + 5) := ⟨by omega⟩
        have hadd := adds_spec.out p N (fullL N i) (i + 5 : Int) (i + 5) (max (0 : Int) (i - N + 5) * 0) 0 false (by omega) (by omega)
        rw [s1, s2, s3, if_neg hN, decide_eq_false hN, decide_eq_true ⟨rfl, rfl⟩] at hadd
        repeat' (first | ((fail_if_success (refine atCall 15 ?_)); refine stx ?_) | refine And.intro ?_ ?_ | (intro e; exfalso; omega) | (intro e; subst e) | intro _)
        refine call hadd ?_
        repeat' (first | refine stx ?_ | refine And.intro ?_ ?_ | (intro e; exfalso; omega) | (intro e; subst e) | intro _)
        exact again hK ⟨i + 1, by omega⟩
    · obtain rfl : i = N + k := by omega
      have hA : N + k + 4 ∈ fullL N (N + k) := fullL_mem.2 ⟨by omega, by omega, by omega⟩
      have hB : N + k + 5 ∉ fullL N (N + k) := fun h => by have := (fullL_mem.1 h).2.1; omega
      repeat' (first | refine stx ?_ | refine And.intro ?_ ?_ | (intro e; exfalso; omega) | (intro e; subst e) | intro _)
      all_goals first
        | exact rt1 () rfl
        | exact absurd hA ‹_›
        | exact absurd hB ‹_›
end Go.Proofs.Ytbdiabakcgafgaa
