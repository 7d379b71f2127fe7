/- A new cache of counted keys, plainly. -/
import Derived.Test.YtmiblmoppdgnjaaLfTheory5
namespace Go.Lf
open Go.Lk Go.Sl
/-- A field of which some nodes are free, and none has a key. -/
def F0 (N i : Nat) : Fld := ⟨N, List.range i :: List.replicate 255 []⟩
theorem F0_at {N i n : Nat} : (F0 N i).at n = if n = 0 then List.range i else [] := by
  unfold F0 Fld.at
  cases n with
  | zero => rfl
  | succ n =>
    rw [if_neg (by omega), List.getD_eq_getElem?_getD, List.getElem?_cons_succ, List.getElem?_replicate]
    split <;> rfl
theorem F0_len {N i : Nat} : (F0 N i).L.length = 256 := by unfold F0; rw [List.length_cons, List.length_replicate]
theorem F0_step {N i : Nat} (hi : i < N) : (F0 N i).addE 0 i = 0 ∧ (F0 N i).addF 0 i false = F0 N (i + 1) := by
  have hp : (F0 N i).place i = none := by
    rw [Fld.place_none]
    intro h _
    rw [F0_at]
    split <;> simp
  obtain ⟨h1, h2⟩ := Fld.addF_eq (f := F0 N i) (b := 0) (n := i) (front := false) (by rw [F0_len]; omega) hi hp
  refine ⟨h1, h2.trans ?_⟩
  show Fld.set (F0 N i) 0 ((F0 N i).at 0 ++ [i]) = _
  rw [F0_at, if_pos rfl]
  unfold F0 Fld.set
  rw [List.range_succ]; rfl
theorem LInv.new {N : Nat} (w : Wf (F0 N N)) : LInv N [] (F0 N N) (List.replicate N 0) [] := by
  refine ⟨⟨w, rfl, F0_len, List.length_replicate, List.Pairwise.nil, fun y h => (by cases h), List.nodup_nil, fun n n1 _ => ?_, ?_, fun z h => (by cases h), fun k hk => ?_⟩, List.nodup_nil, fun k z => ?_, rfl⟩
  · rw [F0_at, if_neg (by omega)]; rfl
  · rw [F0_at, if_pos rfl]; simp
  · obtain rfl := List.eq_of_mem_replicate hk; omega
  · constructor
    · intro h; cases h
    · rintro ⟨n, n1, _, h, _⟩
      rw [F0_at, if_neg (by omega)] at h; cases h
theorem F0_zero {N : Nat} : (⟨N, List.replicate 256 []⟩ : Fld) = F0 N 0 := rfl
end Go.Lf
