/- Lists of keys with counts, as cells. No program, no condition. -/
import Derived.Test.YtmiblmoppdgnjaaDoorLfTheory
import Derived.Test.YtmiblmoppdgnjaaDoorSlD
namespace Go.Lf
open Go.Lk Go.Sl
/-- The cells of a key with its count. -/
def itc (x : It) : List Value := [.int .u32 (x.1 : Nat), .int .i64 (x.2 : Nat)]
instance : Width itc 2 := ⟨fun _ => rfl⟩
abbrev itv (l : List It) : List Value := cellsOf itc l
instance (x : It) : PlC (itc x) := by unfold itc; infer_instance
theorem itv_snoc {l : List It} {x : It} : itv (l ++ [x]) = itv l ++ itc x := by
  show cellsOf itc (l ++ [x]) = cellsOf itc l ++ _
  rw [cellsOf_append]; simp [cellsOf]
theorem itv_take {l : List It} (j : Nat) : (itv l).take (j * 2) = itv (l.take j) := by
  by_cases h : j ≤ l.length
  · have e : itv l = itv (l.take j) ++ itv (l.drop j) := by rw [← cellsOf_append, List.take_append_drop]
    have hl : (itv (l.take j)).length = j * 2 := by rw [cellsOf_length, List.length_take, Nat.min_eq_left h]
    rw [e, ← hl, List.take_left]
  · rw [List.take_of_length_le (by rw [cellsOf_length]; omega), List.take_of_length_le (by omega)]
theorem itv_drop {l : List It} (j : Nat) : (itv l).drop (j * 2) = itv (l.drop j) := by
  by_cases h : j ≤ l.length
  · have e : itv l = itv (l.take j) ++ itv (l.drop j) := by rw [← cellsOf_append, List.take_append_drop]
    have hl : (itv (l.take j)).length = j * 2 := by rw [cellsOf_length, List.length_take, Nat.min_eq_left h]
    rw [e, ← hl, List.drop_left]
  · rw [List.drop_of_length_le (by rw [cellsOf_length]; omega), List.drop_of_length_le (by omega)]; rfl
theorem getD_get {l : List It} {i : Nat} (hi : i < l.length) : l.getD i default = l[i] := by rw [List.getD_eq_getElem?_getD, List.getElem?_eq_getElem hi]; rfl
theorem take_snoc' {l : List It} {i : Nat} (hi : i < l.length) : l.take (i + 1) = l.take i ++ [l.getD i default] := by rw [getD_get hi, ← List.take_append_getElem hi]
theorem wo_snoc {l : List It} {x : It} {k : Nat} : wo (l ++ [x]) k = if x.1 = k then wo l k else wo l k ++ [x] := by
  unfold wo
  rw [List.filter_append]
  by_cases e : x.1 = k
  · rw [if_pos e, List.filter_cons_of_neg (by simp [e])]; simp
  · rw [if_neg e, List.filter_cons_of_pos (by simpa using e)]; simp
theorem cntOf_at {l : List It} {i k : Nat} (hi : i < l.length) (hk : (l.getD i default).1 = k) (he : ∀ j, j < i → (l.getD j default).1 ≠ k) : cntOf l k = (l.getD i default).2 := by
  unfold cntOf
  have : l.find? (fun x => x.1 == k) = some (l.getD i default) := by
    rw [getD_get hi] at hk ⊢
    rw [List.find?_eq_some_iff_getElem]
    refine ⟨by simpa using hk, i, hi, rfl, fun j hj => ?_⟩
    have := he j hj
    rw [getD_get (by omega)] at this
    simpa using this
  rw [this]; rfl
end Go.Lf
