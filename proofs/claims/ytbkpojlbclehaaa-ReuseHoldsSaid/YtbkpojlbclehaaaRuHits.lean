/- The hits for all sizes, plainly. No program, no condition. -/
import Derived.Test.YtbkpojlbclehaaaRuFen
namespace Go.Ru
variable {tr : List Nat} {i s K k : Nat}
/-- Numbers of requests by distance, or of hits by size. -/
def catL (tr : List Nat) (K i : Nat) : List Int := (List.range (K + 1)).map fun s => (cat tr s i : Nat)
def sumL (tr : List Nat) (K i : Nat) : List Int := (List.range (K + 1)).map fun s => if s ≤ i then (cnt tr s tr.length : Nat) else (cat tr s tr.length : Nat)
/-- The hits for all sizes. -/
def hitsL (tr : List Nat) (K : Nat) : List Int := (List.range (K + 1)).map fun s => (cnt tr s tr.length : Nat)
theorem catL_len : (catL tr K i).length = K + 1 := by simp [catL]
theorem sumL_len : (sumL tr K i).length = K + 1 := by simp [sumL]
theorem hitsL_len : (hitsL tr K).length = K + 1 := by simp [hitsL]
theorem catL_at (h : s ≤ K) : (catL tr K i).getD s 0 = (cat tr s i : Nat) := by
  unfold catL
  rw [List.getD_eq_getElem?_getD, List.getElem?_map, List.getElem?_range (by omega)]; rfl
theorem sumL_at (h : s ≤ K) : (sumL tr K i).getD s 0 = if s ≤ i then ((cnt tr s tr.length : Nat) : Int) else ((cat tr s tr.length : Nat) : Int) := by
  unfold sumL
  rw [List.getD_eq_getElem?_getD, List.getElem?_map, List.getElem?_range (by omega)]; rfl
theorem hitsL_at (h : s ≤ K) : (hitsL tr K).getD s 0 = (cnt tr s tr.length : Nat) := by
  unfold hitsL
  rw [List.getD_eq_getElem?_getD, List.getElem?_map, List.getElem?_range (by omega)]; rfl
theorem catL_zero : catL tr K 0 = List.replicate (K + 1) 0 := by
  unfold catL
  refine List.ext_getElem (by simp) fun j h1 h2 => ?_
  simp [cat]
theorem catL_no (h : D tr i < 0) : catL tr K (i + 1) = catL tr K i := by
  unfold catL
  refine List.map_congr_left fun s _ => ?_
  show ((cat tr s i + if _ then 1 else 0 : Nat) : Int) = _
  rw [if_neg (by omega)]; rfl
theorem catL_step {d : Nat} (h : D tr i = (d : Int)) (hd : d + 1 ≤ K) : (catL tr K i).set (d + 1) ((catL tr K i).getD (d + 1) 0 + 1) = catL tr K (i + 1) := ext_getDI (by rw [List.length_set, catL_len, catL_len]) fun j hj => by
  rw [List.length_set, catL_len] at hj
  rw [getD_setI (by rw [catL_len]; omega), catL_at (by omega), catL_at (by omega), catL_at (by omega)]
  show _ = ((cat tr j i + if _ then 1 else 0 : Nat) : Int)
  by_cases e : j = d + 1
  · subst e
    rw [if_pos rfl, if_pos (by omega)]; rfl
  · rw [if_neg e, if_neg (by omega)]; rfl
theorem sumL_zero : sumL tr K 0 = catL tr K tr.length := by
  unfold sumL catL
  refine List.map_congr_left fun s _ => ?_
  by_cases e : s = 0
  · subst e; rw [if_pos (Nat.le_refl _), cnt_zero, cat_zero]
  · rw [if_neg (by omega)]
theorem sumL_step (h : i + 1 ≤ K) : (sumL tr K i).set (i + 1) ((sumL tr K i).getD (i + 1) 0 + (sumL tr K i).getD i 0) = sumL tr K (i + 1) := ext_getDI (by rw [List.length_set, sumL_len, sumL_len]) fun j hj => by
  rw [List.length_set, sumL_len] at hj
  rw [getD_setI (by rw [sumL_len]; omega), sumL_at (by omega), sumL_at (by omega), sumL_at (by omega), sumL_at (by omega)]
  have hc := cnt_succ (tr := tr) (s := i) (i := tr.length)
  by_cases e : j = i + 1
  · subst e
    rw [if_pos rfl, if_neg (by omega), if_pos (Nat.le_refl _), if_pos (Nat.le_refl _), hc]; omega
  · rw [if_neg e]
    by_cases h2 : j ≤ i
    · rw [if_pos h2, if_pos (by omega)]
    · rw [if_neg h2, if_neg (by omega)]
theorem sumL_all (h : K ≤ i) : sumL tr K i = hitsL tr K := by
  unfold sumL hitsL
  refine List.map_congr_left fun s hs => ?_
  rw [List.mem_range] at hs
  rw [if_pos (by omega)]
/-- Distances below the number of keys. -/
theorem D_lt (h : 0 ≤ D tr i) (hi : i < tr.length) : ∃ d : Nat, D tr i = (d : Int) ∧ d + 1 ≤ (stk tr tr.length).length := by
  have h1 := D_hi (tr := tr) (i := i)
  have h2 := stk_mono (tr := tr) (Nat.le_of_lt hi)
  exact ⟨(D tr i).toNat, by omega, by omega⟩
/-- The distances of all requests, up to one. -/
def dL (tr : List Nat) (i : Nat) : List Int := (List.range i).map (D tr)
theorem dL_len : (dL tr i).length = i := by simp [dL]
theorem dL_at (h : k < i) : (dL tr i).getD k 0 = D tr k := by
  unfold dL
  rw [List.getD_eq_getElem?_getD, List.getElem?_map, List.getElem?_range h]; rfl
theorem dL_succ : dL tr (i + 1) = dL tr i ++ [D tr i] := by simp [dL, List.range_succ]
/-- The distances so far, in a list that is as long as the trace. -/
def dZ (tr : List Nat) (n i : Nat) : List Int := (List.range n).map fun k => if k < i then D tr k else 0
theorem dZ_len {n : Nat} : (dZ tr n i).length = n := by simp [dZ]
theorem dZ_at {n : Nat} (h : k < n) : (dZ tr n i).getD k 0 = if k < i then D tr k else 0 := by
  unfold dZ
  rw [List.getD_eq_getElem?_getD, List.getElem?_map, List.getElem?_range h]; rfl
theorem dZ_zero {n : Nat} : dZ tr n 0 = List.replicate n 0 := by
  unfold dZ
  refine List.ext_getElem (by simp) fun j h1 h2 => ?_
  simp
theorem dZ_step {n : Nat} (h : i < n) : (dZ tr n i).set i (D tr i) = dZ tr n (i + 1) := ext_getDI (by rw [List.length_set, dZ_len, dZ_len]) fun j hj => by
  rw [List.length_set, dZ_len] at hj
  rw [getD_setI (by rw [dZ_len]; exact h), dZ_at hj, dZ_at hj]
  by_cases e : j = i
  · subst e; rw [if_pos rfl, if_pos (by omega)]
  · rw [if_neg e]
    by_cases h2 : j < i
    · rw [if_pos h2, if_pos (by omega)]
    · rw [if_neg h2, if_neg (by omega)]
theorem dZ_set2 {n : Nat} {v w : Int} : ((dZ tr n i).set i v).set i w = (dZ tr n i).set i w := List.set_set ..
theorem dZ_all {n : Nat} (h : n ≤ i) : dZ tr n i = dL tr n := by
  unfold dZ dL
  refine List.map_congr_left fun s hs => ?_
  rw [List.mem_range] at hs
  rw [if_pos (by omega)]
/-- Whether all numbers so far are less than one. -/
theorem hitsL_mono {a b : Nat} (h : a ≤ b) (hb : b ≤ K) : (hitsL tr K).getD a 0 ≤ (hitsL tr K).getD b 0 := by
  rw [hitsL_at (by omega), hitsL_at hb]
  induction b with
  | zero => obtain rfl : a = 0 := by omega
            exact Int.le_refl _
  | succ b ih =>
    rcases Nat.lt_or_ge b a with h1 | h1
    · obtain rfl : a = b + 1 := by omega
      exact Int.le_refl _
    · have := ih h1 (by omega)
      have := cnt_mono (tr := tr) (s := b) (i := tr.length)
      omega
end Go.Ru
