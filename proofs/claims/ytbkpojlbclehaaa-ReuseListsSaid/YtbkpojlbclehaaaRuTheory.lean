/- Stack distances, plainly: keys in the order of their last requests. No program, no condition. -/
import Derived.Test.YtbkpojlbclehaaaLkA
namespace Go.Ru
/-- Keys, each once, in the order of their first ones. -/
def dd : List Nat → List Nat
  | [] => []
  | x :: l => x :: (dd l).filter fun y => y != x
variable {l m r S T : List Nat} {a x : Nat}
theorem mem_dd : ∀ {l : List Nat}, a ∈ dd l ↔ a ∈ l
  | [] => Iff.rfl
  | x :: l => by
    show a ∈ x :: _ ↔ _
    rw [List.mem_cons, List.mem_filter, mem_dd, List.mem_cons, bne_iff_ne]
    by_cases h : a = x
    · simp [h]
    · simp [h]
theorem nodup_dd : ∀ {l : List Nat}, (dd l).Nodup
  | [] => List.nodup_nil
  | x :: l => by
    show (x :: _).Nodup
    rw [List.nodup_cons]
    exact ⟨fun h => by simp at h, nodup_dd.sublist List.filter_sublist⟩
theorem dd_append : ∀ {l : List Nat}, dd (l ++ m) = dd l ++ (dd m).filter fun y => decide (y ∉ l)
  | [] => (List.filter_eq_self.2 fun y _ => by simp).symm
  | x :: l => by
    show x :: (dd (l ++ m)).filter _ = (x :: (dd l).filter _) ++ _
    rw [dd_append, List.filter_append, List.filter_filter, List.cons_append]
    congr 2
    refine List.filter_congr fun y _ => ?_
    by_cases h : y = x
    · simp [h]
    · by_cases h2 : y ∈ l <;> simp [h, h2]
theorem dd_snoc : dd (l ++ [a]) = if a ∈ l then dd l else dd l ++ [a] := by
  rw [dd_append]
  by_cases h : a ∈ l
  · simp [dd, h]
  · simp [dd, h]
theorem dd_take {i : Nat} (h : i < r.length) : dd (r.take (i + 1)) = if r.getD i 0 ∈ r.take i then dd (r.take i) else dd (r.take i) ++ [r.getD i 0] := by
  rw [← dd_snoc, List.take_succ_eq_append_getElem h, List.getD_eq_getElem?_getD, List.getElem?_eq_getElem h]; rfl
/-- The place of a key that comes. -/
theorem dd_idx {i : Nat} (h : i < r.length) (h2 : r.getD i 0 = x) (h3 : x ∉ r.take i) : x ∈ dd r ∧ (dd r).idxOf x = (dd (r.take i)).length := by
  have e : r = r.take i ++ (x :: r.drop (i + 1)) := by
    rw [← h2, List.getD_eq_getElem?_getD, List.getElem?_eq_getElem h]
    show r = r.take i ++ (r[i] :: _)
    rw [← List.drop_eq_getElem_cons h, List.take_append_drop]
  have hx : x ∈ dd r := by rw [mem_dd, e]; simp
  refine ⟨hx, ?_⟩
  have h4 : x ∉ dd (r.take i) := fun h => h3 (mem_dd.1 h)
  conv => lhs; rw [e, dd_append]
  rw [List.idxOf_append, if_neg h4]
  have : (dd (x :: r.drop (i + 1))).filter (fun y => decide (y ∉ r.take i)) = x :: ((dd (r.drop (i + 1))).filter fun y => y != x).filter fun y => decide (y ∉ r.take i) := by
    show (x :: _).filter _ = _
    rw [List.filter_cons_of_pos (by simpa using h3)]
  rw [this, List.idxOf_cons_self]; omega
theorem mem_take_idx : ∀ {L : List Nat} {s : Nat}, x ∈ L.take s ↔ x ∈ L ∧ L.idxOf x < s
  | [], s => by simp
  | y :: L, 0 => by simp
  | y :: L, s + 1 => by
    rw [List.take_succ_cons, List.mem_cons, mem_take_idx, List.mem_cons, List.idxOf_cons]
    by_cases h : y = x
    · subst h; simp
    · have h' : x ≠ y := fun e => h e.symm
      rw [show (y == x) = false by simpa using h]
      simp [h']
theorem filter_len {S : List Nat} (h : S.Nodup) : S.length ≤ (S.filter fun y => y != x).length + 1 := by
  rw [show (S.filter fun y => y != x) = S.erase x from (h.erase_eq_filter x).symm, List.length_erase]
  split <;> omega
theorem take_filter (h : S.Nodup) (s : Nat) : ((S.take (s + 1)).filter fun y => y != x).take s = (S.filter fun y => y != x).take s := by
  have e : S.filter (fun y => y != x) = (S.take (s + 1)).filter (fun y => y != x) ++ (S.drop (s + 1)).filter (fun y => y != x) := by rw [← List.filter_append, List.take_append_drop]
  rw [e]
  rcases Nat.lt_or_ge (s + 1) S.length with hl | hl
  · have h1 := filter_len (x := x) (h.sublist (List.take_sublist (s + 1) S))
    rw [List.length_take, Nat.min_eq_left (by omega)] at h1
    rw [List.take_append_of_le_length (by omega)]
  · rw [List.drop_eq_nil_of_le hl]; simp
/-- A list of some size, when a key is requested. -/
theorem lru_step (h : S.Nodup) (s : Nat) : (x :: (S.take s).filter fun y => y != x).take s = (x :: S.filter fun y => y != x).take s := by
  cases s with
  | zero => simp
  | succ s => rw [List.take_succ_cons, List.take_succ_cons, take_filter h]
section
variable {tr : List Nat} {i j s : Nat}
/-- The keys requested so far, the last one first. -/
def stk (tr : List Nat) (i : Nat) : List Nat := dd (tr.take i).reverse
theorem stk_zero : stk tr 0 = [] := rfl
theorem stk_succ (h : i < tr.length) : stk tr (i + 1) = tr.getD i 0 :: (stk tr i).filter fun y => y != tr.getD i 0 := by
  unfold stk
  rw [List.take_succ_eq_append_getElem h, List.reverse_append, List.getD_eq_getElem?_getD, List.getElem?_eq_getElem h]; rfl
theorem stk_nodup : (stk tr i).Nodup := nodup_dd
theorem mem_stk : x ∈ stk tr i ↔ x ∈ tr.take i := by unfold stk; rw [mem_dd, List.mem_reverse]
theorem filter_not_mem (h : x ∉ S) : (S.filter fun y => y != x) = S := List.filter_eq_self.2 fun y hy => by simpa using fun e : y = x => h (e ▸ hy)
theorem stk_len (h : i < tr.length) : (stk tr (i + 1)).length = (stk tr i).length + if tr.getD i 0 ∈ stk tr i then 0 else 1 := by
  rw [stk_succ h, List.length_cons]
  split
  · rename_i hm
    rw [← stk_nodup.erase_eq_filter, List.length_erase_of_mem hm]
    have := List.length_pos_of_mem hm
    omega
  · rename_i hm
    rw [filter_not_mem hm]
theorem stk_len_le : (stk tr i).length ≤ i := by
  induction i with
  | zero => simp [stk_zero]
  | succ i ih =>
    rcases Nat.lt_or_ge i tr.length with h | h
    · rw [stk_len h]; split <;> omega
    · have : tr.take (i + 1) = tr.take i := by rw [List.take_of_length_le (by omega), List.take_of_length_le h]
      unfold stk at ih ⊢
      rw [this]; omega
theorem stk_mono (h : i ≤ j) : (stk tr i).length ≤ (stk tr j).length := by
  induction j with
  | zero => obtain rfl : i = 0 := by omega
            exact Nat.le_refl _
  | succ j ih =>
    rcases Nat.lt_or_ge j i with h1 | h1
    · obtain rfl : i = j + 1 := by omega
      exact Nat.le_refl _
    · refine Nat.le_trans (ih h1) ?_
      rcases Nat.lt_or_ge j tr.length with h | h
      · rw [stk_len h]; omega
      · have : tr.take (j + 1) = tr.take j := by rw [List.take_of_length_le (by omega), List.take_of_length_le h]
        unfold stk
        rw [this]; exact Nat.le_refl _
/-- The distance of a request. -/
def D (tr : List Nat) (i : Nat) : Int := if tr.getD i 0 ∈ stk tr i then ((stk tr i).idxOf (tr.getD i 0) : Nat) else -1
theorem D_in (h : tr.getD i 0 ∈ stk tr i) : D tr i = ((stk tr i).idxOf (tr.getD i 0) : Nat) := if_pos h
theorem D_no (h : tr.getD i 0 ∉ stk tr i) : D tr i = -1 := if_neg h
theorem D_neg : D tr i < 0 ↔ tr.getD i 0 ∉ stk tr i := by
  unfold D
  split
  · rename_i h; exact ⟨fun h2 => absurd h2 (by omega), fun h2 => absurd h h2⟩
  · rename_i h; exact ⟨fun _ => h, fun _ => by omega⟩
theorem D_lo : -1 ≤ D tr i := by unfold D; split <;> omega
theorem D_hi : D tr i < ((stk tr i).length : Int) ∨ D tr i = -1 := by
  unfold D
  split
  · rename_i h
    exact .inl (by have := List.idxOf_lt_length_of_mem h; omega)
  · exact .inr rfl
/-- The number of hits with a size, up to a request. -/
def cnt (tr : List Nat) (s : Nat) : Nat → Nat
  | 0 => 0
  | i + 1 => cnt tr s i + if 0 ≤ D tr i ∧ D tr i < (s : Int) then 1 else 0
/-- The number of requests with a distance, up to a request. -/
def cat (tr : List Nat) (s : Nat) : Nat → Nat
  | 0 => 0
  | i + 1 => cat tr s i + if 0 ≤ D tr i ∧ D tr i + 1 = (s : Int) then 1 else 0
theorem cnt_succ : cnt tr (s + 1) i = cnt tr s i + cat tr (s + 1) i := by
  induction i with
  | zero => rfl
  | succ i ih =>
    unfold cnt cat
    rw [ih]
    by_cases h : 0 ≤ D tr i
    · by_cases h1 : D tr i < (s : Int)
      · rw [if_pos ⟨h, by omega⟩, if_pos ⟨h, h1⟩, if_neg (by omega)]; omega
      · by_cases h2 : D tr i = (s : Int)
        · rw [if_pos ⟨h, by omega⟩, if_neg (by omega), if_pos ⟨h, by omega⟩]; omega
        · rw [if_neg (by omega), if_neg (by omega), if_neg (by omega)]; omega
    · rw [if_neg (by omega), if_neg (by omega), if_neg (by omega)]; omega
theorem cnt_zero : cnt tr 0 i = 0 := by
  induction i with
  | zero => rfl
  | succ i ih => unfold cnt; rw [ih, if_neg (by omega)]
theorem cat_zero : cat tr 0 i = 0 := by
  induction i with
  | zero => rfl
  | succ i ih => unfold cat; rw [ih, if_neg (by omega)]
theorem cnt_le : cnt tr s i ≤ i := by
  induction i with
  | zero => exact Nat.le_refl _
  | succ i ih => unfold cnt; split <;> omega
theorem cat_le : cat tr s i ≤ i := by
  induction i with
  | zero => exact Nat.le_refl _
  | succ i ih => unfold cat; split <;> omega
theorem cnt_mono : cnt tr s i ≤ cnt tr (s + 1) i := by rw [cnt_succ]; omega
/-- With room for all keys, each one is missed once. -/
theorem cnt_all (h : (stk tr tr.length).length ≤ s) (hi : i ≤ tr.length) : cnt tr s i + (stk tr i).length = i := by
  induction i with
  | zero => simp [cnt, stk_zero]
  | succ i ih =>
    have h1 : i < tr.length := by omega
    have := ih (by omega)
    have hm := stk_mono (tr := tr) (Nat.le_of_lt h1)
    unfold cnt
    rw [stk_len h1]
    rcases D_hi (tr := tr) (i := i) with h2 | h2
    · by_cases h3 : tr.getD i 0 ∈ stk tr i
      · have := D_neg (tr := tr) (i := i)
        rw [if_pos h3, if_pos ⟨by rw [D_in h3]; omega, by omega⟩]; omega
      · have := D_no h3
        rw [if_neg h3, if_neg (by omega)]; omega
    · have h3 := (D_neg (tr := tr) (i := i)).1 (by omega)
      rw [if_neg h3, if_neg (by omega)]; omega
/-- A list of some size has a key. -/
theorem hit_iff : tr.getD i 0 ∈ (stk tr i).take s ↔ 0 ≤ D tr i ∧ D tr i < (s : Int) := by
  rw [mem_take_idx]
  by_cases h : tr.getD i 0 ∈ stk tr i
  · rw [D_in h]
    exact ⟨fun h2 => ⟨by omega, by have := h2.2; omega⟩, fun h2 => ⟨h, by have := h2.2; omega⟩⟩
  · rw [D_no h]
    exact ⟨fun h2 => absurd h2.1 h, fun h2 => absurd h2.1 (by omega)⟩
end
end Go.Ru
