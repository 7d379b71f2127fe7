/- What the laws of lru ask for, plainly: calls, and what stays in a list that is kept short. No program, no condition. -/
import Derived.Test.YtbdiabakcgafgaaLrTheory
namespace Go.Lr
open Go.Lk Go.Sl
structure RAct where
  what : Int
  slot : Nat
  to : List Nat
/-- The list after a call. -/
def stepR (L : List Nat) (a : RAct) : List Nat := if a.what = 0 then addL L a.slot else if a.what = 1 then useL L a.slot else if a.what = 2 then L.erase a.slot else if a.what = 3 then renL L a.to else L
theorem renL_len {L to : List Nat} : (renL L to).length = L.length := by unfold renL; split <;> simp
theorem addL_len {L : List Nat} {s : Nat} : (addL L s).length ≤ L.length + 1 := by unfold addL; split <;> simp
theorem stepR_len {L : List Nat} {a : RAct} : (stepR L a).length ≤ L.length + 1 := by
  unfold stepR
  split
  · exact addL_len
  split
  · rw [useL_len]; omega
  split
  · have := (List.erase_sublist (a := a.slot) (l := L)).length_le; omega
  split
  · rw [renL_len]; omega
  · omega
/-- The different slots, by their last use. -/
def full : List Nat → List Nat
  | [] => []
  | x :: l => if x ∈ full l then full l else x :: full l
theorem mem_full {y : Nat} : ∀ {l : List Nat}, y ∈ full l ↔ y ∈ l
  | [] => Iff.rfl
  | x :: l => by
    unfold full
    split
    · rename_i h
      rw [mem_full, List.mem_cons]
      constructor
      · exact .inr
      · rintro (rfl | h2)
        · exact mem_full.1 h
        · exact h2
    · rw [List.mem_cons, List.mem_cons, mem_full]
theorem full_nodup : ∀ {l : List Nat}, (full l).Nodup
  | [] => List.nodup_nil
  | x :: l => by
    unfold full
    split
    · exact full_nodup
    · rename_i h; exact List.nodup_cons.2 ⟨h, full_nodup⟩
theorem full_snoc {s : Nat} : ∀ {l : List Nat}, full (l ++ [s]) = (full l).erase s ++ [s]
  | [] => by simp [full]
  | x :: l => by
    have ih := full_snoc (s := s) (l := l)
    show (if x ∈ full (l ++ [s]) then full (l ++ [s]) else x :: full (l ++ [s])) = (if x ∈ full l then full l else x :: full l).erase s ++ [s]
    have hm : x ∈ full (l ++ [s]) ↔ x ∈ full l ∨ x = s := by rw [mem_full, mem_full]; simp
    by_cases h : x ∈ full l
    · rw [if_pos (hm.2 (.inl h)), if_pos h, ih]
    · by_cases e : x = s
      · subst e
        rw [if_pos (hm.2 (.inr rfl)), if_neg h, ih, List.erase_cons_head, List.erase_of_not_mem h]
      · rw [if_neg (fun k => by rcases hm.1 k with k | k; exact h k; exact e k), if_neg h, ih, List.erase_cons_tail (by simpa using e)]; rfl
theorem full_suffix {ys : List Nat} : ∀ {xs : List Nat}, full ys <:+ full (xs ++ ys)
  | [] => List.suffix_refl _
  | x :: xs => by
    show full ys <:+ (if x ∈ full (xs ++ ys) then full (xs ++ ys) else x :: full (xs ++ ys))
    split
    · exact full_suffix
    · exact full_suffix.trans (List.suffix_cons _ _)
/-- The last ones of a list. -/
def lastN (c : Nat) (F : List Nat) : List Nat := F.drop (F.length - c)
theorem lastN_len {c : Nat} {F : List Nat} : (lastN c F).length = min c F.length := by unfold lastN; rw [List.length_drop]; omega
theorem lastN_app {c : Nat} {P Y : List Nat} (h : Y.length = c ∨ (P = [] ∧ Y.length ≤ c)) : lastN c (P ++ Y) = Y := by
  unfold lastN
  rcases h with h | ⟨rfl, h⟩
  · rw [List.length_append, show P.length + Y.length - c = P.length by omega, List.drop_left]
  · rw [List.nil_append, show Y.length - c = 0 by omega, List.drop_zero]
theorem lastN_suffix {c : Nat} {F : List Nat} : lastN c F <:+ F := List.drop_suffix _ _
theorem lastN_mem {c d : Nat} {F : List Nat} (h : c ≤ d) {x : Nat} (hx : x ∈ lastN c F) : x ∈ lastN d F := by
  unfold lastN at *
  have : F.drop (F.length - c) = (F.drop (F.length - d)).drop (F.length - c - (F.length - d)) := by rw [List.drop_drop]; congr 1; omega
  rw [this] at hx
  exact List.mem_of_mem_drop hx
theorem lastN_nodup {c : Nat} {F : List Nat} (h : F.Nodup) : (lastN c F).Nodup := h.sublist (List.drop_sublist _ _)
/-- A slot is used, or added; the oldest one leaves if there are too many. -/
def usedM (L : List Nat) (s : Nat) : List Nat := if s ∈ L then L.erase s ++ [s] else L ++ [s]
def usedL (L : List Nat) (s c : Nat) : List Nat := if c < (usedM L s).length then (usedM L s).drop 1 else usedM L s
theorem usedL_full {l : List Nat} {s c : Nat} : usedL (lastN c (full l)) s c = lastN c (full (l ++ [s])) := by
  have hnd := full_nodup (l := l)
  rw [full_snoc]
  generalize full l = F at *
  obtain ⟨P, hP⟩ := lastN_suffix (c := c) (F := F)
  have hl := lastN_len (c := c) (F := F)
  generalize hA : lastN c F = A at *
  subst hP
  rw [List.length_append] at hl
  rw [List.nodup_append] at hnd
  have hp : P ≠ [] → A.length = c := fun h => by have := List.length_pos_iff.2 h; omega
  have hc : A.length ≤ c := by omega
  unfold usedL usedM
  by_cases hs : s ∈ A
  · have hsP : s ∉ P := fun h => hnd.2.2 s h s hs rfl
    have h1 := List.length_pos_of_mem hs
    have h2 : (A.erase s ++ [s]).length = A.length := by rw [List.length_append, List.length_erase_of_mem hs]; simp; omega
    rw [if_pos hs, if_neg (by omega), List.erase_append_right _ hsP, List.append_assoc]
    symm
    apply lastN_app
    by_cases h : P = []
    · exact .inr ⟨h, by omega⟩
    · exact .inl (by rw [h2]; exact hp h)
  · have h2 : (A ++ [s]).length = A.length + 1 := by simp
    rw [if_neg hs, h2]
    have key : ∀ P' : List Nat, (P ≠ [] ∨ P' = []) → (if c < A.length + 1 then (A ++ [s]).drop 1 else A ++ [s]) = lastN c (P' ++ (A ++ [s])) := fun P' hh => by
      by_cases hlt : c < A.length + 1
      · rw [if_pos hlt]
        have e : P' ++ (A ++ [s]) = (P' ++ (A ++ [s]).take 1) ++ (A ++ [s]).drop 1 := by rw [List.append_assoc, List.take_append_drop]
        rw [e]
        symm
        apply lastN_app
        exact .inl (by rw [List.length_drop, h2]; omega)
      · rw [if_neg hlt]
        symm
        apply lastN_app
        rcases hh with hh | hh
        · have := hp hh; omega
        · exact .inr ⟨hh, by omega⟩
    by_cases hsP : s ∈ P
    · rw [List.erase_append_left _ hsP, List.append_assoc]
      exact key _ (.inl (List.ne_nil_of_mem hsP))
    · rw [List.erase_of_not_mem (by simp [hs, hsP]), List.append_assoc]
      exact key _ (by by_cases h : P = []; exact .inr h; exact .inl h)
/-- What 'last' has found is the last part. -/
theorem last_stop {c : Nat} {xs ys : List Nat} (h : (full ys).length = c) : full ys = lastN c (full (xs ++ ys)) := by
  obtain ⟨P, hP⟩ := full_suffix (xs := xs) (ys := ys)
  rw [← hP, lastN_app (.inl h)]
theorem last_all {c : Nat} {ys : List Nat} (h : (full ys).length ≤ c) : full ys = lastN c (full ys) := by
  unfold lastN; rw [show (full ys).length - c = 0 by omega, List.drop_zero]
theorem full_len {l : List Nat} : (full l).length ≤ l.length := by
  induction l with
  | nil => exact Nat.le_refl _
  | cons x l ih => unfold full; split <;> simp <;> omega
end Go.Lr
