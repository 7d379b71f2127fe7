/- LRU lists, plainly: a field that has one list. No program, no condition. -/
import Derived.Test.YtbkpojlbclehaaaLkA
namespace Go.Lr
open Go.Lk Go.Sl
/-- A field with one list. -/
abbrev F1 (N : Nat) (L : List Nat) : Fld := ⟨N, [L]⟩
variable {N n : Nat} {L : List Nat}
theorem f1_wf (w : Wf (F1 N L)) : L.Nodup ∧ (∀ x ∈ L, x < N) ∧ 1 ≤ N ∧ N ≤ 4194304 ∧ L.length ≤ N :=
  ⟨w.nodup (h := 0) (by simp), fun x hx => w.lt (h := 0) (by simp) hx, by have := w.bound; simp at this; omega, by have := w.bound; simp at this; omega, w.len_le 0⟩
theorem f1_place : (F1 N L).place n = if n ∈ L then some (0, L.idxOf n) else none := by
  show placeL n [L] = _
  unfold placeL
  by_cases h : n ∈ L
  · rw [if_pos h, if_pos h]
  · rw [if_neg h, if_neg h]; rfl
theorem f1_head : (F1 N L).head 0 = true := by unfold Fld.head; simp
theorem f1_addE : (F1 N L).addE 0 n = if N ≤ n then 2 else if n ∈ L then 11 else 0 := by
  unfold Fld.addE
  rw [f1_head, f1_place]
  by_cases h1 : N ≤ n <;> by_cases h2 : n ∈ L <;> simp [h1, h2]
theorem f1_addF (h1 : n < N) (h2 : n ∉ L) : (F1 N L).addF 0 n false = F1 N (L ++ [n]) := by
  have e : (F1 N L).addE 0 n = 0 := by rw [f1_addE, if_neg (by omega), if_neg h2]
  unfold Fld.addF
  rw [e, if_pos rfl]; rfl
theorem f1_addF_bad (h : n ∈ L) : (F1 N L).addF 0 n false = F1 N L := by
  unfold Fld.addF
  rw [f1_addE]
  by_cases h1 : N ≤ n
  · rw [if_pos h1, if_neg (by decide)]
  · rw [if_neg h1, if_pos h, if_neg (by decide)]
theorem f1_inE : (F1 N L).inE n = if N ≤ n then 2 else if n ∈ L then 0 else 9 := by
  unfold Fld.inE
  rw [f1_place]
  by_cases h1 : N ≤ n <;> by_cases h2 : n ∈ L <;> simp [h1, h2]
theorem f1_remF (h1 : n < N) (h2 : n ∈ L) : (F1 N L).remF n = F1 N (L.erase n) := by
  have e : (F1 N L).inE n = 0 := by rw [f1_inE, if_neg (by omega), if_pos h2]
  unfold Fld.remF
  rw [e, if_pos rfl, f1_place, if_pos h2]
  show Fld.set (F1 N L) 0 (L.take (L.idxOf n) ++ L.drop (L.idxOf n + 1)) = _
  rw [← List.eraseIdx_eq_take_drop_succ, ← List.erase_eq_eraseIdx_of_idxOf rfl]; rfl
theorem f1_ofR : ((F1 N L).ofR n).1 = 0 ∧ ((F1 N L).ofR n).2 = if N ≤ n then 2 else if n ∈ L then 0 else 9 := by
  unfold Fld.ofR
  rw [f1_place]
  by_cases h1 : N ≤ n <;> by_cases h2 : n ∈ L <;> simp [h1, h2]
theorem f1_first : (F1 N L).first 0 = (L.headD 0, if L = [] then 9 else 0) := by
  unfold Fld.first
  rw [f1_head]
  cases L <;> rfl
theorem f1_last : (F1 N L).last 0 = (L.getLastD 0, if L = [] then 9 else 0) := by
  unfold Fld.last
  rw [f1_head, if_pos rfl]
  show Fld.res L.getLast? = _
  rw [List.getLastD_eq_getLast?]
  cases L with
  | nil => rfl
  | cons a l => rw [List.getLast?_eq_some_getLast (by simp)]; simp [Fld.res]
theorem f1_listOf : (F1 N L).listOf 0 = L := rfl
theorem renList_id {nodes : Nat} (hN : N ≤ nodes) : ∀ {l pre : List Nat}, (pre ++ l).Nodup → (∀ x ∈ l, x < N) → renList (List.range N) 0 l (F1 nodes pre) = some (F1 nodes (pre ++ l))
  | [], pre, _, _ => by simp [renList]
  | n :: l, pre, hd, hl => by
    have hn : n < N := hl n (by simp)
    have e : (List.range N).getD n 0 = n := by rw [List.getD_eq_getElem?_getD, List.getElem?_eq_getElem (by simpa using hn)]; simp
    have hnp : n ∉ pre := fun h => by
      rw [List.nodup_append] at hd
      exact hd.2.2 n h n (by simp) rfl
    unfold renList
    have e0 : (F1 nodes pre).addE ((0 : Nat) : Int) n = 0 := by
      have := f1_addE (N := nodes) (L := pre) (n := n)
      rw [if_neg (by omega), if_neg hnp] at this; exact this
    have e1 : (F1 nodes pre).addF ((0 : Nat) : Int) n false = F1 nodes (pre ++ [n]) := f1_addF (by omega) hnp
    simp only [e, e0, e1, if_true]
    rw [renList_id hN (by simpa using hd) (fun x hx => hl x (by simp [hx]))]
    simp
/-- The same numbers, and more room. -/
theorem f1_ren {nodes : Nat} (w : Wf (F1 N L)) (h1 : N ≤ nodes) (h2 : nodes ≤ 4194304) : renG (F1 N L) (List.range N) nodes = F1 nodes L := by
  obtain ⟨w1, w2, w3, w4, w5⟩ := f1_wf w
  have : (F1 N L).renF (List.range N) nodes = some (F1 nodes L) := by
    unfold Fld.renF
    rw [if_neg (by simp; omega)]
    show renLists (List.range N) 0 [L] ⟨(nodes : Int).toNat, List.replicate 1 []⟩ = _
    unfold renLists
    rw [show (⟨(nodes : Int).toNat, List.replicate 1 []⟩ : Fld) = F1 nodes [] from rfl, renList_id h1 (by simpa using w1) w2]
    simp [renLists]
  exact (ren_some this).2
/-- What Add answers. -/
def addE (L : List Nat) (s : Nat) : Int := if 4194304 ≤ s then 2 else if s ∈ L then 11 else 0
def addL (L : List Nat) (s : Nat) : List Nat := if 4194304 ≤ s ∨ s ∈ L then L else L ++ [s]
/-- What Remove and Use answer. -/
def remE (L : List Nat) (s : Nat) : Int := if 4194304 ≤ s then 2 else if s ∈ L then 0 else 9
def useL (L : List Nat) (s : Nat) : List Nat := if s ∈ L then L.erase s ++ [s] else L
/-- What Renumber asks for, and makes. -/
def renOk (L to : List Nat) : Prop := (∀ s ∈ L, s < to.length ∧ to.getD s 0 < 4194304) ∧ (L.map fun s => to.getD s 0).Nodup
instance (L to : List Nat) : Decidable (renOk L to) := by unfold renOk; infer_instance
def renE' (L to : List Nat) : Int := if renOk L to then 0 else 2
def renL (L to : List Nat) : List Nat := if renOk L to then L.map fun s => to.getD s 0 else L
theorem renOk.sub {l L to : List Nat} (h : renOk L to) (hl : l.Sublist L) : renOk l to := ⟨fun s hs => h.1 s (hl.subset hs), h.2.sublist (hl.map _)⟩
end Go.Lr
namespace Go.Lr
open Go.Lk Go.Sl
/-- The new number of a slot. -/
abbrev gto (to : List Nat) : Nat → Nat := fun s => to.getD s 0
theorem addL_ok {l : List Nat} {s : Nat} (h : addE l s = 0) : addL l s = l ++ [s] := by
  unfold addE at h; unfold addL
  by_cases h1 : 4194304 ≤ s
  · rw [if_pos h1] at h; cases h
  · by_cases h2 : s ∈ l
    · rw [if_neg h1, if_pos h2] at h; cases h
    · rw [if_neg (by simp [h1, h2])]
theorem addL_bad {l : List Nat} {s : Nat} (h : addE l s ≠ 0) : addL l s = l := by
  unfold addE at h; unfold addL
  by_cases h1 : 4194304 ≤ s
  · rw [if_pos (.inl h1)]
  · by_cases h2 : s ∈ l
    · rw [if_pos (.inr h2)]
    · rw [if_neg h1, if_neg h2] at h; exact absurd rfl h
theorem renOk_nil {to : List Nat} : renOk [] to := ⟨by simp, by simp⟩
theorem renOk_snoc {l to : List Nat} {s : Nat} : renOk (l ++ [s]) to ↔ renOk l to ∧ s < to.length ∧ addE (l.map (gto to)) (to.getD s 0) = 0 := by
  unfold renOk addE
  constructor
  · rintro ⟨a, b⟩
    have a1 := a s (by simp)
    rw [List.map_append, List.nodup_append] at b
    have hn : to.getD s 0 ∉ l.map (gto to) := fun h => b.2.2 _ h _ (by simp) rfl
    exact ⟨⟨fun x hx => a x (by simp [hx]), b.1⟩, a1.1, by rw [if_neg (by omega), if_neg hn]⟩
  · rintro ⟨⟨a, b⟩, c, d⟩
    by_cases h1 : 4194304 ≤ to.getD s 0
    · rw [if_pos h1] at d; cases d
    rw [if_neg h1] at d
    by_cases h2 : to.getD s 0 ∈ l.map (gto to)
    · rw [if_pos h2] at d; cases d
    · refine ⟨fun x hx => ?_, ?_⟩
      · rw [List.mem_append, List.mem_singleton] at hx
        rcases hx with hx | rfl
        · exact a x hx
        · exact ⟨c, by omega⟩
      · rw [List.map_append, List.nodup_append]
        refine ⟨b, by simp, fun x hx y hy e => ?_⟩
        simp only [List.map_cons, List.map_nil, List.mem_singleton] at hy
        exact h2 (by rw [← hy, ← e]; exact hx)
theorem take_snoc {L : List Nat} {i : Nat} (hi : i < L.length) : L.take (i + 1) = L.take i ++ [L.getD i 0] := by
  rw [← List.take_append_getElem hi, List.getD_eq_getElem?_getD, List.getElem?_eq_getElem hi]; rfl
theorem renOk_take {L to : List Nat} {i : Nat} (hi : i < L.length) : renOk (L.take (i + 1)) to ↔ renOk (L.take i) to ∧ L.getD i 0 < to.length ∧ addE ((L.take i).map (gto to)) (to.getD (L.getD i 0) 0) = 0 := by
  rw [take_snoc hi, renOk_snoc]
theorem map_take {L to : List Nat} {i : Nat} (hi : i < L.length) : (L.take (i + 1)).map (gto to) = (L.take i).map (gto to) ++ [to.getD (L.getD i 0) 0] := by
  rw [take_snoc hi, List.map_append]; rfl
/-- Where a slot stands. -/
def findI (L : List Nat) (s : Nat) : Int := if s ∈ L then (L.idxOf s : Nat) else -1
theorem findI_pos {L : List Nat} {s : Nat} (h : s ∈ L) : findI L s = (L.idxOf s : Nat) := if_pos h
theorem findI_neg {L : List Nat} {s : Nat} (h : s ∉ L) : findI L s = -1 := if_neg h
theorem findI_ge {L : List Nat} {s : Nat} : 0 ≤ findI L s ↔ s ∈ L := by
  unfold findI
  by_cases h : s ∈ L
  · rw [if_pos h]; simp [h]
  · rw [if_neg h]; simp [h]
theorem useL_len {L : List Nat} {s : Nat} : (useL L s).length = L.length := by
  unfold useL
  by_cases h : s ∈ L
  · have := List.length_pos_of_mem h
    rw [if_pos h]; simp [List.length_erase_of_mem h]; omega
  · rw [if_neg h]
end Go.Lr
