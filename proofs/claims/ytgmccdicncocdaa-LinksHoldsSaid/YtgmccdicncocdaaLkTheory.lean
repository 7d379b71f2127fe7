/- Fields of linked lists in plain terms: lists of numbers; and when the program's nodes stand for them. No program in sight. -/
import Derived.Test.YtgmccdicncocdaaLkData
namespace Go.Lk
open Go.Sl

/-- A field: how many nodes there are, and the lists. -/
structure Fld where
  N : Nat
  L : List (List Nat)
deriving DecidableEq

/-- The list with a number (none: empty). -/
def Fld.at (f : Fld) (h : Nat) : List Nat := f.L.getD h []

/-- From 'a' over the nodes of a list to 'b', forth and back. -/
def seg (nx pv : Nat → Nat) : Nat → List Nat → Nat → Prop
  | a, [], b => nx a = b ∧ pv b = a
  | a, c :: l, b => (nx a = c ∧ pv c = a) ∧ seg nx pv c l b

theorem seg_append {nx pv : Nat → Nat} {c b : Nat} {l2 : List Nat} : ∀ {l1 : List Nat} {a : Nat}, seg nx pv a (l1 ++ c :: l2) b ↔ seg nx pv a l1 c ∧ seg nx pv c l2 b
  | [], a => by simp [seg]
  | d :: l1, a => by simp only [List.cons_append, seg, seg_append (l1 := l1)]; exact and_assoc.symm
theorem seg_congr {nx pv nx' pv' : Nat → Nat} {b : Nat} : ∀ {l : List Nat} {a : Nat}, (∀ i ∈ a :: l, nx' i = nx i) → (∀ i ∈ l, pv' i = pv i) → pv' b = pv b → seg nx pv a l b → seg nx' pv' a l b
  | [], a, h1, _, h3, h => by simp only [seg] at h ⊢; rw [h1 a (by simp), h3]; exact h
  | c :: l, a, h1, h2, h3, h => by
    simp only [seg] at h ⊢
    rw [h1 a (by simp), h2 c (by simp)]
    exact ⟨h.1, seg_congr (fun i hi => h1 i (List.mem_cons_of_mem _ hi)) (fun i hi => h2 i (List.mem_cons_of_mem _ hi)) h3 h.2⟩
/-- The last one before the end. -/
def lastOf (a : Nat) : List Nat → Nat
  | [] => a
  | c :: l => lastOf c l
theorem lastOf_mem : ∀ {l : List Nat} {a : Nat}, lastOf a l ∈ a :: l
  | [], a => by simp [lastOf]
  | c :: l, a => List.mem_cons_of_mem _ lastOf_mem
theorem seg_last {nx pv : Nat → Nat} {b : Nat} : ∀ {l : List Nat} {a : Nat}, seg nx pv a l b → pv b = lastOf a l ∧ nx (lastOf a l) = b
  | [], _a, h => ⟨h.2, h.1⟩
  | _c :: l, _a, h => seg_last (l := l) h.2
theorem seg_first {nx pv : Nat → Nat} {b : Nat} : ∀ {l : List Nat} {a : Nat}, seg nx pv a l b → nx a = (l ++ [b]).headD b ∧ pv ((l ++ [b]).headD b) = a
  | [], _a, h => h
  | _c :: _l, _a, h => h.1
theorem seg_snoc {nx pv : Nat → Nat} {n o x : Nat} : ∀ {l : List Nat} {a : Nat}, seg nx pv a l o → x = lastOf a l → n ∉ a :: l → n ≠ o → o ∉ l → (a :: l).Nodup → seg (upd (upd nx n o) x n) (upd (upd pv n x) o n) a (l ++ [n]) o
  | [], a, h, hx, h1, h2, _, _ => by
    simp only [lastOf] at hx; subst hx
    have h3 : n ≠ x := by simpa using h1
    simp only [List.nil_append, seg, upd]
    simp [h2, h3]
  | c :: l, a, h, hx, h1, h2, h3, h4 => by
    simp only [List.cons_append, seg] at h ⊢
    have hx' : x ∈ c :: l := hx ▸ lastOf_mem
    have h5 : a ≠ x := fun e => by rw [← e] at hx'; exact (List.nodup_cons.1 h4).1 hx'
    have h6 : a ≠ n := fun e => h1 (by simp [e])
    have h7 : c ≠ n := fun e => h1 (by simp [e])
    have h8 : c ≠ o := fun e => h3 (by simp [e])
    refine ⟨?_, seg_snoc h.2 hx (fun hm => h1 (List.mem_cons_of_mem _ hm)) h2 (fun hm => h3 (List.mem_cons_of_mem _ hm)) (List.nodup_cons.1 h4).2⟩
    rw [upd_ne h5, upd_ne h6, upd_ne h8, upd_ne h7]
    exact h.1
theorem seg_cut {nx pv : Nat → Nat} {n b : Nat} {l2 : List Nat} (h2 : seg nx pv n l2 b) (hn2 : n ∉ l2) (hb : b ≠ n) (hb2 : b ∉ l2) (hd2 : l2.Nodup) : ∀ {l1 : List Nat} {a : Nat}, seg nx pv a l1 n → n ∉ a :: l1 → (a :: l1).Nodup → b ∉ l1 → (∀ i ∈ a :: l1, i ∉ l2) →
    seg (upd (upd nx (pv n) (nx n)) n 0) (upd (upd pv (nx n) (pv n)) n 0) a (l1 ++ l2) b
  | [], a, h1, hn1, hd1, hb1, hdis => by
    have e1 : pv n = a := h1.2
    have han : a ≠ n := fun e => hn1 (by simp [e])
    rw [e1]
    cases l2 with
    | nil =>
      have e2 : nx n = b := h2.1
      rw [e2]
      simp [seg, upd, han, hb]
    | cons c r =>
      have e2 : nx n = c := h2.1.1
      have hcn : c ≠ n := fun e => hn2 (by simp [e])
      rw [e2]
      refine ⟨by simp [upd, han, hcn], ?_⟩
      refine seg_congr ?_ ?_ ?_ h2.2
      · intro i hi
        have h3 : i ≠ n := fun e => hn2 (e ▸ hi)
        have h4 : i ≠ a := fun e => hdis a (by simp) (e ▸ hi)
        rw [upd_ne h3, upd_ne h4]
      · intro i hi
        have h3 : i ≠ n := fun e => hn2 (e ▸ List.mem_cons_of_mem _ hi)
        have h4 : i ≠ c := fun e => (List.nodup_cons.1 hd2).1 (e ▸ hi)
        rw [upd_ne h3, upd_ne h4]
      · have h4 : b ≠ c := fun e => hb2 (by simp [e])
        rw [upd_ne hb, upd_ne h4]
  | c :: l, a, h1, hn1, hd1, hb1, hdis => by
    simp only [List.cons_append, seg] at h1 ⊢
    refine ⟨?_, seg_cut h2 hn2 hb hb2 hd2 h1.2 (fun hm => hn1 (List.mem_cons_of_mem _ hm)) (List.nodup_cons.1 hd1).2 (fun hm => hb1 (List.mem_cons_of_mem _ hm)) (fun i hi => hdis i (List.mem_cons_of_mem _ hi))⟩
    have e1 : pv n ∈ c :: l := (seg_last h1.2).1 ▸ lastOf_mem
    have h3 : a ≠ pv n := fun e => (List.nodup_cons.1 hd1).1 (e ▸ e1)
    have h4 : a ≠ n := fun e => hn1 (by simp [e])
    have h5 : c ≠ n := fun e => hn1 (by simp [e])
    have h6 : c ≠ nx n := fun e => by
      have e2 := (seg_first h2).1
      cases l2 with
      | nil => rw [← e] at e2; exact hb1 (by simp at e2; simp [e2])
      | cons d r => rw [← e] at e2; simp at e2; exact hdis c (by simp) (by simp [e2])
    rw [upd_ne h4, upd_ne h3, upd_ne h5, upd_ne h6]
    exact h1.1

/-- The program's nodes 's' stand for the field 'f'. -/
structure Repr (s : LS) (f : Fld) : Prop where
  N : s.N = f.N
  M : s.M = f.L.length
  n1 : 1 ≤ s.N
  n2 : s.N ≤ 4194304
  m1 : 1 ≤ s.M
  m2 : s.M ≤ 4096
  pvb : ∀ i, i < s.N + s.M → s.pv i < s.N + s.M
  nxb : ∀ i, i < s.N + s.M → s.nx i < s.N + s.M
  ring : ∀ h, h < s.M → s.of (s.N + h) = h + 1
  ofb : ∀ n, n < s.N → s.of n ≤ s.M
  mem : ∀ h, h < s.M → ∀ n, n ∈ f.at h ↔ n < s.N ∧ s.of n = h + 1
  nodup : ∀ h, h < s.M → (f.at h).Nodup
  seg : ∀ h, h < s.M → seg s.nx s.pv (s.N + h) (f.at h) (s.N + h)
  ln : ∀ h, s.ln h = (f.at h).length
namespace Repr
variable {s : LS} {f : Fld}
theorem lt (r : Repr s f) {h n : Nat} (hh : h < s.M) (hn : n ∈ f.at h) : n < s.N := ((r.mem h hh n).1 hn).1
theorem of_mem (r : Repr s f) {h n : Nat} (hh : h < s.M) (hn : n ∈ f.at h) : s.of n = h + 1 := ((r.mem h hh n).1 hn).2
theorem at_big (r : Repr s f) {h : Nat} (hh : s.M ≤ h) : f.at h = [] := by
  unfold Fld.at; rw [List.getD_eq_getElem?_getD, List.getElem?_eq_none (by have := r.M; omega)]; rfl
theorem len_le (r : Repr s f) (h : Nat) : (f.at h).length ≤ s.N := by
  rcases Nat.lt_or_ge h s.M with hh | hh
  · have := List.Nodup.length_le_of_subset (r.nodup h hh) (l₂ := List.range s.N) (fun n hn => List.mem_range.2 (r.lt hh hn))
    simpa using this
  · rw [r.at_big hh]; simp
/-- Every node with a list, a ring's own too, is in a segment. -/
theorem home (r : Repr s f) {i : Nat} (hi : i < s.N + s.M) (ho : s.of i ≠ 0) : ∃ h, h < s.M ∧ s.of i = h + 1 ∧ i ∈ (s.N + h) :: f.at h := by
  rcases Nat.lt_or_ge i s.N with h1 | h1
  · have := r.ofb i h1
    refine ⟨s.of i - 1, by omega, by omega, List.mem_cons_of_mem _ ?_⟩
    exact (r.mem _ (by omega) i).2 ⟨h1, by omega⟩
  · refine ⟨i - s.N, by omega, ?_, by simp; omega⟩
    have := r.ring (i - s.N) (by omega)
    rw [show s.N + (i - s.N) = i by omega] at this
    exact this
theorem ofAll (r : Repr s f) {i : Nat} (hi : i < s.N + s.M) : s.of i ≤ s.M := by
  rcases Nat.lt_or_ge i s.N with h1 | h1
  · exact r.ofb i h1
  · have := r.ring (i - s.N) (by omega)
    rw [show s.N + (i - s.N) = i by omega] at this
    omega
theorem of_seg (r : Repr s f) {h i : Nat} (hh : h < s.M) (hi : i ∈ (s.N + h) :: f.at h) : s.of i = h + 1 := by
  rcases List.mem_cons.1 hi with rfl | hi
  · exact r.ring h hh
  · exact r.of_mem hh hi
end Repr
theorem seg_ends {nx pv : Nat → Nat} {b : Nat} : ∀ {l : List Nat} {a : Nat}, seg nx pv a l b → ∀ i ∈ a :: l, nx i ∈ l ++ [b]
  | [], a, h, i, hi => by simp only [List.mem_singleton] at hi; subst hi; simp [h.1]
  | c :: l, a, h, i, hi => by
    rcases List.mem_cons.1 hi with rfl | hi
    · simp [h.1.1]
    · have := seg_ends h.2 i hi; simp at this ⊢; rcases this with h | h <;> simp [h]
theorem seg_begins {nx pv : Nat → Nat} {b : Nat} : ∀ {l : List Nat} {a : Nat}, seg nx pv a l b → ∀ i ∈ l ++ [b], pv i ∈ a :: l
  | [], a, h, i, hi => by simp at hi; subst hi; simp [h.2]
  | c :: l, a, h, i, hi => by
    simp only [List.cons_append] at hi
    rcases List.mem_cons.1 hi with rfl | hi
    · simp [h.1.2]
    · exact List.mem_cons_of_mem _ (seg_begins h.2 i hi)
theorem Repr.good {s : LS} {f : Fld} (r : Repr s f) : GoodL s where
  n1 := r.n1
  n2 := r.n2
  m1 := r.m1
  m2 := r.m2
  pv := r.pvb
  nx := r.nxb
  of i hi := r.ofAll hi
  ofp i hi ho := by
    obtain ⟨h, hh, e, hm⟩ := r.home hi ho
    have hs := r.seg h hh
    constructor
    · have : s.pv i ∈ (s.N + h) :: f.at h := seg_begins hs i (by rcases List.mem_cons.1 hm with rfl | hm <;> simp [*])
      rw [r.of_seg hh this]; omega
    · have : s.nx i ∈ f.at h ++ [s.N + h] := seg_ends hs i hm
      have : s.nx i ∈ (s.N + h) :: f.at h := by simp at this ⊢; rcases this with h | h <;> simp [h]
      rw [r.of_seg hh this]; omega
  ring := r.ring
  ln h := by rw [r.ln h]; have := r.len_le h; have := r.n2; omega
end Go.Lk
