/- Keys that are requested once, plainly. No program, no condition. -/
import Derived.Test.YtcgdkcdlglbigaaTqW3
namespace Go.Tq
open Go.Lk Go.Sl Go.Tb
/-- Numbers below one, downwards. -/
def mainL (i : Nat) : List Nat := (List.range i).reverse
theorem mainL_succ {i : Nat} : mainL (i + 1) = i :: mainL i := by unfold mainL; rw [List.range_succ, List.reverse_append]; rfl
theorem mainL_len {i : Nat} : (mainL i).length = i := by simp [mainL]
theorem mem_mainL {i x : Nat} : x ∈ mainL i ↔ x < i := by simp [mainL]
theorem mem_addL {gm k x : Nat} {G : List Nat} (h : x ∈ Gh.addL gm G k) : x = k ∨ x ∈ G := by
  unfold Gh.addL at h
  split at h
  · rcases List.mem_cons.1 h with h | h
    · exact .inl h
    · exact .inr (List.mem_of_mem_erase h)
  · split at h
    · exact List.mem_cons.1 h
    · exact List.mem_cons.1 (List.dropLast_subset _ h)
theorem in_addL {gm k : Nat} {G : List Nat} (hg : G.length ≤ gm) (h : 1 ≤ gm) : k ∈ Gh.addL gm G k := by
  unfold Gh.addL
  split
  · simp
  · split
    · simp
    · match G, hg with
      | [], _ => rename_i h1; simp at h1; omega
      | y :: G, _ => simp [List.dropLast]
section
variable {size most gm i o t k : Nat} {Q M G : List Nat}
theorem room_Q (hl : Q.length + M.length ≤ size) (hm : M.length + most < size) : (roomS size most gm ⟨Q, M, G⟩ = ⟨Q, M, G⟩ ∧ Q.length + M.length < size) ∨ (roomS size most gm ⟨Q, M, G⟩ = ⟨Q.dropLast, M, Gh.addL gm G (Q.getLastD 0)⟩ ∧ Q.length + M.length = size ∧ Q ≠ []) := by
  by_cases h : Q.length + M.length < size
  · exact .inl ⟨(room_no (most := most) (gm := gm) (G := G) h).1, h⟩
  · refine .inr ⟨(room_q (gm := gm) (G := G) h (.inl (by omega))).1, by omega, fun e => ?_⟩
    rw [e] at h
    simp only [List.length_nil] at h
    omega
/-- Ahead of a key: the queue has others. -/
structure IA (i o : Nat) (Q M G : List Nat) : Prop where
  m : M = mainL i
  q : ∀ x ∈ Q, 1000 ≤ x ∧ x < o
  g : ∀ x ∈ G, x < i ∨ 1000 ≤ x ∧ x < o
/-- A key in the queue, behind others. -/
structure IB (i o t : Nat) (Q M G : List Nat) : Prop where
  m : M = mainL i
  q : ∃ P R, Q = P ++ i :: R ∧ P.length = t ∧ ∀ x ∈ P ++ R, 1000 ≤ x ∧ x < o
  g : ∀ x ∈ G, x < i ∨ 1000 ≤ x ∧ x < o
/-- A key that has become a ghost. -/
structure IC (size i o : Nat) (Q M G : List Nat) : Prop where
  m : M = mainL i
  q : ∀ x ∈ Q, 1000 ≤ x ∧ x < o
  h : i ∈ G
  g : ∀ x ∈ G, x ≤ i ∨ 1000 ≤ x ∧ x < o
  f : Q.length + M.length = size
theorem getLastD_mem (h : Q ≠ []) : Q.getLastD 0 ∈ Q := by
  rw [List.getLastD_eq_getLast?, List.getLast?_eq_some_getLast h]
  exact List.getLast_mem h
theorem IA.start : IA 0 1000 [] [] [] := ⟨rfl, fun x h => (by cases h), fun x h => (by cases h)⟩
/-- Another key is requested. -/
theorem IA.other (h : IA i o Q M G) (ho : 1000 ≤ o) (hi : i < 1000) (hl : Q.length + M.length ≤ size) (hm : M.length + most < size) : (o ∉ M ∧ o ∉ Q ∧ o ∉ G) ∧ IA i (o + 1) (useS size most gm ⟨Q, M, G⟩ o).Q (useS size most gm ⟨Q, M, G⟩ o).M (useS size most gm ⟨Q, M, G⟩ o).G := by
  have n1 : o ∉ M := fun x => by rw [h.m, mem_mainL] at x; omega
  have n2 : o ∉ Q := fun x => by have := h.q o x; omega
  have n3 : o ∉ G := fun x => by have := h.g o x; omega
  refine ⟨⟨n1, n2, n3⟩, ?_⟩
  rw [use_new n1 n2 n3]
  dsimp only
  rcases room_Q (gm := gm) (G := G) hl hm with ⟨e, _⟩ | ⟨e, _, hne⟩
  · rw [e]
    refine ⟨h.m, fun x hx => ?_, fun x hx => ?_⟩
    · rcases List.mem_cons.1 hx with rfl | hx
      · omega
      · have := h.q x hx; omega
    · have := h.g x hx; omega
  · rw [e]
    refine ⟨h.m, fun x hx => ?_, fun x hx => ?_⟩
    · rcases List.mem_cons.1 hx with rfl | hx
      · omega
      · have := h.q x (List.dropLast_subset _ hx); omega
    · rcases mem_addL hx with rfl | hx
      · have := h.q _ (getLastD_mem hne); omega
      · have := h.g x hx; omega
/-- The key is requested. -/
theorem IA.key (h : IA i o Q M G) (hi : i < 1000) (hl : Q.length + M.length ≤ size) (hm : M.length + most < size) : (i ∉ M ∧ i ∉ Q ∧ i ∉ G) ∧ IB i o 0 (useS size most gm ⟨Q, M, G⟩ i).Q (useS size most gm ⟨Q, M, G⟩ i).M (useS size most gm ⟨Q, M, G⟩ i).G := by
  have n1 : i ∉ M := fun x => by rw [h.m, mem_mainL] at x; omega
  have n2 : i ∉ Q := fun x => by have := h.q i x; omega
  have n3 : i ∉ G := fun x => by have := h.g i x; omega
  refine ⟨⟨n1, n2, n3⟩, ?_⟩
  rw [use_new n1 n2 n3]
  dsimp only
  rcases room_Q (gm := gm) (G := G) hl hm with ⟨e, _⟩ | ⟨e, _, hne⟩
  · rw [e]
    exact ⟨h.m, ⟨[], Q, rfl, rfl, fun x hx => h.q x hx⟩, h.g⟩
  · rw [e]
    refine ⟨h.m, ⟨[], Q.dropLast, rfl, rfl, fun x hx => h.q x (List.dropLast_subset _ hx)⟩, fun x hx => ?_⟩
    rcases mem_addL hx with rfl | hx
    · have := h.q _ (getLastD_mem hne); omega
    · exact h.g x hx
theorem IB.len (h : IB i o t Q M G) : t < Q.length ∧ i ∈ Q := by
  obtain ⟨P, R, rfl, hP, _⟩ := h.q
  exact ⟨by simp; omega, by simp⟩
/-- Others push it on, or out. -/
theorem IB.other (h : IB i o t Q M G) (ho : 1000 ≤ o) (hi : i < 1000) (hl : Q.length + M.length ≤ size) (hm : M.length + most < size) (hg : G.length ≤ gm) (hgm : 1 ≤ gm) : (o ∉ M ∧ o ∉ Q ∧ o ∉ G) ∧ (IB i (o + 1) (t + 1) (useS size most gm ⟨Q, M, G⟩ o).Q (useS size most gm ⟨Q, M, G⟩ o).M (useS size most gm ⟨Q, M, G⟩ o).G ∨ IC size i (o + 1) (useS size most gm ⟨Q, M, G⟩ o).Q (useS size most gm ⟨Q, M, G⟩ o).M (useS size most gm ⟨Q, M, G⟩ o).G) := by
  obtain ⟨P, R, rfl, hP, hx⟩ := h.q
  have n1 : o ∉ M := fun x => by rw [h.m, mem_mainL] at x; omega
  have n2 : o ∉ P ++ i :: R := fun x => by
    rcases List.mem_append.1 x with x | x
    · have := hx o (List.mem_append_left _ x); omega
    · rcases List.mem_cons.1 x with x | x
      · omega
      · have := hx o (List.mem_append_right _ x); omega
  have n3 : o ∉ G := fun x => by have := h.g o x; omega
  refine ⟨⟨n1, n2, n3⟩, ?_⟩
  rw [use_new n1 n2 n3]
  dsimp only
  have hP2 : ∀ x ∈ o :: P, 1000 ≤ x ∧ x < o + 1 := fun x y => by
    rcases List.mem_cons.1 y with rfl | y
    · omega
    · have := hx x (List.mem_append_left _ y); omega
  rcases room_Q (gm := gm) (G := G) hl hm with ⟨e, _⟩ | ⟨e, hf, _⟩
  · rw [e]
    refine .inl ⟨h.m, ⟨o :: P, R, rfl, by simp [hP], fun x y => ?_⟩, fun x y => by have := h.g x y; omega⟩
    rcases List.mem_append.1 y with y | y
    · exact hP2 x y
    · have := hx x (List.mem_append_right _ y); omega
  · rw [e]
    by_cases hR : R = []
    · subst hR
      refine .inr ⟨h.m, ?_, ?_, fun x y => ?_, ?_⟩
      · dsimp only
        rw [List.dropLast_concat]
        exact hP2
      · dsimp only
        rw [getLastD_snoc]
        exact in_addL hg hgm
      · dsimp only at y
        rw [getLastD_snoc] at y
        rcases mem_addL y with rfl | y
        · omega
        · have := h.g x y; omega
      · dsimp only
        rw [List.dropLast_concat]
        simp only [List.length_append, List.length_cons, List.length_nil] at hf ⊢
        omega
    · have hd : (P ++ i :: R).dropLast = P ++ i :: R.dropLast := by
        rw [List.dropLast_append_of_ne_nil (by simp)]
        match R, hR with
        | y :: R, _ => rfl
      have hlast : (P ++ i :: R).getLastD 0 ∈ R := by
        rw [List.getLastD_eq_getLast?, List.getLast?_append]
        match R, hR with
        | y :: R, _ =>
          rw [List.getLast?_cons_cons, List.getLast?_eq_some_getLast (by simp)]
          exact List.getLast_mem _
      refine .inl ⟨h.m, ⟨o :: P, R.dropLast, by dsimp only; rw [hd]; rfl, by simp [hP], fun x y => ?_⟩, fun x y => ?_⟩
      · rcases List.mem_append.1 y with y | y
        · exact hP2 x y
        · have := hx x (List.mem_append_right _ (List.dropLast_subset _ y)); omega
      · rcases mem_addL y with rfl | y
        · have := hx _ (List.mem_append_right P hlast); omega
        · have := h.g x y; omega
/-- The ghost is requested. -/
theorem IC.key (h : IC size i o Q M G) (_ho : 1000 ≤ o) (hi : i < 1000) (hm : M.length + most < size) : (i ∉ M ∧ i ∉ Q) ∧ IA (i + 1) o (useS size most gm ⟨Q, M, G⟩ i).Q (useS size most gm ⟨Q, M, G⟩ i).M (useS size most gm ⟨Q, M, G⟩ i).G := by
  have n1 : i ∉ M := fun x => by rw [h.m, mem_mainL] at x; omega
  have n2 : i ∉ Q := fun x => by have := h.q i x; omega
  refine ⟨⟨n1, n2⟩, ?_⟩
  rw [use_ghost n1 n2 h.h]
  dsimp only
  have hf := h.f
  rcases room_Q (gm := gm) (G := G.erase i) (Nat.le_of_eq hf) hm with ⟨_, e⟩ | ⟨e, _, hne⟩
  · omega
  · rw [e]
    refine ⟨by dsimp only; rw [h.m, mainL_succ], fun x y => h.q x (List.dropLast_subset _ y), fun x y => ?_⟩
    rcases mem_addL y with rfl | y
    · have := h.q _ (getLastD_mem hne); omega
    · have := h.g x (List.mem_of_mem_erase y); omega
end
end Go.Tq
