/- Adaptive replacement, plainly: four lists of keys, a target. No program, no condition. -/
import Derived.Test.YtcgdkcdlglbigaaTqTheory
import Derived.Test.YtcgdkcdlglbigaaGhF
import Derived.Test.YtcgdkcdlglbigaaLrTheory
namespace Go.Ar
open Go.Lk Go.Sl Go.Tb
/-- The keys that were used once lately, and several times; the ghosts of both; the newest first; the target. -/
structure St where
  O : List Nat
  F : List Nat
  A : List Nat
  B : List Nat
  t : Nat
/-- Whether room is made among the keys that were used once. -/
def fromO (often : Bool) (s : St) : Prop := 0 < s.O.length ∧ (s.t < s.O.length ∨ (s.O.length = s.t ∧ often = true))
instance {often : Bool} {s : St} : Decidable (fromO often s) := by unfold fromO; infer_instance
def roomS (size : Nat) (often : Bool) (s : St) : St := if s.O.length + s.F.length < size then s else if fromO often s then ⟨s.O.dropLast, s.F, s.O.getLastD 0 :: s.A, s.B, s.t⟩ else ⟨s.O, s.F.dropLast, s.A, s.F.getLastD 0 :: s.B, s.t⟩
def roomB (size : Nat) (s : St) : Bool := decide (size ≤ s.O.length + s.F.length)
def roomO (size : Nat) (often : Bool) (s : St) : Nat := if s.O.length + s.F.length < size then 0 else if fromO often s then s.O.getLastD 0 else s.F.getLastD 0
def all (s : St) : Nat := s.O.length + s.F.length + s.A.length + s.B.length
/-- Room for a key that is in no list. -/
def missP (size : Nat) (s : St) : St := if s.O.length + s.A.length = size then ⟨s.O, s.F, s.A.dropLast, s.B, s.t⟩ else if all s = 2 * size then ⟨s.O, s.F, s.A, s.B.dropLast, s.t⟩ else s
def missS (size : Nat) (s : St) : St := if s.O.length = size then ⟨s.O.dropLast, s.F, s.A, s.B, s.t⟩ else roomS size false (missP size s)
def missB (size : Nat) (s : St) : Bool := if s.O.length = size then true else roomB size s
def missO (size : Nat) (s : St) : Nat := if s.O.length = size then s.O.getLastD 0 else roomO size false s
def upT (size : Nat) (s : St) : Nat := min size (s.t + max 1 (s.B.length / s.A.length))
def downT (s : St) : Nat := s.t - max 1 (s.A.length / s.B.length)
/-- A request. -/
def useS (size : Nat) (s : St) (k : Nat) : St :=
  if k ∈ s.O ∨ k ∈ s.F then ⟨s.O.erase k, k :: s.F.erase k, s.A, s.B, s.t⟩
  else if k ∈ s.A then ⟨(roomS size false ⟨s.O, s.F, s.A, s.B, upT size s⟩).O, k :: (roomS size false ⟨s.O, s.F, s.A, s.B, upT size s⟩).F, (roomS size false ⟨s.O, s.F, s.A, s.B, upT size s⟩).A.erase k, (roomS size false ⟨s.O, s.F, s.A, s.B, upT size s⟩).B, upT size s⟩
  else if k ∈ s.B then ⟨(roomS size true ⟨s.O, s.F, s.A, s.B, downT s⟩).O, k :: (roomS size true ⟨s.O, s.F, s.A, s.B, downT s⟩).F, (roomS size true ⟨s.O, s.F, s.A, s.B, downT s⟩).A, (roomS size true ⟨s.O, s.F, s.A, s.B, downT s⟩).B.erase k, downT s⟩
  else ⟨k :: (missS size s).O, (missS size s).F, (missS size s).A, (missS size s).B, s.t⟩
def useH (s : St) (k : Nat) : Bool := decide (k ∈ s.O ∨ k ∈ s.F)
def useL (size : Nat) (s : St) (k : Nat) : Bool := if k ∈ s.O ∨ k ∈ s.F then false else if k ∈ s.A ∨ k ∈ s.B then roomB size s else missB size s
def useO (size : Nat) (s : St) (k : Nat) : Nat := if k ∈ s.O ∨ k ∈ s.F then 0 else if k ∈ s.A then roomO size false ⟨s.O, s.F, s.A, s.B, upT size s⟩ else if k ∈ s.B then roomO size true ⟨s.O, s.F, s.A, s.B, downT s⟩ else missO size s
/-- What holds of the lists. -/
structure Inv (size : Nat) (s : St) : Prop where
  nd : ((s.O ++ s.F) ++ (s.A ++ s.B)).Nodup
  len : s.O.length + s.F.length ≤ size
  oa : s.O.length + s.A.length ≤ size
  al : all s ≤ 2 * size
  t : s.t ≤ size
namespace Inv
variable {size : Nat} {O F A B : List Nat} {t k : Nat} {often : Bool}
theorem parts (h : Inv size ⟨O, F, A, B, t⟩) : (O.Nodup ∧ F.Nodup ∧ A.Nodup ∧ B.Nodup) ∧ (∀ x ∈ O, x ∉ F ∧ x ∉ A ∧ x ∉ B) ∧ (∀ x ∈ F, x ∉ A ∧ x ∉ B) ∧ (∀ x ∈ A, x ∉ B) := by
  have h1 := h.nd
  dsimp only at h1
  rw [List.nodup_append, List.nodup_append, List.nodup_append] at h1
  obtain ⟨⟨o, f, of⟩, ⟨a, b, ab⟩, x⟩ := h1
  refine ⟨⟨o, f, a, b⟩, fun y hy => ⟨fun h => of y hy y h rfl, fun h => x y (List.mem_append_left _ hy) y (List.mem_append_left _ h) rfl, fun h => x y (List.mem_append_left _ hy) y (List.mem_append_right _ h) rfl⟩, fun y hy => ⟨fun h => x y (List.mem_append_right _ hy) y (List.mem_append_left _ h) rfl, fun h => x y (List.mem_append_right _ hy) y (List.mem_append_right _ h) rfl⟩, fun y hy h => ab y hy y h rfl⟩
theorem mk' (h1 : O.Nodup ∧ F.Nodup ∧ A.Nodup ∧ B.Nodup) (h2 : ∀ x ∈ O, x ∉ F ∧ x ∉ A ∧ x ∉ B) (h3 : ∀ x ∈ F, x ∉ A ∧ x ∉ B) (h4 : ∀ x ∈ A, x ∉ B) (l1 : O.length + F.length ≤ size) (l2 : O.length + A.length ≤ size) (l3 : O.length + F.length + A.length + B.length ≤ 2 * size) (l4 : t ≤ size) : Inv size ⟨O, F, A, B, t⟩ := by
  refine ⟨?_, l1, l2, l3, l4⟩
  dsimp only
  rw [List.nodup_append, List.nodup_append, List.nodup_append]
  refine ⟨⟨h1.1, h1.2.1, fun x hx y hy e => (h2 x hx).1 (e ▸ hy)⟩, ⟨h1.2.2.1, h1.2.2.2, fun x hx y hy e => h4 x hx (e ▸ hy)⟩, fun x hx y hy e => ?_⟩
  subst e
  rcases List.mem_append.1 hx with hx | hx
  · rcases List.mem_append.1 hy with hy | hy
    · exact (h2 x hx).2.1 hy
    · exact (h2 x hx).2.2 hy
  · rcases List.mem_append.1 hy with hy | hy
    · exact (h3 x hx).1 hy
    · exact (h3 x hx).2 hy
theorem lens (h : Inv size ⟨O, F, A, B, t⟩) : O.length + F.length ≤ size ∧ O.length + A.length ≤ size ∧ O.length + F.length + A.length + B.length ≤ 2 * size ∧ t ≤ size := ⟨h.len, h.oa, h.al, h.t⟩
theorem setT (h : Inv size ⟨O, F, A, B, t⟩) {t' : Nat} (ht : t' ≤ size) : Inv size ⟨O, F, A, B, t'⟩ := ⟨h.nd, h.len, h.oa, h.al, ht⟩
theorem last_mem {L : List Nat} (h : L ≠ []) : L.getLastD 0 ∈ L := by
  rw [List.getLastD_eq_getLast?, List.getLast?_eq_some_getLast h]
  exact List.getLast_mem h
theorem nd_last {L : List Nat} (h : L.Nodup) (hne : L ≠ []) : L.dropLast.Nodup ∧ (∀ x ∈ L.dropLast, x ∈ L ∧ x ≠ L.getLastD 0) ∧ L.dropLast.length + 1 = L.length := by
  have e := h.erase_last hne
  have hl := last_mem hne
  refine ⟨h.sublist (List.dropLast_sublist _), fun x hx => ?_, ?_⟩
  · rw [← e, h.mem_erase_iff] at hx
    exact ⟨hx.2, hx.1⟩
  · have := List.length_pos_iff.2 hne
    rw [List.length_dropLast]; omega
/-- Room is made; what a list of ghosts gets is new. -/
theorem room (h : Inv size ⟨O, F, A, B, t⟩) (_h1 : 1 ≤ size) (hF : O.length = size → fromO often ⟨O, F, A, B, t⟩) : Inv size (roomS size often ⟨O, F, A, B, t⟩) ∧ (roomS size often ⟨O, F, A, B, t⟩).O.length + (roomS size often ⟨O, F, A, B, t⟩).F.length < size ∧ (roomS size often ⟨O, F, A, B, t⟩).t = t := by
  obtain ⟨⟨o, f, a, b⟩, n1, n2, n3⟩ := h.parts
  obtain ⟨l1, l2, l3, l4⟩ := h.lens
  unfold roomS
  dsimp only
  split
  · rename_i hr
    exact ⟨h, hr, rfl⟩
  · rename_i hr
    split
    · rename_i hc
      have hne : O ≠ [] := List.length_pos_iff.1 hc.1
      obtain ⟨d1, d2, d3⟩ := nd_last o hne
      have hl := last_mem hne
      refine ⟨mk' ⟨d1, f, List.nodup_cons.2 ⟨(n1 _ hl).2.1, a⟩, b⟩ (fun x hx => ?_) (fun x hx => ?_) (fun x hx => ?_) (by omega) (by simp only [List.length_cons]; omega) (by simp only [List.length_cons]; omega) l4, by dsimp only; omega, rfl⟩
      · obtain ⟨y1, y2⟩ := d2 x hx
        obtain ⟨z1, z2, z3⟩ := n1 x y1
        exact ⟨z1, fun hm => (List.mem_cons.1 hm).elim y2 z2, z3⟩
      · obtain ⟨z1, z2⟩ := n2 x hx
        exact ⟨fun hm => (List.mem_cons.1 hm).elim (fun e => (n1 _ hl).1 (e ▸ hx)) z1, z2⟩
      · rcases List.mem_cons.1 hx with e | hx
        · rw [e]; exact (n1 _ hl).2.2
        · exact n3 x hx
    · rename_i hc
      have hne : F ≠ [] := fun e => by
        rw [e] at hr
        simp only [List.length_nil] at hr
        exact hc (hF (by omega))
      obtain ⟨d1, d2, d3⟩ := nd_last f hne
      have hl := last_mem hne
      refine ⟨mk' ⟨o, d1, a, List.nodup_cons.2 ⟨(n2 _ hl).2, b⟩⟩ (fun x hx => ?_) (fun x hx => ?_) (fun x hx => ?_) (by omega) (by omega) (by simp only [List.length_cons]; omega) l4, by dsimp only; omega, rfl⟩
      · obtain ⟨z1, z2, z3⟩ := n1 x hx
        exact ⟨fun hm => z1 (d2 x hm).1, z2, fun hm => (List.mem_cons.1 hm).elim (fun e => z1 (e ▸ hl)) z3⟩
      · obtain ⟨y1, y2⟩ := d2 x hx
        obtain ⟨z1, z2⟩ := n2 x y1
        exact ⟨z1, fun hm => (List.mem_cons.1 hm).elim y2 z2⟩
      · exact fun hm => (List.mem_cons.1 hm).elim (fun e => (n2 _ hl).1 (e ▸ hx)) (n3 x hx)
end Inv
end Go.Ar
