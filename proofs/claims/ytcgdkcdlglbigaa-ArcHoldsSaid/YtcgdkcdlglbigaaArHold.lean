/- What requests leave, seen by membership. No program, no condition. -/
import Derived.Test.YtcgdkcdlglbigaaMsSet
import Derived.Test.YtcgdkcdlglbigaaArW3
import Derived.Test.YtcgdkcdlglbigaaArMiss
namespace Go.Ar
open Go.Lk Go.Sl Go.Tb Go.Ms
section
variable {size t k : Nat} {often : Bool} {O F A B : List Nat}
/-- What is behind room. -/
structure RoomM (O F : List Nat) (size : Nat) (full : Bool) (o : Nat) (O' F' : List Nat) : Prop where
  ou : full = true → o ∈ O ∨ o ∈ F
  sz : full = true → O.length + F.length = size
  no : full = false → o = 0
  all : ∀ x, (x ∈ O' ∨ x ∈ F') ↔ ((full = true → x ≠ o) ∧ (x ∈ O ∨ x ∈ F))
theorem cut_o {x : Nat} (ho : O.Nodup) (hd : ∀ x ∈ O, x ∉ F) (hne : O ≠ []) : (x ∈ O.dropLast ∨ x ∈ F) ↔ (x ≠ O.getLastD 0 ∧ (x ∈ O ∨ x ∈ F)) := by
  have hl := getLastD_mem hne
  rw [mem_dropLast ho hne]
  constructor
  · rintro (⟨a, b⟩ | b)
    · exact ⟨a, .inl b⟩
    · exact ⟨fun e => hd _ hl (e ▸ b), .inr b⟩
  · rintro ⟨a, b | b⟩
    · exact .inl ⟨a, b⟩
    · exact .inr b
theorem cut_f {x : Nat} (hf : F.Nodup) (hd : ∀ x ∈ O, x ∉ F) (hne : F ≠ []) : (x ∈ O ∨ x ∈ F.dropLast) ↔ (x ≠ F.getLastD 0 ∧ (x ∈ O ∨ x ∈ F)) := by
  have hl := getLastD_mem hne
  rw [mem_dropLast hf hne]
  constructor
  · rintro (b | ⟨a, b⟩)
    · exact ⟨fun e => hd x b (e ▸ hl), .inl b⟩
    · exact ⟨a, .inr b⟩
  · rintro ⟨a, b | b⟩
    · exact .inl b
    · exact .inr ⟨a, b⟩
theorem room_memA (ho : O.Nodup) (hf : F.Nodup) (hd : ∀ x ∈ O, x ∉ F) (hl : O.length + F.length ≤ size) (hF : O.length = size → fromO often ⟨O, F, A, B, t⟩) : RoomM O F size (roomB size ⟨O, F, A, B, t⟩) (roomO size often ⟨O, F, A, B, t⟩) (roomS size often ⟨O, F, A, B, t⟩).O (roomS size often ⟨O, F, A, B, t⟩).F := by
  by_cases hr : O.length + F.length < size
  · obtain ⟨e1, e2, e3⟩ := room_no (often := often) (A := A) (B := B) (t := t) hr
    rw [e1, e2]
    exact ⟨fun h => (by cases h), fun h => (by cases h), fun _ => by omega, fun x => by simp⟩
  · by_cases hc : fromO often ⟨O, F, A, B, t⟩
    · obtain ⟨e1, e2, e3⟩ := room_o hr hc
      have hne : O ≠ [] := List.length_pos_iff.1 hc.1
      rw [e1, e2, e3]
      exact ⟨fun _ => .inl (getLastD_mem hne), fun _ => by omega, fun h => (by cases h), fun x => by dsimp only; rw [cut_o ho hd hne]; simp⟩
    · obtain ⟨e1, e2, e3⟩ := room_f hr hc
      have hne := f_pos hr hl hF hc
      rw [e1, e2, e3]
      exact ⟨fun _ => .inr (getLastD_mem hne), fun _ => by omega, fun h => (by cases h), fun x => by dsimp only; rw [cut_f hf hd hne]; simp⟩
theorem miss_mem (iv : Inv size ⟨O, F, A, B, t⟩) (h1 : 1 ≤ size) : RoomM O F size (missB size ⟨O, F, A, B, t⟩) (missO size ⟨O, F, A, B, t⟩) (missS size ⟨O, F, A, B, t⟩).O (missS size ⟨O, F, A, B, t⟩).F := by
  obtain ⟨⟨o, f, a, b⟩, n1, n2, n3⟩ := iv.parts
  obtain ⟨l1, l2, l3, l4⟩ := iv.lens
  have hd : ∀ x ∈ O, x ∉ F := fun x hx => (n1 x hx).1
  by_cases c1 : O.length = size
  · obtain ⟨e1, e2, e3⟩ := miss_full (E := F) (A := A) (B := B) (t := t) c1
    have hne : O ≠ [] := fun e => by rw [e] at c1; simp only [List.length_nil] at c1; omega
    rw [e1, e2, e3]
    exact ⟨fun _ => .inl (getLastD_mem hne), fun _ => by omega, fun h => (by cases h), fun x => by dsimp only; rw [cut_o o hd hne]; simp⟩
  · by_cases c2 : O.length + A.length = size
    · obtain ⟨e1, e2, e3⟩ := miss_a (E := F) (B := B) (t := t) c1 c2
      rw [e1, e2, e3]
      exact room_memA o f hd l1 fun x => absurd x c1
    · by_cases c3 : O.length + F.length + A.length + B.length = 2 * size
      · obtain ⟨e1, e2, e3⟩ := miss_b (t := t) c1 c2 c3
        rw [e1, e2, e3]
        exact room_memA o f hd l1 fun x => absurd x c1
      · obtain ⟨e1, e2, e3⟩ := miss_c (t := t) c1 c2 c3
        rw [e1, e2, e3]
        exact room_memA o f hd l1 fun x => absurd x c1
/-- A request for a key that is not there. -/
theorem use_memA (iv : Inv size ⟨O, F, A, B, t⟩) (h1 : 1 ≤ size) (n1 : k ∉ O) (n2 : k ∉ F) : ∃ full o, Ar.useH ⟨O, F, A, B, t⟩ k = false ∧ Ar.useL size ⟨O, F, A, B, t⟩ k = full ∧ Ar.useO size ⟨O, F, A, B, t⟩ k = o ∧ (full = true → o ∈ O ∨ o ∈ F) ∧ (full = true → O.length + F.length = size) ∧ (full = false → o = 0) ∧
    ∀ x, (x ∈ (Ar.useS size ⟨O, F, A, B, t⟩ k).O ∨ x ∈ (Ar.useS size ⟨O, F, A, B, t⟩ k).F) ↔ (x = k ∨ ((full = true → x ≠ o) ∧ (x ∈ O ∨ x ∈ F))) := by
  have hn : ¬ (k ∈ O ∨ k ∈ F) := fun h => h.elim n1 n2
  obtain ⟨⟨o, f, a, b⟩, q1, q2, q3⟩ := iv.parts
  obtain ⟨l1, l2, l3, l4⟩ := iv.lens
  have hd : ∀ x ∈ O, x ∉ F := fun x hx => (q1 x hx).1
  by_cases hA : k ∈ A
  · obtain ⟨e1, e2, e3, e4⟩ := use_a (size := size) (B := B) (t := t) hn hA
    have hAl := List.length_pos_of_mem hA
    have hm := room_memA (A := A) (B := B) (t := upT size ⟨O, F, A, B, t⟩) (often := false) o f hd l1 fun x => by omega
    refine ⟨_, _, e2, e3, e4, hm.ou, hm.sz, hm.no, fun x => ?_⟩
    rw [e1, ← hm.all x]
    dsimp only
    rw [List.mem_cons, or_left_comm]
  · by_cases hB : k ∈ B
    · obtain ⟨e1, e2, e3, e4⟩ := use_b (size := size) (t := t) hn hA hB
      have hdl := iv.down_le
      have hm := room_memA (A := A) (B := B) (t := downT ⟨O, F, A, B, t⟩) (often := true) o f hd l1 fun x => ⟨show 0 < O.length by omega, (Nat.lt_or_eq_of_le (show downT ⟨O, F, A, B, t⟩ ≤ O.length by omega)).elim .inl (fun h => .inr ⟨h.symm, rfl⟩)⟩
      refine ⟨_, _, e2, e3, e4, hm.ou, hm.sz, hm.no, fun x => ?_⟩
      rw [e1, ← hm.all x]
      dsimp only
      rw [List.mem_cons, or_left_comm]
    · obtain ⟨e1, e2, e3, e4⟩ := use_new (size := size) (t := t) hn hA hB
      have hm := miss_mem iv h1
      refine ⟨_, _, e2, e3, e4, hm.ou, hm.sz, hm.no, fun x => ?_⟩
      rw [e1, ← hm.all x]
      dsimp only
      rw [List.mem_cons, or_assoc]
/-- A request for a key that is there. -/
theorem use_hitA (iv : Inv size ⟨O, F, A, B, t⟩) (h : k ∈ O ∨ k ∈ F) : ∀ x, (x ∈ (Ar.useS size ⟨O, F, A, B, t⟩ k).O ∨ x ∈ (Ar.useS size ⟨O, F, A, B, t⟩ k).F) ↔ (x ∈ O ∨ x ∈ F) := fun x => by
  obtain ⟨e1, _, _, _⟩ := use_hit (size := size) (A := A) (B := B) (t := t) h
  obtain ⟨⟨o, f, a, b⟩, q1, q2, q3⟩ := iv.parts
  rw [e1]
  dsimp only
  rw [List.mem_cons, o.mem_erase_iff, f.mem_erase_iff]
  by_cases hx : x = k
  · subst hx; simp [h]
  · simp [hx]
end
end Go.Ar
