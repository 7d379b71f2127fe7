/- Adaptive replacement, plainly: requests leave the lists as they should be. No program, no condition. -/
import Derived.Test.YtcgdkcdlglbigaaArSt
namespace Go.Ar
open Go.Lk Go.Sl Go.Tb
section
variable {size t k : Nat} {O F A B : List Nat}
theorem use_hit (h : k ∈ O ∨ k ∈ F) : useS size ⟨O, F, A, B, t⟩ k = ⟨O.erase k, k :: F.erase k, A, B, t⟩ ∧ useH ⟨O, F, A, B, t⟩ k = true ∧ useL size ⟨O, F, A, B, t⟩ k = false ∧ useO size ⟨O, F, A, B, t⟩ k = 0 := ⟨if_pos h, decide_eq_true h, if_pos h, if_pos h⟩
theorem use_a (h : ¬ (k ∈ O ∨ k ∈ F)) (h2 : k ∈ A) : useS size ⟨O, F, A, B, t⟩ k = ⟨(roomS size false ⟨O, F, A, B, upT size ⟨O, F, A, B, t⟩⟩).O, k :: (roomS size false ⟨O, F, A, B, upT size ⟨O, F, A, B, t⟩⟩).F, (roomS size false ⟨O, F, A, B, upT size ⟨O, F, A, B, t⟩⟩).A.erase k, (roomS size false ⟨O, F, A, B, upT size ⟨O, F, A, B, t⟩⟩).B, upT size ⟨O, F, A, B, t⟩⟩ ∧ useH ⟨O, F, A, B, t⟩ k = false ∧ useL size ⟨O, F, A, B, t⟩ k = roomB size ⟨O, F, A, B, upT size ⟨O, F, A, B, t⟩⟩ ∧ useO size ⟨O, F, A, B, t⟩ k = roomO size false ⟨O, F, A, B, upT size ⟨O, F, A, B, t⟩⟩ := by
  refine ⟨?_, decide_eq_false h, ?_, ?_⟩
  · unfold useS; rw [if_neg h, if_pos h2]
  · unfold useL; rw [if_neg h, if_pos (.inl h2)]; rfl
  · unfold useO; rw [if_neg h, if_pos h2]
theorem use_b (h : ¬ (k ∈ O ∨ k ∈ F)) (h2 : k ∉ A) (h3 : k ∈ B) : useS size ⟨O, F, A, B, t⟩ k = ⟨(roomS size true ⟨O, F, A, B, downT ⟨O, F, A, B, t⟩⟩).O, k :: (roomS size true ⟨O, F, A, B, downT ⟨O, F, A, B, t⟩⟩).F, (roomS size true ⟨O, F, A, B, downT ⟨O, F, A, B, t⟩⟩).A, (roomS size true ⟨O, F, A, B, downT ⟨O, F, A, B, t⟩⟩).B.erase k, downT ⟨O, F, A, B, t⟩⟩ ∧ useH ⟨O, F, A, B, t⟩ k = false ∧ useL size ⟨O, F, A, B, t⟩ k = roomB size ⟨O, F, A, B, downT ⟨O, F, A, B, t⟩⟩ ∧ useO size ⟨O, F, A, B, t⟩ k = roomO size true ⟨O, F, A, B, downT ⟨O, F, A, B, t⟩⟩ := by
  refine ⟨?_, decide_eq_false h, ?_, ?_⟩
  · unfold useS; rw [if_neg h, if_neg h2, if_pos h3]
  · unfold useL; rw [if_neg h, if_pos (.inr h3)]; rfl
  · unfold useO; rw [if_neg h, if_neg h2, if_pos h3]
theorem use_new (h : ¬ (k ∈ O ∨ k ∈ F)) (h2 : k ∉ A) (h3 : k ∉ B) : useS size ⟨O, F, A, B, t⟩ k = ⟨k :: (missS size ⟨O, F, A, B, t⟩).O, (missS size ⟨O, F, A, B, t⟩).F, (missS size ⟨O, F, A, B, t⟩).A, (missS size ⟨O, F, A, B, t⟩).B, t⟩ ∧ useH ⟨O, F, A, B, t⟩ k = false ∧ useL size ⟨O, F, A, B, t⟩ k = missB size ⟨O, F, A, B, t⟩ ∧ useO size ⟨O, F, A, B, t⟩ k = missO size ⟨O, F, A, B, t⟩ := by
  refine ⟨?_, decide_eq_false h, ?_, ?_⟩
  · unfold useS; rw [if_neg h, if_neg h2, if_neg h3]
  · unfold useL; rw [if_neg h, if_neg (fun x => x.elim h2 h3)]
  · unfold useO; rw [if_neg h, if_neg h2, if_neg h3]
end
theorem f_pos {size t : Nat} {often : Bool} {O F A B : List Nat} (hr : ¬ O.length + F.length < size) (hl : O.length + F.length ≤ size) (hF : O.length = size → fromO often ⟨O, F, A, B, t⟩) (hc : ¬ fromO often ⟨O, F, A, B, t⟩) : F ≠ [] := fun e => by
  rw [e] at hr hl
  simp only [List.length_nil] at hr hl
  exact hc (hF (by omega))
theorem miss_full {size t : Nat} {O E A B : List Nat} (h : O.length = size) : missS size ⟨O, E, A, B, t⟩ = ⟨O.dropLast, E, A, B, t⟩ ∧ missB size ⟨O, E, A, B, t⟩ = true ∧ missO size ⟨O, E, A, B, t⟩ = O.getLastD 0 := ⟨if_pos h, if_pos h, if_pos h⟩
theorem miss_a {size t : Nat} {O E A B : List Nat} (h : O.length ≠ size) (h2 : O.length + A.length = size) : missS size ⟨O, E, A, B, t⟩ = roomS size false ⟨O, E, A.dropLast, B, t⟩ ∧ missB size ⟨O, E, A, B, t⟩ = roomB size ⟨O, E, A.dropLast, B, t⟩ ∧ missO size ⟨O, E, A, B, t⟩ = roomO size false ⟨O, E, A.dropLast, B, t⟩ := by
  refine ⟨?_, if_neg h, if_neg h⟩
  unfold missS missP
  rw [if_neg h, if_pos h2]
theorem miss_b {size t : Nat} {O E A B : List Nat} (h : O.length ≠ size) (h2 : O.length + A.length ≠ size) (h3 : O.length + E.length + A.length + B.length = 2 * size) : missS size ⟨O, E, A, B, t⟩ = roomS size false ⟨O, E, A, B.dropLast, t⟩ ∧ missB size ⟨O, E, A, B, t⟩ = roomB size ⟨O, E, A, B.dropLast, t⟩ ∧ missO size ⟨O, E, A, B, t⟩ = roomO size false ⟨O, E, A, B.dropLast, t⟩ := by
  refine ⟨?_, if_neg h, if_neg h⟩
  unfold missS missP
  rw [if_neg h, if_neg h2, if_pos (show all ⟨O, E, A, B, t⟩ = 2 * size from h3)]
theorem miss_c {size t : Nat} {O E A B : List Nat} (h : O.length ≠ size) (h2 : O.length + A.length ≠ size) (h3 : O.length + E.length + A.length + B.length ≠ 2 * size) : missS size ⟨O, E, A, B, t⟩ = roomS size false ⟨O, E, A, B, t⟩ ∧ missB size ⟨O, E, A, B, t⟩ = roomB size ⟨O, E, A, B, t⟩ ∧ missO size ⟨O, E, A, B, t⟩ = roomO size false ⟨O, E, A, B, t⟩ := by
  refine ⟨?_, if_neg h, if_neg h⟩
  unfold missS missP
  rw [if_neg h, if_neg h2, if_neg (show ¬ all ⟨O, E, A, B, t⟩ = 2 * size from h3)]
/-- What a list has behind room for others. -/
theorem room_sub {size t : Nat} {often : Bool} {O F A B : List Nat} (hl : O.length + F.length ≤ size) (hF : O.length = size → fromO often ⟨O, F, A, B, t⟩) : (∀ x, x ∈ (roomS size often ⟨O, F, A, B, t⟩).O → x ∈ O) ∧ (∀ x, x ∈ (roomS size often ⟨O, F, A, B, t⟩).F → x ∈ F) ∧ (∀ x, x ∈ (roomS size often ⟨O, F, A, B, t⟩).A → x ∈ A ∨ x ∈ O) ∧ (∀ x, x ∈ (roomS size often ⟨O, F, A, B, t⟩).B → x ∈ B ∨ x ∈ F) ∧ (∀ x, x ∈ A → x ∈ (roomS size often ⟨O, F, A, B, t⟩).A) ∧ (∀ x, x ∈ B → x ∈ (roomS size often ⟨O, F, A, B, t⟩).B) := by
  unfold roomS
  dsimp only
  split
  · exact ⟨fun _ h => h, fun _ h => h, fun _ h => .inl h, fun _ h => .inl h, fun _ h => h, fun _ h => h⟩
  · rename_i hr
    split
    · rename_i hc
      have hO : O ≠ [] := List.length_pos_iff.1 hc.1
      refine ⟨fun _ h => List.dropLast_subset _ h, fun _ h => h, fun x h => ?_, fun _ h => .inl h, fun _ h => List.mem_cons_of_mem _ h, fun _ h => h⟩
      rcases List.mem_cons.1 h with h | h
      · exact .inr (h ▸ Inv.last_mem hO)
      · exact .inl h
    · rename_i hc
      have hne := f_pos hr hl hF hc
      refine ⟨fun _ h => h, fun _ h => List.dropLast_subset _ h, fun _ h => .inl h, fun x h => ?_, fun _ h => h, fun _ h => List.mem_cons_of_mem _ h⟩
      rcases List.mem_cons.1 h with h | h
      · exact .inr (h ▸ Inv.last_mem hne)
      · exact .inl h
theorem room_all {size t : Nat} {often : Bool} {O F A B : List Nat} (hl : O.length + F.length ≤ size) (hF : O.length = size → fromO often ⟨O, F, A, B, t⟩) : (roomS size often ⟨O, F, A, B, t⟩).O.length + (roomS size often ⟨O, F, A, B, t⟩).F.length + (roomS size often ⟨O, F, A, B, t⟩).A.length + (roomS size often ⟨O, F, A, B, t⟩).B.length = O.length + F.length + A.length + B.length ∧ (roomS size often ⟨O, F, A, B, t⟩).O.length + (roomS size often ⟨O, F, A, B, t⟩).A.length = O.length + A.length := by
  unfold roomS
  dsimp only
  split
  · exact ⟨rfl, rfl⟩
  · rename_i hr
    split
    · rename_i hc
      have := hc.1
      dsimp only at this
      dsimp only
      refine ⟨?_, ?_⟩
      · rw [List.length_dropLast, List.length_cons]; omega
      · (try rw [List.length_dropLast, List.length_cons]); omega
    · rename_i hc
      have := List.length_pos_iff.2 (f_pos hr hl hF hc)
      dsimp only
      refine ⟨?_, ?_⟩
      · rw [List.length_dropLast, List.length_cons]; omega
      · (try rw [List.length_dropLast, List.length_cons]); omega
/-- A key that is there becomes the newest one of those that were used several times. -/
theorem both {size k z : Nat} {Q M : List Nat} {kv : List (Nat × Nat)} {K fr Lq Lm : List Nat} (t : Two size Q M kv K fr Lq Lm) (h : mget kv k = some z) : Two size (Q.erase k) (k :: M.erase k) kv K fr (Lq.erase z) (Lm.erase z ++ [z]) := by
  obtain ⟨h1, h2, h3, h4, h5⟩ := t.some_of h
  obtain ⟨n1, n2, n3⟩ := t.nd
  by_cases hz : z ∈ Lq
  · have hk : k ∉ M := t.disj (h1.2 hz)
    rw [List.erase_of_not_mem hk, List.erase_of_not_mem (n3 z hz)]
    exact t.moveQ hz h5
  · have hk : k ∉ Q := fun x => hz (h1.1 x)
    rw [List.erase_of_not_mem hk, List.erase_of_not_mem hz]
    exact t.useM (h2.1 (h3.resolve_left hk)) h5
theorem lru_newA {L : List Nat} {z : Nat} (h : z ∉ L) (h2 : z < 4194304) : Lr.addE L z = 0 ∧ Lr.addL L z = L ++ [z] := by
  have h3 : Lr.addE L z = 0 := by unfold Lr.addE; rw [if_neg (by omega), if_neg h]
  exact ⟨h3, Lr.addL_ok h3⟩
/-- There is a slot for a key that comes. -/
theorem behindA {size k : Nat} {Q M Q' M' : List Nat} {kv : List (Nat × Nat)} {K fr Lq Lm : List Nat} (t : Two size Q' M' kv K fr Lq Lm) (hl : Q'.length + M'.length < size) (s1 : ∀ x, x ∈ Q' → x ∈ Q) (s2 : ∀ x, x ∈ M' → x ∈ M) (w1 : k ∉ Q) (w2 : k ∉ M) : mget kv k = none ∧ K.length = size ∧ ∃ r z, fr = r ++ [z] ∧ z < size ∧ r.length < size := by
  refine ⟨?_, t.tab.kl, ?_⟩
  · have := t.mem_iff (k := k)
    cases hx : mget kv k with
    | none => rfl
    | some y => exact (this.2 (by rw [hx]; rfl)).elim (fun h => absurd (s1 k h) w1) (fun h => absurd (s2 k h) w2)
  · obtain ⟨r, z, rfl, hz⟩ := t.tab.free (by rw [List.length_append, ← t.qlen, ← t.mlen]; exact hl)
    refine ⟨r, z, rfl, hz, ?_⟩
    have := t.tab.tot
    simp only [List.length_append, List.length_singleton] at this
    omega
theorem upT_int {size t : Nat} {O F A B : List Nat} : min (size : Int) ((t : Int) + max 1 ((B.length / A.length : Nat) : Int)) = ((upT size ⟨O, F, A, B, t⟩ : Nat) : Int) := by
  unfold upT; dsimp only; omega
theorem downT_int {t : Nat} {O F A B : List Nat} : max (0 : Int) ((t : Int) - max 1 ((A.length / B.length : Nat) : Int)) = ((downT ⟨O, F, A, B, t⟩ : Nat) : Int) := by
  unfold downT; dsimp only; omega
namespace Inv
variable {size t k : Nat} {O F A B : List Nat}
theorem hit (h : Inv size ⟨O, F, A, B, t⟩) (hk : k ∈ O ∨ k ∈ F) : Inv size ⟨O.erase k, k :: F.erase k, A, B, t⟩ := by
  obtain ⟨⟨o, f, a, b⟩, n1, n2, n3⟩ := h.parts
  obtain ⟨l1, l2, l3, l4⟩ := h.lens
  have hka : k ∉ A ∧ k ∉ B := hk.elim (fun x => (n1 k x).2) (fun x => n2 k x)
  have eO : ∀ x, x ∈ O.erase k ↔ x ≠ k ∧ x ∈ O := fun x => o.mem_erase_iff
  have eF : ∀ x, x ∈ F.erase k ↔ x ≠ k ∧ x ∈ F := fun x => f.mem_erase_iff
  have ln : (O.erase k).length + (F.erase k).length + 1 = O.length + F.length ∧ (O.erase k).length ≤ O.length := by
    rcases hk with hk | hk
    · have hk2 := (n1 k hk).1
      have := List.length_pos_of_mem hk
      rw [List.length_erase_of_mem hk, List.erase_of_not_mem hk2]; omega
    · have hk2 : k ∉ O := fun x => (n1 k x).1 hk
      have := List.length_pos_of_mem hk
      rw [List.length_erase_of_mem hk, List.erase_of_not_mem hk2]; omega
  refine mk' ⟨o.erase k, List.nodup_cons.2 ⟨fun x => ((eF k).1 x).1 rfl, f.erase k⟩, a, b⟩ (fun x hx => ?_) (fun x hx => ?_) n3 (by simp only [List.length_cons]; omega) (by omega) (by simp only [List.length_cons]; omega) l4
  · obtain ⟨y1, y2⟩ := (eO x).1 hx
    refine ⟨fun hm => ?_, (n1 x y2).2⟩
    rcases List.mem_cons.1 hm with e | hm
    · exact y1 e
    · exact (n1 x y2).1 ((eF x).1 hm).2
  · rcases List.mem_cons.1 hx with e | hx
    · rw [e]; exact hka
    · exact n2 x ((eF x).1 hx).2
/-- A key comes among those that were used several times, out of the first ghosts. -/
theorem comeA (h : Inv size ⟨O, F, A, B, t⟩) (hl : O.length + F.length < size) (h1 : k ∉ O) (h2 : k ∉ F) (h3 : k ∈ A) : Inv size ⟨O, k :: F, A.erase k, B, t⟩ := by
  obtain ⟨⟨o, f, a, b⟩, n1, n2, n3⟩ := h.parts
  obtain ⟨l1, l2, l3, l4⟩ := h.lens
  have eA : ∀ x, x ∈ A.erase k ↔ x ≠ k ∧ x ∈ A := fun x => a.mem_erase_iff
  have := List.length_pos_of_mem h3
  have le := List.length_erase_of_mem h3
  refine mk' ⟨o, List.nodup_cons.2 ⟨h2, f⟩, a.erase k, b⟩ (fun x hx => ⟨fun hm => ?_, fun hm => (n1 x hx).2.1 ((eA x).1 hm).2, (n1 x hx).2.2⟩) (fun x hx => ?_) (fun x hx => n3 x ((eA x).1 hx).2) (by simp only [List.length_cons]; omega) (by omega) (by simp only [List.length_cons]; omega) l4
  · rcases List.mem_cons.1 hm with e | hm
    · exact h1 (e ▸ hx)
    · exact (n1 x hx).1 hm
  · rcases List.mem_cons.1 hx with e | hx
    · rw [e]; exact ⟨fun hm => ((eA k).1 hm).1 rfl, n3 k h3⟩
    · exact ⟨fun hm => (n2 x hx).1 ((eA x).1 hm).2, (n2 x hx).2⟩
theorem comeB (h : Inv size ⟨O, F, A, B, t⟩) (hl : O.length + F.length < size) (h1 : k ∉ O) (h2 : k ∉ F) (h3 : k ∈ B) : Inv size ⟨O, k :: F, A, B.erase k, t⟩ := by
  obtain ⟨⟨o, f, a, b⟩, n1, n2, n3⟩ := h.parts
  obtain ⟨l1, l2, l3, l4⟩ := h.lens
  have eB : ∀ x, x ∈ B.erase k ↔ x ≠ k ∧ x ∈ B := fun x => b.mem_erase_iff
  have := List.length_pos_of_mem h3
  have le := List.length_erase_of_mem h3
  refine mk' ⟨o, List.nodup_cons.2 ⟨h2, f⟩, a, b.erase k⟩ (fun x hx => ⟨fun hm => ?_, (n1 x hx).2.1, fun hm => (n1 x hx).2.2 ((eB x).1 hm).2⟩) (fun x hx => ?_) (fun x hx hm => n3 x hx ((eB x).1 hm).2) (by simp only [List.length_cons]; omega) l2 (by simp only [List.length_cons]; omega) l4
  · rcases List.mem_cons.1 hm with e | hm
    · exact h1 (e ▸ hx)
    · exact (n1 x hx).1 hm
  · rcases List.mem_cons.1 hx with e | hx
    · rw [e]; exact ⟨fun hm => n3 k hm h3, fun hm => ((eB k).1 hm).1 rfl⟩
    · exact ⟨(n2 x hx).1, fun hm => (n2 x hx).2 ((eB x).1 hm).2⟩
/-- A new key comes. -/
theorem comeO (h : Inv size ⟨O, F, A, B, t⟩) (hl : O.length + F.length < size) (h1 : k ∉ O) (h2 : k ∉ F) (h3 : k ∉ A) (h4 : k ∉ B) (l5 : O.length + A.length < size) (l6 : O.length + F.length + A.length + B.length < 2 * size) : Inv size ⟨k :: O, F, A, B, t⟩ := by
  obtain ⟨⟨o, f, a, b⟩, n1, n2, n3⟩ := h.parts
  obtain ⟨l1, l2, l3, l4⟩ := h.lens
  refine mk' ⟨List.nodup_cons.2 ⟨h1, o⟩, f, a, b⟩ (fun x hx => ?_) n2 n3 (by simp only [List.length_cons]; omega) (by simp only [List.length_cons]; omega) (by simp only [List.length_cons]; omega) l4
  rcases List.mem_cons.1 hx with e | hx
  · rw [e]; exact ⟨h2, h3, h4⟩
  · exact n1 x hx
theorem drop (h : Inv size ⟨O, F, A, B, t⟩) : Inv size ⟨O.erase k, F.erase k, A, B, t⟩ := by
  obtain ⟨⟨o, f, a, b⟩, n1, n2, n3⟩ := h.parts
  obtain ⟨l1, l2, l3, l4⟩ := h.lens
  have q1 := (List.erase_sublist (a := k) (l := O)).length_le
  have q2 := (List.erase_sublist (a := k) (l := F)).length_le
  refine mk' ⟨o.erase k, f.erase k, a, b⟩ (fun x hx => ?_) (fun x hx => n2 x (List.mem_of_mem_erase hx)) n3 (by omega) (by omega) (by omega) l4
  have := n1 x (List.mem_of_mem_erase hx)
  exact ⟨fun hm => this.1 (List.mem_of_mem_erase hm), this.2⟩
theorem popA (h : Inv size ⟨O, F, A, B, t⟩) : Inv size ⟨O, F, A.dropLast, B, t⟩ := by
  obtain ⟨⟨o, f, a, b⟩, n1, n2, n3⟩ := h.parts
  obtain ⟨l1, l2, l3, l4⟩ := h.lens
  have q1 : A.dropLast.length ≤ A.length := by rw [List.length_dropLast]; omega
  refine mk' ⟨o, f, a.sublist (List.dropLast_sublist _), b⟩ (fun x hx => ⟨(n1 x hx).1, fun hm => (n1 x hx).2.1 (List.dropLast_subset _ hm), (n1 x hx).2.2⟩) (fun x hx => ⟨fun hm => (n2 x hx).1 (List.dropLast_subset _ hm), (n2 x hx).2⟩) (fun x hx => n3 x (List.dropLast_subset _ hx)) l1 (by omega) (by omega) l4
theorem popB (h : Inv size ⟨O, F, A, B, t⟩) : Inv size ⟨O, F, A, B.dropLast, t⟩ := by
  obtain ⟨⟨o, f, a, b⟩, n1, n2, n3⟩ := h.parts
  obtain ⟨l1, l2, l3, l4⟩ := h.lens
  have q1 : B.dropLast.length ≤ B.length := by rw [List.length_dropLast]; omega
  refine mk' ⟨o, f, a, b.sublist (List.dropLast_sublist _)⟩ (fun x hx => ⟨(n1 x hx).1, (n1 x hx).2.1, fun hm => (n1 x hx).2.2 (List.dropLast_subset _ hm)⟩) (fun x hx => ⟨(n2 x hx).1, fun hm => (n2 x hx).2 (List.dropLast_subset _ hm)⟩) (fun x hx hm => n3 x hx (List.dropLast_subset _ hm)) l1 l2 (by omega) l4
theorem popO (h : Inv size ⟨O, F, A, B, t⟩) : Inv size ⟨O.dropLast, F, A, B, t⟩ := by
  obtain ⟨⟨o, f, a, b⟩, n1, n2, n3⟩ := h.parts
  obtain ⟨l1, l2, l3, l4⟩ := h.lens
  have q1 : O.dropLast.length ≤ O.length := by rw [List.length_dropLast]; omega
  exact mk' ⟨o.sublist (List.dropLast_sublist _), f, a, b⟩ (fun x hx => n1 x (List.dropLast_subset _ hx)) n2 n3 (by omega) (by omega) (by omega) l4
/-- Room for a key that is in no list. -/
theorem miss (h : Inv size ⟨O, F, A, B, t⟩) (h1 : 1 ≤ size) : Inv size (missS size ⟨O, F, A, B, t⟩) ∧ (missS size ⟨O, F, A, B, t⟩).t = t ∧ ((missS size ⟨O, F, A, B, t⟩).O.length + (missS size ⟨O, F, A, B, t⟩).F.length < size ∧ (missS size ⟨O, F, A, B, t⟩).O.length + (missS size ⟨O, F, A, B, t⟩).A.length < size ∧ (missS size ⟨O, F, A, B, t⟩).O.length + (missS size ⟨O, F, A, B, t⟩).F.length + (missS size ⟨O, F, A, B, t⟩).A.length + (missS size ⟨O, F, A, B, t⟩).B.length < 2 * size) ∧
    ((∀ x, x ∈ (missS size ⟨O, F, A, B, t⟩).O → x ∈ O) ∧ (∀ x, x ∈ (missS size ⟨O, F, A, B, t⟩).F → x ∈ F) ∧ (∀ x, x ∈ (missS size ⟨O, F, A, B, t⟩).A → x ∈ A ∨ x ∈ O) ∧ (∀ x, x ∈ (missS size ⟨O, F, A, B, t⟩).B → x ∈ B ∨ x ∈ F)) := by
  obtain ⟨l1, l2, l3, l4⟩ := h.lens
  by_cases c1 : O.length = size
  · have e : missS size ⟨O, F, A, B, t⟩ = ⟨O.dropLast, F, A, B, t⟩ := if_pos c1
    rw [e]
    refine ⟨h.popO, rfl, ?_, fun x hx => List.dropLast_subset _ hx, fun x hx => hx, fun x hx => .inl hx, fun x hx => .inl hx⟩
    simp only [List.length_dropLast]
    omega
  · have e : missS size ⟨O, F, A, B, t⟩ = roomS size false (missP size ⟨O, F, A, B, t⟩) := if_neg c1
    rw [e]
    by_cases c2 : O.length + A.length = size
    · have e2 : missP size ⟨O, F, A, B, t⟩ = ⟨O, F, A.dropLast, B, t⟩ := if_pos c2
      rw [e2]
      obtain ⟨r1, r2, r3⟩ := h.popA.room (often := false) h1 (fun x => absurd x c1)
      obtain ⟨s1, s2⟩ := room_all (often := false) (A := A.dropLast) (B := B) (t := t) l1 (fun x => absurd x c1)
      obtain ⟨m1, m2, m3, m4, _, _⟩ := room_sub (often := false) (A := A.dropLast) (B := B) (t := t) l1 (fun x => absurd x c1)
      refine ⟨r1, r3, ⟨r2, ?_, ?_⟩, m1, m2, fun x hx => (m3 x hx).imp (fun y => List.dropLast_subset _ y) id, m4⟩
      · rw [s2, List.length_dropLast]; omega
      · rw [s1, List.length_dropLast]; omega
    · by_cases c3 : all ⟨O, F, A, B, t⟩ = 2 * size
      · have e2 : missP size ⟨O, F, A, B, t⟩ = ⟨O, F, A, B.dropLast, t⟩ := by unfold missP; rw [if_neg c2, if_pos c3]
        rw [e2]
        unfold all at c3
        dsimp only at c3
        obtain ⟨r1, r2, r3⟩ := h.popB.room (often := false) h1 (fun x => absurd x c1)
        obtain ⟨s1, s2⟩ := room_all (often := false) (A := A) (B := B.dropLast) (t := t) l1 (fun x => absurd x c1)
        obtain ⟨m1, m2, m3, m4, _, _⟩ := room_sub (often := false) (A := A) (B := B.dropLast) (t := t) l1 (fun x => absurd x c1)
        refine ⟨r1, r3, ⟨r2, ?_, ?_⟩, m1, m2, m3, fun x hx => (m4 x hx).imp (fun y => List.dropLast_subset _ y) id⟩
        · rw [s2]; omega
        · rw [s1, List.length_dropLast]; omega
      · have e2 : missP size ⟨O, F, A, B, t⟩ = ⟨O, F, A, B, t⟩ := by unfold missP; rw [if_neg c2, if_neg c3]
        rw [e2]
        unfold all at c3
        dsimp only at c3
        obtain ⟨r1, r2, r3⟩ := h.room (often := false) h1 (fun x => absurd x c1)
        obtain ⟨s1, s2⟩ := room_all (often := false) (A := A) (B := B) (t := t) l1 (fun x => absurd x c1)
        obtain ⟨m1, m2, m3, m4, _, _⟩ := room_sub (often := false) (A := A) (B := B) (t := t) l1 (fun x => absurd x c1)
        refine ⟨r1, r3, ⟨r2, ?_, ?_⟩, m1, m2, m3, m4⟩
        · rw [s2]; omega
        · rw [s1]; omega
theorem up_le (_h : Inv size ⟨O, F, A, B, t⟩) : upT size ⟨O, F, A, B, t⟩ ≤ size := Nat.min_le_left ..
theorem down_le (h : Inv size ⟨O, F, A, B, t⟩) : downT ⟨O, F, A, B, t⟩ ≤ size := Nat.le_trans (Nat.sub_le ..) h.t
end Inv
end Go.Ar
