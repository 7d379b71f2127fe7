/- Two queues and ghosts, plainly. No program, no condition. -/
import Derived.Test.YtcgdkcdlglbigaaTqTheory
import Derived.Test.YtcgdkcdlglbigaaGhF
import Derived.Test.YtcgdkcdlglbigaaLrTheory
namespace Go.Tq
open Go.Lk Go.Sl Go.Tb
/-- The keys of the queue, of the main list, of the ghosts, the newest first. -/
structure St where
  Q : List Nat
  M : List Nat
  G : List Nat
/-- Room is made. -/
def roomS (size most gm : Nat) (s : St) : St := if s.Q.length + s.M.length < size then s else if most < s.Q.length ∨ s.M = [] then ⟨s.Q.dropLast, s.M, Gh.addL gm s.G (s.Q.getLastD 0)⟩ else ⟨s.Q, s.M.dropLast, s.G⟩
def roomB (size : Nat) (s : St) : Bool := decide (size ≤ s.Q.length + s.M.length)
def roomO (size most : Nat) (s : St) : Nat := if s.Q.length + s.M.length < size then 0 else if most < s.Q.length ∨ s.M = [] then s.Q.getLastD 0 else s.M.getLastD 0
/-- A request. -/
def useS (size most gm : Nat) (s : St) (k : Nat) : St :=
  if k ∈ s.M then ⟨s.Q, k :: s.M.erase k, s.G⟩
  else if k ∈ s.Q then s
  else if k ∈ s.G then ⟨(roomS size most gm ⟨s.Q, s.M, s.G.erase k⟩).Q, k :: (roomS size most gm ⟨s.Q, s.M, s.G.erase k⟩).M, (roomS size most gm ⟨s.Q, s.M, s.G.erase k⟩).G⟩
  else ⟨k :: (roomS size most gm s).Q, (roomS size most gm s).M, (roomS size most gm s).G⟩
def useH (s : St) (k : Nat) : Bool := decide (k ∈ s.Q ∨ k ∈ s.M)
def useL (size : Nat) (s : St) (k : Nat) : Bool := !(useH s k) && roomB size s
def useO (size most : Nat) (s : St) (k : Nat) : Nat := if k ∈ s.Q ∨ k ∈ s.M then 0 else roomO size most s
/-- A key is dropped. -/
def dropS (s : St) (k : Nat) : St := ⟨s.Q.erase k, s.M.erase k, s.G⟩
/-- What holds of the lists. -/
structure Ok (size gm : Nat) (s : St) : Prop where
  qn : s.Q.Nodup
  mn : s.M.Nodup
  dj : ∀ k ∈ s.Q, k ∉ s.M
  len : s.Q.length + s.M.length ≤ size
  gn : s.G.Nodup
  gl : s.G.length ≤ gm
  lt : ∀ k, k ∈ s.Q ∨ k ∈ s.M → k < 4294967296
theorem roomS_G {size most gm : Nat} {Q M G G' : List Nat} : (roomS size most gm ⟨Q, M, G⟩).Q = (roomS size most gm ⟨Q, M, G'⟩).Q ∧ (roomS size most gm ⟨Q, M, G⟩).M = (roomS size most gm ⟨Q, M, G'⟩).M := by
  unfold roomS
  split
  · exact ⟨rfl, rfl⟩
  · split <;> exact ⟨rfl, rfl⟩
theorem roomS_gl {size most gm : Nat} {s : St} (h : s.G.length ≤ gm) : (roomS size most gm s).G.length ≤ gm := by
  unfold roomS
  split
  · exact h
  · split
    · exact Gh.addL_len h
    · exact h
theorem useS_gl {size most gm : Nat} {s : St} {k : Nat} (h : s.G.length ≤ gm) : (useS size most gm s k).G.length ≤ gm := by
  unfold useS
  split
  · exact h
  · split
    · exact h
    · split
      · exact roomS_gl (Nat.le_trans List.erase_sublist.length_le h)
      · exact roomS_gl h
/-- A request, and what is behind. -/
structure UseTo (size most gm : Nat) (Q M G : List Nat) (k : Nat) (Q' M' G' : List Nat) (h b : Bool) (o : Nat) : Prop where
  q : (useS size most gm ⟨Q, M, G⟩ k).Q = Q' ∧ (useS size most gm ⟨Q, M, G⟩ k).M = M' ∧ (useS size most gm ⟨Q, M, G⟩ k).G = G'
  h : useH ⟨Q, M, G⟩ k = h
  b : useL size ⟨Q, M, G⟩ k = b
  o : useO size most ⟨Q, M, G⟩ k = o
/-- A key that is dropped. -/
structure DropTo (Q M : List Nat) (k : Nat) (Q' M' : List Nat) (b : Bool) : Prop where
  q : Q.erase k = Q'
  m : M.erase k = M'
  b : decide (k ∈ Q ∨ k ∈ M) = b
/-- Three slices. -/
abbrev S3 := (Option Addr × Nat) × (Option Addr × Nat) × Option Addr × Nat
/-- Whether two lists are the same. -/
structure SameB (xs ys : List Nat) (b : Bool) : Prop where
  out : decide (xs = ys) = b
section
variable {size most gm k : Nat} {Q M G : List Nat}
theorem use_main (h : k ∈ M) : useS size most gm ⟨Q, M, G⟩ k = ⟨Q, k :: M.erase k, G⟩ := if_pos h
theorem use_queue (h : k ∉ M) (h2 : k ∈ Q) : useS size most gm ⟨Q, M, G⟩ k = ⟨Q, M, G⟩ := by unfold useS; rw [if_neg h, if_pos h2]
theorem use_ghost (h : k ∉ M) (h2 : k ∉ Q) (h3 : k ∈ G) : useS size most gm ⟨Q, M, G⟩ k = ⟨(roomS size most gm ⟨Q, M, G.erase k⟩).Q, k :: (roomS size most gm ⟨Q, M, G.erase k⟩).M, (roomS size most gm ⟨Q, M, G.erase k⟩).G⟩ := by unfold useS; rw [if_neg h, if_neg h2, if_pos h3]
theorem use_new (h : k ∉ M) (h2 : k ∉ Q) (h3 : k ∉ G) : useS size most gm ⟨Q, M, G⟩ k = ⟨k :: (roomS size most gm ⟨Q, M, G⟩).Q, (roomS size most gm ⟨Q, M, G⟩).M, (roomS size most gm ⟨Q, M, G⟩).G⟩ := by unfold useS; rw [if_neg h, if_neg h2, if_neg h3]
theorem hit_t (h : k ∈ Q ∨ k ∈ M) : useH ⟨Q, M, G⟩ k = true ∧ useL size ⟨Q, M, G⟩ k = false ∧ useO size most ⟨Q, M, G⟩ k = 0 := by
  have e : useH ⟨Q, M, G⟩ k = true := decide_eq_true h
  exact ⟨e, by unfold useL; rw [e]; rfl, if_pos h⟩
theorem hit_f (h : ¬ (k ∈ Q ∨ k ∈ M)) : useH ⟨Q, M, G⟩ k = false ∧ useL size ⟨Q, M, G⟩ k = roomB size ⟨Q, M, G⟩ ∧ useO size most ⟨Q, M, G⟩ k = roomO size most ⟨Q, M, G⟩ := by
  have e : useH ⟨Q, M, G⟩ k = false := decide_eq_false h
  exact ⟨e, by unfold useL; rw [e]; rfl, if_neg h⟩
theorem roomB_G {G' : List Nat} : roomB size ⟨Q, M, G⟩ = roomB size ⟨Q, M, G'⟩ ∧ roomO size most ⟨Q, M, G⟩ = roomO size most ⟨Q, M, G'⟩ := ⟨rfl, rfl⟩
theorem room_no (hr : Q.length + M.length < size) : roomS size most gm ⟨Q, M, G⟩ = ⟨Q, M, G⟩ ∧ roomB size ⟨Q, M, G⟩ = false ∧ ((roomO size most ⟨Q, M, G⟩ : Nat) : Int) = 0 :=
  ⟨if_pos hr, decide_eq_false (by dsimp only; omega), by rw [show roomO size most ⟨Q, M, G⟩ = 0 from if_pos hr]; rfl⟩
theorem room_q (hr : ¬ Q.length + M.length < size) (hq : most < Q.length ∨ M = []) : roomS size most gm ⟨Q, M, G⟩ = ⟨Q.dropLast, M, Gh.addL gm G (Q.getLastD 0)⟩ ∧ roomB size ⟨Q, M, G⟩ = true ∧ roomO size most ⟨Q, M, G⟩ = Q.getLastD 0 :=
  ⟨by unfold roomS; rw [if_neg hr, if_pos hq], decide_eq_true (by dsimp only; omega), by unfold roomO; rw [if_neg hr, if_pos hq]⟩
theorem room_m (hr : ¬ Q.length + M.length < size) (hq : ¬ (most < Q.length ∨ M = [])) : roomS size most gm ⟨Q, M, G⟩ = ⟨Q, M.dropLast, G⟩ ∧ roomB size ⟨Q, M, G⟩ = true ∧ roomO size most ⟨Q, M, G⟩ = M.getLastD 0 :=
  ⟨by unfold roomS; rw [if_neg hr, if_neg hq], decide_eq_true (by dsimp only; omega), by unfold roomO; rw [if_neg hr, if_neg hq]⟩
theorem room_ne (hr : ¬ Q.length + M.length < size) (hq : most < Q.length ∨ M = []) (h1 : 1 ≤ size) : Q ≠ [] := fun e => by
  rw [e] at hr hq
  simp only [List.length_nil] at hr hq
  rcases hq with h | h
  · omega
  · rw [h] at hr; simp only [List.length_nil] at hr; omega
theorem lru_in {L : List Nat} {z : Nat} (h : z ∈ L) : Lr.useL L z = L.erase z ++ [z] := if_pos h
theorem lru_new {L : List Nat} {z : Nat} (h : z ∉ L) (h2 : z < 4194304) : Lr.addE L z = 0 ∧ Lr.addL L z = L ++ [z] := by
  have h3 : Lr.addE L z = 0 := by unfold Lr.addE; rw [if_neg (by omega), if_neg h]
  exact ⟨h3, Lr.addL_ok h3⟩
end
end Go.Tq
