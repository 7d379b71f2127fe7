/- Fields of linked lists: what the calls answer, on plain lists. -/
import Derived.Test.YtgmccdicncocdaaLkTheory2
namespace Go.Lk
open Go.Sl

/-- The list that has a number, and the index there. -/
def placeL (n : Nat) : List (List Nat) → Option (Nat × Nat)
  | [] => none
  | l :: L => if n ∈ l then some (0, l.idxOf n) else (placeL n L).map fun q => (q.1 + 1, q.2)
namespace Fld
def place (f : Fld) (n : Nat) : Option (Nat × Nat) := placeL n f.L
def head (f : Fld) (h : Int) : Bool := decide (0 ≤ h ∧ h < f.L.length)
def listOf (f : Fld) (h : Int) : List Nat := if 0 ≤ h then f.at h.toNat else []
def addE (f : Fld) (h : Int) (n : Nat) : Int := if f.head h = false ∨ f.N ≤ n then 2 else if f.place n ≠ none then 11 else 0
def addF (f : Fld) (h : Int) (n : Nat) (front : Bool) : Fld := if f.addE h n = 0 then f.set h.toNat (if front then n :: f.at h.toNat else f.at h.toNat ++ [n]) else f
def befE (f : Fld) (n o : Nat) : Int := if f.N ≤ n ∨ f.N ≤ o then 2 else if f.place n ≠ none then 11 else if f.place o = none then 9 else 0
def befF (f : Fld) (n o : Nat) : Fld := if f.befE n o = 0 then match f.place o with | some (h, i) => f.set h ((f.at h).take i ++ n :: (f.at h).drop i) | none => f else f
def inE (f : Fld) (n : Nat) : Int := if f.N ≤ n then 2 else if f.place n = none then 9 else 0
def remF (f : Fld) (n : Nat) : Fld := if f.inE n = 0 then match f.place n with | some (h, i) => f.set h ((f.at h).take i ++ (f.at h).drop (i + 1)) | none => f else f
/-- What First, Last, Next, Prev hand back. -/
def res : Option Nat → Nat × Int
  | some m => (m, 0)
  | none => (0, 9)
def first (f : Fld) (h : Int) : Nat × Int := if f.head h then res (f.at h.toNat).head? else (0, 2)
def last (f : Fld) (h : Int) : Nat × Int := if f.head h then res (f.at h.toNat).getLast? else (0, 2)
def next (f : Fld) (n : Nat) : Nat × Int := if f.N ≤ n then (0, 2) else match f.place n with | some (h, i) => res (f.at h)[i + 1]? | none => (0, 9)
def prev (f : Fld) (n : Nat) : Nat × Int := if f.N ≤ n then (0, 2) else match f.place n with | some (h, i) => res (if i = 0 then none else (f.at h)[i - 1]?) | none => (0, 9)
def ofR (f : Fld) (n : Nat) : Nat × Int := if f.N ≤ n then (0, 2) else match f.place n with | some (h, _) => (h, 0) | none => (0, 9)
def joinE (f : Fld) (a b : Int) : Int := if f.head a = false ∨ f.head b = false ∨ a = b then 2 else 0
def joinF (f : Fld) (a b : Int) : Fld := if f.joinE a b = 0 then (f.set b.toNat (f.at b.toNat ++ f.at a.toNat)).set a.toNat [] else f
end Fld
theorem placeL_none {n : Nat} : ∀ {L : List (List Nat)}, placeL n L = none ↔ ∀ l ∈ L, n ∉ l
  | [] => by simp [placeL]
  | l :: L => by
    simp only [placeL, List.mem_cons, forall_eq_or_imp, ← placeL_none (L := L)]
    by_cases h : n ∈ l <;> simp [h]
theorem placeL_some {n : Nat} : ∀ {L : List (List Nat)} {h i : Nat}, placeL n L = some (h, i) → ∃ l, L[h]? = some l ∧ n ∈ l ∧ i = l.idxOf n ∧ ∀ k, k < h → ∀ l', L[k]? = some l' → n ∉ l'
  | [], h, i, e => by simp [placeL] at e
  | l :: L, h, i, e => by
    simp only [placeL] at e
    by_cases hm : n ∈ l
    · rw [if_pos hm] at e
      cases e
      exact ⟨l, rfl, hm, rfl, fun k hk => by omega⟩
    · rw [if_neg hm] at e
      cases hp : placeL n L with
      | none => rw [hp] at e; cases e
      | some q =>
        rw [hp] at e
        obtain ⟨h', i'⟩ := q
        cases e
        obtain ⟨l', h1, h2, h3, h4⟩ := placeL_some hp
        refine ⟨l', h1, h2, h3, fun k hk l2 hl2 => ?_⟩
        cases k with
        | zero => simp at hl2; subst hl2; exact hm
        | succ k => exact h4 k (by omega) l2 hl2
theorem split_at {n : Nat} : ∀ {l : List Nat}, n ∈ l → l = l.take (l.idxOf n) ++ n :: l.drop (l.idxOf n + 1) ∧ l.drop (l.idxOf n) = n :: l.drop (l.idxOf n + 1) ∧ l.idxOf n < l.length
  | [], h => by cases h
  | a :: l, h => by
    by_cases e : a = n
    · subst e; simp []
    · have hm : n ∈ l := by rcases List.mem_cons.1 h with x | x; exact absurd x.symm e; exact x
      obtain ⟨h1, h2, h3⟩ := split_at hm
      have hx : (a :: l).idxOf n = l.idxOf n + 1 := by simp only [List.idxOf_cons]; rw [show (a == n) = false by simpa using e]; rfl
      rw [hx]
      refine ⟨?_, ?_, by simp; exact h3⟩
      · simp only [List.take_succ_cons, List.cons_append, List.drop_succ_cons]; exact congrArg _ h1
      · simp only [List.drop_succ_cons]; exact h2
theorem Fld.place_spec {f : Fld} {n h i : Nat} (e : f.place n = some (h, i)) : h < f.L.length ∧ n ∈ f.at h ∧ i = (f.at h).idxOf n := by
  obtain ⟨l, h1, h2, h3, _⟩ := placeL_some e
  have hh : h < f.L.length := (List.getElem?_eq_some_iff.1 h1).1
  have : f.at h = l := by unfold Fld.at; rw [List.getD_eq_getElem?_getD, h1]; rfl
  rw [this]; exact ⟨hh, h2, h3⟩
theorem Fld.place_none {f : Fld} {n : Nat} : f.place n = none ↔ ∀ h, h < f.L.length → n ∉ f.at h := by
  unfold Fld.place
  rw [placeL_none]
  constructor
  · intro H h hh
    have : f.at h = f.L[h] := by unfold Fld.at; rw [List.getD_eq_getElem?_getD, List.getElem?_eq_getElem hh]; rfl
    rw [this]; exact H _ (List.getElem_mem hh)
  · intro H l hl
    obtain ⟨h, hh, rfl⟩ := List.getElem_of_mem hl
    have := H h hh
    unfold Fld.at at this; rw [List.getD_eq_getElem?_getD, List.getElem?_eq_getElem hh] at this; exact this
namespace Repr
variable {s : LS} {f : Fld}
/-- The list that the program notes is the one that has the node. -/
theorem of_place (r : Repr s f) {n : Nat} (hn : n < s.N) : s.of n = match f.place n with | some (h, _) => h + 1 | none => 0 := by
  have hM := r.M
  cases hp : f.place n with
  | none =>
    have h1 := Fld.place_none.1 hp
    rcases Nat.eq_zero_or_pos (s.of n) with h | h
    · exact h
    · exfalso
      have h2 := r.ofb n hn
      exact h1 (s.of n - 1) (by omega) ((r.mem (s.of n - 1) (by omega) n).2 ⟨hn, by omega⟩)
  | some q =>
    obtain ⟨h, i⟩ := q
    obtain ⟨h1, h2, _⟩ := Fld.place_spec hp
    exact r.of_mem (by omega) h2
theorem headM (r : Repr s f) {h : Int} : f.head h = true ↔ 0 ≤ h ∧ h < s.M := by
  unfold Fld.head; rw [decide_eq_true_iff, r.M]
theorem headF (r : Repr s f) {h : Int} : f.head h = false ↔ h < 0 ∨ (s.M : Int) ≤ h := by
  unfold Fld.head; rw [decide_eq_false_iff_not, r.M]; omega
theorem of_zero (r : Repr s f) {n : Nat} (hn : n < s.N) : s.of n = 0 ↔ f.place n = none := by
  rw [r.of_place hn]
  cases f.place n with
  | none => simp
  | some q => simp
theorem addE (r : Repr s f) (h : Int) (n : Nat) : Lk.addE s h n = f.addE h n := by
  unfold Lk.addE Fld.addE
  have hF := r.headF (h := h)
  have hN := r.N
  have hc : (f.head h = false ∨ f.N ≤ n) ↔ (h < 0 ∨ (s.M : Int) ≤ h ∨ s.N ≤ n) := by rw [hF]; omega
  simp only [hc]
  by_cases h1 : h < 0 ∨ (s.M : Int) ≤ h ∨ s.N ≤ n
  · simp only [if_pos h1]
  · have := r.of_zero (n := n) (by omega)
    simp only [if_neg h1, ne_eq, this]
theorem addF (r : Repr s f) (h : Int) (n : Nat) (front : Bool) : Repr (Lk.addS s h n front) (f.addF h n front) := by
  unfold Lk.addS Fld.addF
  rw [r.addE]
  by_cases e : f.addE h n = 0
  · rw [if_pos e, if_pos e]
    have e1 : ¬ (f.head h = false ∨ f.N ≤ n) := fun x => by unfold Fld.addE at e; rw [if_pos x] at e; cases e
    have e2 : f.place n = none := by
      unfold Fld.addE at e; rw [if_neg e1] at e
      by_cases x : f.place n = none
      · exact x
      · rw [if_pos x] at e; cases e
    have hh : 0 ≤ h ∧ h < s.M := r.headM.1 (by cases x : f.head h with | true => rfl | false => exact absurd (.inl x) e1)
    have hn : n < s.N := by rw [r.N]; omega
    have h0 := (r.of_zero hn).2 e2
    cases front
    · exact r.putBack (by omega) hn h0
    · exact r.putFront (by omega) hn h0
  · rw [if_neg e, if_neg e]; exact r
theorem befE (r : Repr s f) (n o : Nat) (g : Int) (hg : g = if s.N ≤ n ∨ s.N ≤ o then 2 else if s.of n ≠ 0 then 11 else if s.of o = 0 then 9 else 0) : g = f.befE n o := by
  subst hg
  unfold Fld.befE
  rw [← r.N]
  by_cases h1 : s.N ≤ n ∨ s.N ≤ o
  · rw [if_pos h1, if_pos h1]
  · rw [if_neg h1, if_neg h1]
    have e1 := r.of_zero (n := n) (by omega)
    have e2 := r.of_zero (n := o) (by omega)
    simp only [ne_eq, e1, e2]
theorem befF (r : Repr s f) (n o : Nat) : Repr (if f.befE n o = 0 then putS s n o else s) (f.befF n o) := by
  unfold Fld.befF
  by_cases e : f.befE n o = 0
  · rw [if_pos e, if_pos e]
    unfold Fld.befE at e
    by_cases h1 : f.N ≤ n ∨ f.N ≤ o
    · rw [if_pos h1] at e; cases e
    · rw [if_neg h1] at e
      by_cases h2 : f.place n = none
      · rw [if_neg (fun x => x h2)] at e
        cases hp : f.place o with
        | none => rw [if_pos hp] at e; cases e
        | some q =>
          obtain ⟨h, i⟩ := q
          obtain ⟨p1, p2, p3⟩ := Fld.place_spec hp
          have hn : n < s.N := by rw [r.N]; omega
          have hs := split_at p2
          dsimp only
          rw [p3, hs.2.1]
          exact r.putBefore (by rw [r.M]; exact p1) hn ((r.of_zero hn).2 h2) hs.1
      · rw [if_pos h2] at e; cases e
  · rw [if_neg e, if_neg e]; exact r
theorem inE (r : Repr s f) (n : Nat) : Lk.inE s n = f.inE n := by
  unfold Lk.inE Fld.inE
  rw [← r.N]
  by_cases h1 : s.N ≤ n
  · rw [if_pos h1, if_pos h1]
  · rw [if_neg h1, if_neg h1]
    have e1 := r.of_zero (n := n) (by omega)
    by_cases h2 : s.of n = 0
    · rw [if_pos h2, if_pos (e1.1 h2)]
    · rw [if_neg h2, if_neg (fun x => h2 (e1.2 x))]
theorem in0 (_r : Repr s f) {n : Nat} (e : f.inE n = 0) : n < f.N ∧ ∃ h i, f.place n = some (h, i) := by
  unfold Fld.inE at e
  by_cases h1 : f.N ≤ n
  · rw [if_pos h1] at e; cases e
  · rw [if_neg h1] at e
    refine ⟨by omega, ?_⟩
    cases hp : f.place n with
    | none => rw [if_pos hp] at e; cases e
    | some q => exact ⟨q.1, q.2, rfl⟩
theorem remF (r : Repr s f) (n : Nat) : Repr (if f.inE n = 0 then remS s n else s) (f.remF n) := by
  unfold Fld.remF
  by_cases e : f.inE n = 0
  · rw [if_pos e, if_pos e]
    obtain ⟨h1, h, i, hp⟩ := r.in0 e
    obtain ⟨p1, p2, p3⟩ := Fld.place_spec hp
    have hs := split_at p2
    rw [hp]
    dsimp only
    rw [p3]
    exact r.remove (by rw [r.M]; exact p1) hs.1
  · rw [if_neg e, if_neg e]; exact r
theorem lnPos (r : Repr s f) (n : Nat) : f.inE n = 0 → 1 ≤ s.ln (s.of n - 1) := fun e => by
  obtain ⟨h1, h, i, hp⟩ := r.in0 e
  obtain ⟨p1, p2, p3⟩ := Fld.place_spec hp
  have hn : n < s.N := by rw [r.N]; exact h1
  rw [r.of_place hn, hp, r.ln]
  exact List.length_pos_of_mem p2
/-- A node's number, as First .. Prev hand it back. -/
theorem real (_r : Repr s f) {h : Nat} {l : List Nat} {m : Nat} (_hh : h < s.M) (hl : ∀ x ∈ l, x < s.N) (hm : m = (l.head?).getD (s.N + h)) : ((if s.N ≤ m then 0 else m : Nat), (if s.N ≤ m then 9 else 0 : Int)) = Fld.res l.head? := by
  cases l with
  | nil => simp at hm; subst hm; simp [Fld.res]
  | cons a l => simp at hm; subst hm; have := hl m (by simp); simp [Fld.res]; omega
end Repr
end Go.Lk
