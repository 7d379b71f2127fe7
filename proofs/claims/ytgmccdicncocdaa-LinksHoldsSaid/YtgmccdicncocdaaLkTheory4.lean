/- Fields of linked lists: joining and renumbering, step by step. -/
import Derived.Test.YtgmccdicncocdaaLkTheory3
namespace Go.Lk
open Go.Sl

/-- A field as the program can hold it. -/
def Wf (f : Fld) : Prop := ∃ s, Repr s f
namespace Wf
variable {f : Fld}
theorem lt (w : Wf f) {h n : Nat} (hh : h < f.L.length) (hn : n ∈ f.at h) : n < f.N := by obtain ⟨s, r⟩ := w; rw [← r.N]; exact r.lt (by rw [r.M]; exact hh) hn
theorem bound (w : Wf f) : 1 ≤ f.N ∧ f.N ≤ 4194304 ∧ 1 ≤ f.L.length ∧ f.L.length ≤ 4096 := by obtain ⟨s, r⟩ := w; rw [← r.N, ← r.M]; exact ⟨r.n1, r.n2, r.m1, r.m2⟩
theorem nodup (w : Wf f) {h : Nat} (hh : h < f.L.length) : (f.at h).Nodup := by obtain ⟨s, r⟩ := w; exact r.nodup h (by rw [r.M]; exact hh)
theorem len_le (w : Wf f) (h : Nat) : (f.at h).length ≤ f.N := by obtain ⟨s, r⟩ := w; rw [← r.N]; exact r.len_le h
theorem place (w : Wf f) {h n : Nat} (hh : h < f.L.length) (hn : n ∈ f.at h) : f.place n = some (h, (f.at h).idxOf n) := by
  obtain ⟨s, r⟩ := w
  have hh' : h < s.M := by rw [r.M]; exact hh
  have h1 := r.of_place (r.lt hh' hn)
  rw [r.of_mem hh' hn] at h1
  cases hp : f.place n with
  | none => rw [hp] at h1; cases h1
  | some q =>
    obtain ⟨k, i⟩ := q
    rw [hp] at h1
    have : k = h := by simpa using h1.symm
    subst this
    rw [(Fld.place_spec hp).2.2]
theorem uniq (w : Wf f) {h k n : Nat} (hh : h < f.L.length) (hk : k < f.L.length) (h1 : n ∈ f.at h) (h2 : n ∈ f.at k) : h = k := by
  have e1 := w.place hh h1
  rw [w.place hk h2] at e1
  simpa using (congrArg (Option.map Prod.fst) e1).symm
theorem addF (w : Wf f) (h : Int) (n : Nat) (front : Bool) : Wf (f.addF h n front) := by obtain ⟨s, r⟩ := w; exact ⟨_, r.addF h n front⟩
theorem remF (w : Wf f) (n : Nat) : Wf (f.remF n) := by obtain ⟨s, r⟩ := w; exact ⟨_, r.remF n⟩
theorem befF (w : Wf f) (n o : Nat) : Wf (f.befF n o) := by obtain ⟨s, r⟩ := w; exact ⟨_, r.befF n o⟩
theorem new {N M : Nat} (g1 : 1 ≤ N) (g2 : N ≤ 4194304) (g3 : 1 ≤ M) (g4 : M ≤ 4096) : Wf ⟨N, List.replicate M []⟩ := ⟨_, repr_new g1 g2 g3 g4⟩
/-- A node that has been removed is in no list. -/
theorem gone (w : Wf f) {n : Nat} (h : f.inE n = 0) : (f.remF n).place n = none := by
  obtain ⟨s, r⟩ := w
  have h1 := r.remF n
  rw [if_pos h] at h1
  have hn : n < s.N := by rw [r.N]; exact (r.in0 h).1
  exact (h1.of_zero hn).1 (by show upd s.of n 0 n = 0; rw [upd_same])
end Wf
theorem Fld.set_N {f : Fld} {h : Nat} {l : List Nat} : (f.set h l).N = f.N := rfl
theorem Fld.set_len {f : Fld} {h : Nat} {l : List Nat} : (f.set h l).L.length = f.L.length := by simp [Fld.set]
theorem Fld.set_comm {f : Fld} {a b : Nat} {x y : List Nat} (h : a ≠ b) : (f.set a x).set b y = (f.set b y).set a x := by simp only [Fld.set, List.set_comm _ _ h]
theorem Fld.remF_eq {f : Fld} (w : Wf f) {a n : Nat} {t : List Nat} (ha : a < f.L.length) (h : f.at a = n :: t) : f.inE n = 0 ∧ f.remF n = f.set a t := by
  have hm : n ∈ f.at a := by rw [h]; simp
  have hp := w.place ha hm
  have hn := w.lt ha hm
  have hi : (f.at a).idxOf n = 0 := by rw [h]; simp
  have h0 : f.inE n = 0 := by unfold Fld.inE; rw [if_neg (by omega), hp, if_neg (by simp)]
  refine ⟨h0, ?_⟩
  unfold Fld.remF
  rw [if_pos h0, hp]
  dsimp only
  rw [hi, h]; rfl
theorem Fld.addF_eq {f : Fld} {b n : Nat} {front : Bool} (hb : b < f.L.length) (hn : n < f.N) (h : f.place n = none) : f.addE b n = 0 ∧ f.addF b n front = f.set b (if front then n :: f.at b else f.at b ++ [n]) := by
  have h0 : f.addE b n = 0 := by
    unfold Fld.addE Fld.head
    rw [if_neg, if_neg (by simp [h])]
    rw [decide_eq_false_iff_not]; omega
  refine ⟨h0, ?_⟩
  unfold Fld.addF
  rw [if_pos h0, Int.toNat_natCast]
/-- Joining, after 'i' nodes. -/
def joinG (f : Fld) (a b i : Nat) : Fld := (f.set b (f.at b ++ (f.at a).take i)).set a ((f.at a).drop i)
theorem joinG_step {f : Fld} {a b i : Nat} (w : Wf (joinG f a b i)) (ha : a < f.L.length) (hb : b < f.L.length) (hne : a ≠ b) (hi : i < (f.at a).length) : ((joinG f a b i).remF (f.at a)[i]).addF b (f.at a)[i] false = joinG f a b (i + 1) := by
  have haG : (joinG f a b i).at a = (f.at a)[i] :: (f.at a).drop (i + 1) := by
    unfold joinG; rw [Fld.at_set (by rw [Fld.set_len]; exact ha), if_pos rfl]; exact List.drop_eq_getElem_cons hi
  have hl : (joinG f a b i).L.length = f.L.length := by unfold joinG; rw [Fld.set_len, Fld.set_len]
  obtain ⟨h0, h1⟩ := Fld.remF_eq w (by rw [hl]; exact ha) haG
  have hg := w.gone h0
  have hn := w.lt (by rw [hl]; exact ha) (n := (f.at a)[i]) (by rw [haG]; exact List.mem_cons_self)
  rw [h1] at hg ⊢
  rw [(Fld.addF_eq (by rw [Fld.set_len, hl]; exact hb) (by exact hn) hg).2]
  simp only [Bool.false_eq_true, if_false]
  rw [Fld.at_set (by rw [hl]; exact ha), if_neg (Ne.symm hne)]
  unfold joinG
  rw [Fld.at_set (by rw [Fld.set_len]; exact ha), if_neg (Ne.symm hne), Fld.at_set hb, if_pos rfl, Fld.set_set, Fld.set_comm hne, Fld.set_set, List.append_assoc, ← List.take_append_getElem hi]
theorem joinG_zero {f : Fld} {a b : Nat} (ha : a < f.L.length) (hb : b < f.L.length) : joinG f a b 0 = f := by
  unfold joinG
  rw [List.take_zero, List.append_nil, List.drop_zero, Fld.set_at hb, Fld.set_at ha]
theorem joinG_end {f : Fld} {a b : Nat} : joinG f a b (f.at a).length = (f.set b (f.at b ++ f.at a)).set a [] := by
  unfold joinG
  rw [List.take_length, List.drop_length]
/-- The nodes of a list, with other numbers, at the back of a list of 'o'. -/
def renList (to : List Nat) (h : Nat) : List Nat → Fld → Option Fld
  | [], o => some o
  | n :: ns, o => if o.addE h (to.getD n 0) = 0 then renList to h ns (o.addF h (to.getD n 0) false) else none
def renLists (to : List Nat) : Nat → List (List Nat) → Fld → Option Fld
  | _, [], o => some o
  | h, l :: L, o => (renList to h l o).bind (renLists to (h + 1) L)
/-- The field with other numbers, if that is one. -/
def Fld.renF (f : Fld) (to : List Nat) (nodes : Int) : Option Fld := if nodes < 1 ∨ 4194304 < nodes ∨ to.length ≠ f.N then none else renLists to 0 f.L ⟨nodes.toNat, List.replicate f.L.length []⟩
theorem renList_step {to : List Nat} {h i : Nat} {l : List Nat} {o : Fld} (hi : i < l.length) : renList to h (l.drop i) o = if o.addE h (to.getD l[i] 0) = 0 then renList to h (l.drop (i + 1)) (o.addF h (to.getD l[i] 0) false) else none := by
  rw [List.drop_eq_getElem_cons hi]; rfl
theorem Fld.at_getElem {f : Fld} {h : Nat} (hh : h < f.L.length) : f.at h = f.L[h] := by unfold Fld.at; rw [List.getD_eq_getElem?_getD, List.getElem?_eq_getElem hh]; rfl
theorem renLists_step {to : List Nat} {h : Nat} {f o : Fld} (hh : h < f.L.length) : renLists to h (f.L.drop h) o = (renList to h (f.at h) o).bind (renLists to (h + 1) (f.L.drop (h + 1))) := by
  rw [List.drop_eq_getElem_cons hh, Fld.at_getElem hh]; rfl
end Go.Lk
