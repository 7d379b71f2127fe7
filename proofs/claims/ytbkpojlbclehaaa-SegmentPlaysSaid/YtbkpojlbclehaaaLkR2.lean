/- The reference of links, walked: lists with an element more; fields with another list. -/
import Derived.Test.YtbkpojlbclehaaaLkR1
namespace Go.Proofs.Ytbkpojlbclehaaa
open Go.Sl Go.Lk
attribute [local irreducible] TK TL TC Th Bk Nx fnPost WA TQ OpQ OpN SpecH Rd Ent IterH RoundH Rb Rp fnPostM
theorem idxOf_first {n : Nat} : ∀ {l : List Nat} {i : Nat} (hi : i < l.length), l[i] = n → (∀ j (hj : j < i), l[j]'(by omega) ≠ n) → l.idxOf n = i
  | [], i, hi, _, _ => by simp at hi
  | x :: l, 0, hi, h, _ => by simp at h; subst h; simp
  | x :: l, i + 1, hi, h, hj => by
    have h0 : x ≠ n := hj 0 (by omega)
    simp only [List.idxOf_cons]
    rw [show (x == n) = false by simpa using h0]
    simp only [cond_false]
    rw [idxOf_first (l := l) (i := i) (by simpa using hi) (by simpa using h) (fun j hj' => by have := hj (j + 1) (by omega); simpa using this)]
theorem _root_.Go.Lk.Fld.place_first {f : Fld} {n h i : Nat} (hh : h < f.L.length) (hi : i < (f.at h).length) (hn : (f.at h)[i] = n) (h1 : ∀ j (hj : j < i), (f.at h)[j]'(by omega) ≠ n) (h2 : ∀ k, k < h → n ∉ f.at k) : f.place n = some (h, i) := by
  cases hp : f.place n with
  | none => exact absurd (hn ▸ List.getElem_mem hi) (Fld.place_none.1 hp h hh)
  | some q =>
    obtain ⟨h', i'⟩ := q
    obtain ⟨p1, p2, p3⟩ := Fld.place_spec hp
    obtain ⟨l, e1, e2, e3, e4⟩ := placeL_some hp
    have hhh : h' = h := by
      rcases Nat.lt_trichotomy h' h with x | x | x
      · exact absurd p2 (h2 h' x)
      · exact x
      · have := e4 h x f.L[h] (List.getElem?_eq_getElem hh)
        rw [← Fld.at_getElem hh] at this
        exact absurd (hn ▸ List.getElem_mem hi) this
    subst hhh
    rw [p3, idxOf_first hi hn h1]
/-- The list and the index of a node, as numbers. -/
def plH (f : Fld) (n : Nat) : Int := match f.place n with | some q => q.1 | none => -1
def plI (f : Fld) (n : Nat) : Int := match f.place n with | some q => q.2 | none => -1
end Go.Proofs.Ytbkpojlbclehaaa
