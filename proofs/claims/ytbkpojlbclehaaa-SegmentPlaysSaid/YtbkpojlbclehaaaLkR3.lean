/- The reference of links, walked: adding. -/
import Derived.Test.YtbkpojlbclehaaaLkR2
namespace Go.Proofs.Ytbkpojlbclehaaa
open Go.Sl Go.Lk
attribute [local irreducible] TK TL TC Th Bk Nx fnPost WA TQ OpQ OpN SpecH Rd Ent IterH RoundH Rb Rp fnPostM
/-- What keeps the numbers of a field small. -/
structure Bnd (f : Fld) : Prop where
  N : f.N ≤ 4194304
  M : f.L.length ≤ 4096
  len : ∀ h, (f.at h).length ≤ 4194304
theorem plH_cases (f : Fld) (n : Nat) : (f.place n = none ∧ plH f n = -1) ∨ ∃ h i, f.place n = some (h, i) ∧ plH f n = (h : Nat) ∧ plI f n = (i : Nat) := by
  cases hp : f.place n with
  | none => exact .inl ⟨rfl, by simp [plH, hp]⟩
  | some q => exact .inr ⟨q.1, q.2, rfl, by simp [plH, hp], by simp [plI, hp]⟩
theorem addE_eq (f : Fld) (h : Int) (n : Nat) : f.addE h n = if ¬ (0 ≤ h ∧ h < f.L.length) ∨ f.N ≤ n then 2 else if 0 ≤ plH f n then 11 else 0 := by
  unfold Fld.addE Fld.head
  simp only [decide_eq_false_iff_not]
  rcases plH_cases f n with ⟨h1, h2⟩ | ⟨k, i, h1, h2, _⟩
  · rw [h1, h2]; simp
  · rw [h1, h2]; simp
theorem addF_eq (f : Fld) (k n : Nat) (front : Bool) (h : f.addE k n = 0) : f.addF k n front = f.set k (if front then n :: f.at k else f.at k ++ [n]) := by unfold Fld.addF; rw [if_pos h, Int.toNat_natCast]
end Go.Proofs.Ytbkpojlbclehaaa
