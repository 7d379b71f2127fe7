/- The reference of links, walked: joining; whether two lists are equal. -/
import Derived.Test.YtmiblmoppdgnjaaLkR3
namespace Go.Proofs.Ytmiblmoppdgnjaa
open Go.Sl Go.Lk
attribute [local irreducible] TK TL TC Th Bk Nx fnPost WA TQ OpQ OpN SpecH Rd Ent IterH RoundH Rb Rp fnPostM
theorem joinE_eq (f : Fld) (x y : Int) : f.joinE x y = if ¬ (0 ≤ x ∧ x < f.L.length) ∨ ¬ (0 ≤ y ∧ y < f.L.length) ∨ x = y then 2 else 0 := by
  unfold Fld.joinE Fld.head
  simp only [decide_eq_false_iff_not]
end Go.Proofs.Ytmiblmoppdgnjaa
