/- What a renumbering hands back. Plain. -/
import Derived.Test.YtgmccdicncocdaaLkTheory4
namespace Go.Lk
/-- What a renumbering hands back. -/
def renE (f : Fld) (to : List Nat) (nodes : Int) : Int := if f.renF to nodes = none then 2 else 0
def renG (f : Fld) (to : List Nat) (nodes : Int) : Fld := (f.renF to nodes).getD f
theorem ren_none {f : Fld} {to : List Nat} {nodes : Int} (h : f.renF to nodes = none) : renE f to nodes = 2 ∧ renG f to nodes = f := by unfold renE renG; rw [h]; exact ⟨if_pos rfl, rfl⟩
theorem ren_some {f o : Fld} {to : List Nat} {nodes : Int} (h : f.renF to nodes = some o) : renE f to nodes = 0 ∧ renG f to nodes = o := by unfold renE renG; rw [h]; exact ⟨if_neg (by simp), rfl⟩
end Go.Lk
