/- Slices of ints: made, compared. For whatever program. -/
import Derived.Test.YtbkpojlbclehaaaSlW
import Derived.Test.YtbkpojlbclehaaaSlD
namespace Go.Sl
theorem rows_zeroI {n : Nat} : (rows n fun _ => [Value.int .i64 0]) = intsV .i64 (List.replicate n 0) := by
  unfold rows intsV
  induction n with
  | zero => rfl
  | succ n ih => rw [List.range_succ, List.flatMap_append, ih, List.replicate_succ', List.map_append]; rfl
theorem intsV_snoc {k : IntKind} {A : List Int} {x : Int} : intsV k (A ++ [x]) = intsV k A ++ [.int k x] := by simp [intsV]
/-- Cells that are ints. -/
class AsI (cs : List Value) (xs : outParam (List Int)) : Prop where
  out : cs = intsV .i64 xs
instance (xs : List Int) : AsI (intsV .i64 xs) xs := ⟨rfl⟩
instance : AsI [] [] := ⟨rfl⟩
instance (x : Int) (cs : List Value) (xs : List Int) [h : AsI cs xs] : AsI (.int .i64 x :: cs) (x :: xs) := ⟨by rw [h.out]; rfl⟩
end Go.Sl
