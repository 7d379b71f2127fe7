/- Structs that can be compared. -/
import Derived.Test.YtbkpojlbclehaaaSlTypes
import Derived.Test.YtbkpojlbclehaaaSlEqs
namespace Go.Proofs.Ytbkpojlbclehaaa
open Go.Sl
instance eqs49 : EqS Try.prog 49 [.i .u32, .i .i64] := ⟨by kernel_rfl⟩
instance eqs50 : EqS Try.prog 50 [.i .u32, .i .i64] := ⟨by kernel_rfl⟩
instance eqs137 : EqS Try.prog 137 [.i .u32, .i .u32, .i .u32] := ⟨by kernel_rfl⟩
instance eqs138 : EqS Try.prog 138 [.i .u32, .i .u32, .i .u32] := ⟨by kernel_rfl⟩
end Go.Proofs.Ytbkpojlbclehaaa
