/- Structs that can be compared. -/
import Derived.Test.YtcgdkcdlglbigaaSlTypes
import Derived.Test.YtcgdkcdlglbigaaSlEqs
namespace Go.Proofs.Ytcgdkcdlglbigaa
open Go.Sl
instance eqs32 : EqS Try.prog 32 [.b, .b, .i .u32] := ⟨by kernel_rfl⟩
instance eqs33 : EqS Try.prog 33 [.b, .b, .i .u32] := ⟨by kernel_rfl⟩
instance eqs45 : EqS Try.prog 45 [.i .i64, .i .u32] := ⟨by kernel_rfl⟩
instance eqs46 : EqS Try.prog 46 [.i .i64, .i .u32] := ⟨by kernel_rfl⟩
instance eqs73 : EqS Try.prog 73 [.i .i64, .i .u32] := ⟨by kernel_rfl⟩
instance eqs160 : EqS Try.prog 160 [.i .u32, .i .u32, .i .u32] := ⟨by kernel_rfl⟩
instance eqs161 : EqS Try.prog 161 [.i .u32, .i .u32, .i .u32] := ⟨by kernel_rfl⟩
end Go.Proofs.Ytcgdkcdlglbigaa
