/- Structs that can be compared. -/
import Derived.Test.YtmiblmoppdgnjaaDoorSlTypes
import Derived.Test.YtmiblmoppdgnjaaDoorSlEqs
namespace Go.Proofs.YtmiblmoppdgnjaaDoor
open Go.Sl
instance eqs41 : EqS Tryd.prog 41 [.i .i64, .i .u32, .i .i64] := ⟨by kernel_rfl⟩
instance eqs42 : EqS Tryd.prog 42 [.i .i64, .i .u32, .i .i64] := ⟨by kernel_rfl⟩
instance eqs70 : EqS Tryd.prog 70 [.i .u32, .i .i64] := ⟨by kernel_rfl⟩
instance eqs71 : EqS Tryd.prog 71 [.i .u32, .i .i64] := ⟨by kernel_rfl⟩
instance eqs91 : EqS Tryd.prog 91 [.i .u32, .i .u32, .i .u32] := ⟨by kernel_rfl⟩
instance eqs92 : EqS Tryd.prog 92 [.i .u32, .i .u32, .i .u32] := ⟨by kernel_rfl⟩
end Go.Proofs.YtmiblmoppdgnjaaDoor
