/- Structs that can be compared. -/
import Derived.Test.YtmiblmoppdgnjaaSlTypes
import Derived.Test.YtmiblmoppdgnjaaSlEqs
namespace Go.Proofs.Ytmiblmoppdgnjaa
open Go.Sl
instance eqs29 : EqS Try.prog 29 [.b, .b, .i .u32] := ⟨by kernel_rfl⟩
instance eqs30 : EqS Try.prog 30 [.b, .b, .i .u32] := ⟨by kernel_rfl⟩
instance eqs35 : EqS Try.prog 35 [.i .i64, .i .u32] := ⟨by kernel_rfl⟩
instance eqs36 : EqS Try.prog 36 [.i .i64, .i .u32] := ⟨by kernel_rfl⟩
instance eqs72 : EqS Try.prog 72 [.i .u32, .i .i64] := ⟨by kernel_rfl⟩
instance eqs73 : EqS Try.prog 73 [.i .u32, .i .i64] := ⟨by kernel_rfl⟩
instance eqs87 : EqS Try.prog 87 [.i .u32, .i .u32, .i .u32] := ⟨by kernel_rfl⟩
instance eqs88 : EqS Try.prog 88 [.i .u32, .i .u32, .i .u32] := ⟨by kernel_rfl⟩
end Go.Proofs.Ytmiblmoppdgnjaa
