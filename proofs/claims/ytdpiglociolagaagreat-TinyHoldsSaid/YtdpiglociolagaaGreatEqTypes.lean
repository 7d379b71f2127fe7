/- Structs that can be compared. -/
import Derived.Test.YtdpiglociolagaaGreatSlTypes
import Derived.Test.YtdpiglociolagaaGreatSlEqs
namespace Go.Proofs.YtdpiglociolagaaGreat
open Go.Sl
instance eqs23 : EqS Tryz.prog 23 [.i .i64, .i .i64, .i .i64, .i .u64] := ⟨by kernel_rfl⟩
instance eqs24 : EqS Tryz.prog 24 [.i .i64, .i .i64, .i .i64, .i .u64] := ⟨by kernel_rfl⟩
instance eqs42 : EqS Tryz.prog 42 [.i .i64, .i .u32] := ⟨by kernel_rfl⟩
instance eqs43 : EqS Tryz.prog 43 [.i .i64, .i .u32] := ⟨by kernel_rfl⟩
instance eqs46 : EqS Tryz.prog 46 [.b, .b, .i .u32] := ⟨by kernel_rfl⟩
instance eqs47 : EqS Tryz.prog 47 [.b, .b, .i .u32] := ⟨by kernel_rfl⟩
instance eqs127 : EqS Tryz.prog 127 [.i .u32, .i .i64] := ⟨by kernel_rfl⟩
instance eqs128 : EqS Tryz.prog 128 [.i .u32, .i .i64] := ⟨by kernel_rfl⟩
instance eqs153 : EqS Tryz.prog 153 [.i .u64, .b] := ⟨by kernel_rfl⟩
instance eqs154 : EqS Tryz.prog 154 [.i .u64, .b] := ⟨by kernel_rfl⟩
instance eqs180 : EqS Tryz.prog 180 [.i .u32, .i .u32, .i .u32] := ⟨by kernel_rfl⟩
instance eqs181 : EqS Tryz.prog 181 [.i .u32, .i .u32, .i .u32] := ⟨by kernel_rfl⟩
end Go.Proofs.YtdpiglociolagaaGreat
