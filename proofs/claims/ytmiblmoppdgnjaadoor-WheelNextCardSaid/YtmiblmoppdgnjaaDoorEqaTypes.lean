/- Arrays that can be compared. -/
import Derived.Test.YtmiblmoppdgnjaaDoorEqTypes
import Derived.Test.YtmiblmoppdgnjaaDoorSlBits
namespace Go.Proofs.YtmiblmoppdgnjaaDoor
open Go.Sl
instance eqa53 : EqA Tryd.prog 53 .u64 4 := ⟨by kernel_rfl⟩
instance eqa61 : EqA Tryd.prog 61 .u64 4 := ⟨by kernel_rfl⟩
instance eqa103 : EqA Tryd.prog 103 .u8 64 := ⟨by kernel_rfl⟩
end Go.Proofs.YtmiblmoppdgnjaaDoor
