/- Clones of slices and of maps. -/
import Derived.Test.YtdpiglociolagaaGreatLkB
import Derived.Test.YtdpiglociolagaaGreatSlX
import Derived.Test.YtdpiglociolagaaGreatSlHq
namespace Go.Proofs.YtdpiglociolagaaGreat
open Go.Lk Go.Sl
attribute [local irreducible] TK TL TC Th Bk Nx fnPost WA TQ OpQ OpN SpecH Rd Ent IterH RoundH Rb Rp fnPostM
end Go.Proofs.YtdpiglociolagaaGreat
