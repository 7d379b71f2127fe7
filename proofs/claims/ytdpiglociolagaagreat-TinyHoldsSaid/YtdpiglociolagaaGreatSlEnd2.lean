/- More ends of functions. For whatever program. -/
import Derived.Test.YtdpiglociolagaaGreatSlD
namespace Go.Sl
section
variable {P : Program} {base : World} {n : Nat} {ds : List Deferred} {env : Env} {l l' : List HP} {F : HP} {fn : Func} {α : Type} {val : α → Value} {post : α → List HP} {t t2 t3 : Nat} {v1 v2 v3 : Value}
end
end Go.Sl
