/- In a drawn region: one of three operations may come up. -/
import Derived.Test.YtdpiglociolagaaGreatSlHq
namespace Go.Sl
section
variable {r : Option Nat} {P : Program} {base : World} {n : Nat} {ds : List Deferred} {Q : Exit → Act → World → Prop} {env : Env} {lc : List HP} {ops : Array Oper} {F : List HP} {listed : Array Bool} {fuel : Nat}
end
end Go.Sl
