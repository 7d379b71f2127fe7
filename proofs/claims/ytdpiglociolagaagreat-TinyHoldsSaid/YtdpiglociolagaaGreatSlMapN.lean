/- A range over a map that is owned: the entry that a step has come to. For whatever program. -/
import Derived.Test.YtdpiglociolagaaGreatSlX
namespace Go.Sl
section
variable {α : Type}
end
section
variable {r : Option Nat} {P : Program} {base : World} {n : Nat} {ds : List Deferred} {Q : Exit → Act → World → Prop} {env : Env} {lc l l' : List HP} {all : Array Oper} {ro : List Oper}
variable {dst : Option Tmp} {ty : TypeId} {pos : String} {af : Array Edge} {g : Option (Nat × Bool)} {α : Type} {kk : IntKind} {V : α → Value}
end
theorem TC.weak {r : Option Nat} {P : Program} {base : World} {n : Nat} {ds : List Deferred} {c : Code} {Q : Exit → Act → World → Prop} {env env' : Env} {l : List HP} (h : TC r P base n ds c Q env' l) (hs : Sub env env') : TC r P base n ds c Q env l := by
  unfold TC at *
  exact fun a w ha hw => h a w (ha.sub hs) hw
end Go.Sl
