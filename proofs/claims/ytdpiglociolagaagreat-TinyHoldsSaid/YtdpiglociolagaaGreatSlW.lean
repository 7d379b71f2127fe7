/- Steps, all of them; bits of numbers of any kind. For whatever program. -/
import Derived.Test.YtdpiglociolagaaGreatSlHq
import Derived.Test.YtdpiglociolagaaGreatSlBits
namespace Go.Sl
section
variable {r : Option Nat} {P : Program} {n : Nat} {ds : List Deferred} {env : Env} {lc : List HP} {dst : Option Tmp} {ty : TypeId} {pos : String} {af : Array Edge} {g : Option (Nat × Bool)} {all : Array Oper} {t : TypeId} {x y : Operand} {yt : TypeId} {i j z : Int} {k : IntKind}
theorem opq_andK (hw : Want all ⟨dst, .binOp .and t x y yt, ty, pos, af, g⟩ env) (hx : ev env x = some (.int k i)) (hy : ev env y = some (.int k j)) (hz : k.wrap ((BitVec.ofInt k.bits i &&& BitVec.ofInt k.bits j).toNat : Int) = z) : OpQ r P all ⟨dst, .binOp .and t x y yt, ty, pos, af, g⟩ n ds env lc (.int k z) :=
  opq_bin hw hx hy (eqGuard_int _ _ _ _ _ _ _ _) fun w => by
    rw [show binOp .and t (.int k i) (.int k j) = Op.intBits .and k i j by simp [binOp], ← hz]; rfl
end
theorem stw {g q : Prop} (x : q) (h : q → g := by first | exact stL | exact stC | exact stK | exact stQ | exact stML | exact stB | exact stBl | exact stP | exact stZ | exact stZE | fail) : g := h x
end Go.Sl
