/- A list of two things, of which one is read. For whatever program. -/
import Derived.Test.YtgmccdicncocdaaSlFrame
namespace Go.Sl
/-- The one or the other. -/
def two (a b : Value) : Nat → Value
  | 0 => a
  | _ + 1 => b
instance (a b : Value) : Idx [a, b] 1 2 (fun i => [two a b i]) := ⟨fun i hi => ⟨rfl, fun j v hj => by
  cases j with
  | zero =>
    obtain rfl := Option.some.inj hj
    match i, hi with
    | 0, _ => rfl
    | 1, _ => rfl
  | succ j => cases hj⟩⟩
end Go.Sl
