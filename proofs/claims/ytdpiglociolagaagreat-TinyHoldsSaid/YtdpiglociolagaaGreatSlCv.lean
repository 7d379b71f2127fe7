/- Calls of functions that are values. For whatever program. -/
import Derived.Test.YtdpiglociolagaaGreatSlEqs
namespace Go.Sl
section
end
section
variable {r : Option Nat} {P : Program} {base : World} {n : Nat} {ds : List Deferred} {Q : Exit → Act → World → Prop} {env : Env} {lc l rest : List HP} {all : Array Oper} {ro : List Oper}
theorem callV {α : Type} {x : Operand} {f : FuncId} {first captured : Array Value} {xs : List Operand} {ats : Array TypeId} {vs : List Value} {args : Array Value} {pre : List HP} {val : α → Value} {post : α → List HP} {dst : Option Tmp} {ty : TypeId} {pos : String} {af : Array Edge} {g : Option (Nat × Bool)} {d : Nat} {R : Prop} [CF P f] (hs : SpecH P f args pre val post) (h : R)
    (hx : ev env x = some (.func (.func f) first captured) := by rfl) (hw : Want all ⟨dst, .call ⟨.value x, xs.toArray, ats⟩, ty, pos, af, g⟩ env := by (first | exact want_none rfl | exact want_yes rfl rfl rfl rfl rfl | fail)) (hxs : Evs env xs vs := by (repeat (first | exact Evs.nil | (apply Evs.cons; exact rfl) | fail)); done) (hargs : args = first ++ vs.toArray ++ captured := by rfl) (hp : Pick l pre rest := by (repeat (first | (with_reducible exact Pick.nil _) | (apply Pick.cons; (focus ((repeat (first | (with_reducible exact Rem.here _ _) | (with_reducible apply Rem.there) | fail)); done))) | fail)); done) (hd : dst = some d := by rfl) (hn : d < n := by exact Nat.lt_of_ble_eq rfl)
    (hR : R → ∀ x, TL r P base n ds all ro Q ((d, val x) :: env) (post x ++ rest) := by intro h; (try refine prod_all ?_); (try dsimp only [List.cons_append, List.nil_append]); first | exact fun _ => h | exact h | fail) : TL r P base n ds all (⟨dst, .call ⟨.value x, xs.toArray, ats⟩, ty, pos, af, g⟩ :: ro) Q env l :=
  tl_n (opn_callv hw hx hxs hargs hs hp) hd hn (hR h)
end
end Go.Sl
