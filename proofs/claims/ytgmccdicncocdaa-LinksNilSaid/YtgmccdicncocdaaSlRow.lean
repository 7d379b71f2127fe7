/- From a contract to a call from outside: the blocks that there were stay as they were. For whatever program. -/
import Derived.Test.YtgmccdicncocdaaSlEnds
import Derived.ChangeSame
import Derived.CallsIn
namespace Go.Sl
/-- All blocks of a world, shared. -/
def allOf (w : World) : HP := fun h => h = fun k => (w.heap[k]?).map fun o => (false, o)
theorem calls_of_spec {P : Program} {f : FuncId} {args : Array Value} {v : Value} (hs : SpecH P f args [] (fun _ : Unit => v) (fun _ => [])) (w : World) :
    Calls P f args w fun e w' => e = .returned v ∧ w.keptBut w' (fun _ => False) := by
  have h := hs w (allOf w) w ⟨rfl, rfl, rfl, (fun k => (w.heap[k]?).map fun o => (false, o)), fun k x hx => by
    dsimp only at hx
    cases hk : w.heap[k]? with
    | none => rw [hk] at hx; cases hx
    | some o => rw [hk] at hx; simp at hx; rw [← hx],
    ⟨_, fun _ => none, fun _ => .inr (.inl rfl), by funext k; unfold joinH; dsimp only; cases (w.heap[k]?).map (fun o => (false, o)) <;> rfl, rfl, trivial⟩⟩
  refine (CallsIn.calls h (fun k => room_wide k)).mono ?_
  rintro e w' ⟨_, rfl, hw'⟩
  obtain ⟨h', hf, a, b, hd, rfl, ha, _⟩ := hw'.heap
  refine ⟨rfl, hw'.os, hw'.output, fun i hi => ?_⟩
  have h1 : w.heap[i]? = some w.heap[i] := by simp [hi]
  have h2 : w'.heap[i]? = some w.heap[i] := hf i (false, w.heap[i]) (joinH_left (by rw [ha]; simp [h1]))
  rw [h1, h2]
  cases w.heap[i] <;> simp
end Go.Sl
