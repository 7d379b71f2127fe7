/- What the listed table of math/bits gives a call: it lies in the first block. -/
import Derived.Test.YtmiblmoppdgnjaaDoorWhW1
import Derived.Test.YtmiblmoppdgnjaaDoorRows
import Derived.Test.YtmiblmoppdgnjaaDoorSlE
import Derived.ProofKit
import Derived.LaidMore
import Derived.OpenShut
import Derived.Stop.Joined
namespace Go.Proofs.YtmiblmoppdgnjaaDoor
open Go.ChangeShapes Go.WideShapes Go.ChangeAt Go.WideMaps Go.WideElems Go.RowKit Go.Sl
theorem gTab : Tryd.prog.globalNamed "math/bits.deBruijn64tab" = some 0 := by kernel_rfl
theorem tTab : (Tryd.prog.globals[0]?).map (·.type) = some 103 := by kernel_rfl
def lay : List (String × DataW Unit) := [("math/bits.deBruijn64tab", Rows.laid_math_bits_deBruijn64tab)]
theorem door_met (os : Os) (args : Array Value) : laidMetH Tryd.prog lay ((World.doorLaid Tryd.prog 400 os).forCall (fun _ _ => 0) ⟨#[], args, []⟩).memory :=
  laidMetH_of_parts3 (fuel := 8) (laidMet_of_run' 8 (by kernel_rfl) (by kernel_rfl)) (by kernel_rfl) (by kernel_rfl)
theorem tab_deb {H : Type} : (Rows.laid_math_bits_deBruijn64tab : DataW H) = .agg (Wh.deb.map fun k => .lit (.int .u8 (k : Nat))) := rfl
set_option maxRecDepth 100000 in
theorem bears_tab {W : World} (h : laidMetH Tryd.prog lay W) : Bears W Wh.Tab64 := by
  rw [MakeChecks.laidMetH_plain _ _ _ (by kernel_rfl)] at h
  obtain ⟨ps, ⟨g0, t0, cs0, f0, p0, q0, hg0, ht0, hv0, hd0, _, _⟩, _, _⟩ := h
  obtain rfl := Option.some.inj (gTab.symm.trans hg0)
  obtain rfl := Option.some.inj (tTab.symm.trans ht0)
  have hW : ∃ T fr, W.heap[0]? = some (.cells cs0 T fr) := by
    simp only [World.var?, gTab, Option.bind_some] at hv0
    split at hv0
    · rename_i c t fr hb
      cases hv0
      exact ⟨_, _, hb⟩
    · cases hv0
  obtain ⟨T, fr, hW⟩ := hW
  obtain ⟨xs, m1, rfl, hx1, hlen, hn3, hel⟩ := DataW.trod_array Tryd.underlying103 hd0
  have c3 : Tryd.prog.cellsOf 5 = 1 := by kernel_rfl
  rw [tab_deb] at hx1
  simp only [Prod.mk.injEq, DataW.agg.injEq] at hx1
  refine ⟨fun k => if k = 0 then some (false, .cells cs0 T fr) else none, ⟨cs0, T, fr, rfl, fun j k hj => ?_⟩, fun k x hx => ?_⟩
  · have hj2 : j < 64 := by
      have := (List.getElem?_eq_some_iff.1 hj).1
      exact this
    have h1 := hel j hj2
    rw [List.getElem?_eq_getElem (by omega), c3] at h1
    obtain ⟨z, e1, e2, _⟩ := DataW.trod_int Tryd.underlying5 h1
    have h2 : (xs.map (·.1))[j]? = some (.lit (.int .u8 (k : Nat))) := by rw [← hx1.1, List.getElem?_map, hj]; rfl
    rw [List.getElem?_map, List.getElem?_eq_getElem (by omega)] at h2
    have h3 := Option.some.inj h2
    rw [e2] at h3
    have hz : z = (k : Nat) := by simpa using h3
    subst hz
    obtain ⟨l1⟩ := cs0
    simp only [Nat.mul_one] at e1
    have : (l1.drop j)[0]? = some (.int .u8 (k : Nat)) := by
      have h4 := congrArg (fun l : List Value => l[0]?) e1
      simpa [List.getElem?_take] using h4
    simpa [List.getElem?_drop] using this
  · dsimp only at hx
    split at hx
    · rename_i hk
      subst hk
      cases hx
      exact ⟨rfl, hW⟩
    · cases hx
end Go.Proofs.YtmiblmoppdgnjaaDoor
