/- Each call leaves a field well formed. Plain. -/
import Derived.Test.YtgmccdicncocdaaLkStep
open Go.Sl
namespace Go.Lk
open Go.Proofs.Ytgmccdicncocdaa
theorem Wf.joinG {f : Fld} (w : Wf f) {a b : Nat} (ha : a < f.L.length) (hb : b < f.L.length) (hne : a ≠ b) : ∀ i, i ≤ (f.at a).length → Wf (joinG f a b i)
  | 0, _ => by rw [joinG_zero ha hb]; exact w
  | i + 1, h => by
    have w1 := Wf.joinG w ha hb hne i (by omega)
    rw [← joinG_step w1 ha hb hne (by omega)]
    exact (w1.remF _).addF _ _ _
theorem Wf.joinF {f : Fld} (w : Wf f) (x y : Int) : Wf (f.joinF x y) := by
  unfold Fld.joinF
  split
  · rename_i h
    unfold Fld.joinE Fld.head at h
    split at h
    · omega
    · rename_i hc
      simp only [decide_eq_false_iff_not, not_or, Decidable.not_not] at hc
      rw [← joinG_end]
      exact Wf.joinG w (by omega) (by omega) (by omega) _ (Nat.le_refl _)
  · exact w
theorem renList_wf {to : List Nat} {h : Nat} : ∀ {l : List Nat} {o o' : Fld}, Wf o → renList to h l o = some o' → Wf o'
  | [], o, o', w, e => by obtain rfl := Option.some.inj e; exact w
  | n :: ns, o, o', w, e => by
    unfold renList at e
    split at e
    · exact renList_wf (w.addF _ _ _) e
    · cases e
theorem renLists_wf {to : List Nat} : ∀ {L : List (List Nat)} {h : Nat} {o o' : Fld}, Wf o → renLists to h L o = some o' → Wf o'
  | [], h, o, o', w, e => by obtain rfl := Option.some.inj e; exact w
  | l :: L, h, o, o', w, e => by
    unfold renLists at e
    cases h1 : renList to h l o with
    | none => rw [h1] at e; cases e
    | some o1 =>
      rw [h1] at e
      exact renLists_wf (renList_wf w h1) (show renLists to (h + 1) L o1 = some o' from e)
theorem Wf.renG {f : Fld} (w : Wf f) (to : List Nat) (nodes : Int) : Wf (renG f to nodes) := by
  cases h : f.renF to nodes with
  | none => rw [(ren_none h).2]; exact w
  | some o =>
    rw [(ren_some h).2]
    unfold Fld.renF at h
    have hb := w.bound
    split at h
    · cases h
    · exact renLists_wf (Wf.new (by omega) (by omega) (by omega) (by omega)) h
theorem Wf.stepF {f : Fld} (w : Wf f) (a : LAct) : Wf (stepF f a) := by
  unfold Go.Lk.stepF
  split
  · exact w.addF _ _ _
  split
  · exact w.addF _ _ _
  split
  · exact w.befF _ _
  split
  · exact w.remF _
  split
  · exact w.joinF _ _
  split
  · split
    · exact w
    · exact w.renG _ _
  · exact w
end Go.Lk
