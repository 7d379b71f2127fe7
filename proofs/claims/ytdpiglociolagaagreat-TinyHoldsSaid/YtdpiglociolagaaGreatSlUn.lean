/- Loops of few rounds, round by round. For whatever program. -/
import Derived.Test.YtdpiglociolagaaGreatSlD
namespace Go.Sl
section
variable {r : Option Nat} {P : Program} {base : World} {n : Nat} {ds : List Deferred} {Q : Exit → Act → World → Prop} {c : Code} {env : Env} {l : List HP}
def Un (r : Option Nat) (P : Program) (base : World) (n : Nat) (ds : List Deferred) (c : Code) (Q : Exit → Act → World → Prop) : Nat → Env → List HP → Prop
  | 0, env, l => ∀ K, TC r P base n ds c (Th K Q) env l
  | k + 1, env, l => ∀ K, (∀ env' l', Un r P base n ds c Q k env' l' → TK base n ds K env' l') → TC r P base n ds c (Th K Q) env l
theorem un {k : Nat} (h : ∀ K, (∀ env' l', Un r P base n ds c Q k env' l' → TK base n ds K env' l') → TC r P base n ds c (Th K Q) env l) : Un r P base n ds c Q (k + 1) env l := h
theorem un0 (h : ∀ K, TC r P base n ds c (Th K Q) env l) : Un r P base n ds c Q 0 env l := h
theorem tc_un (k : Nat) (h : Un r P base n ds c Q k env l) : TC r P base n ds (.loop c) Q env l := fun _a _w ha hw =>
  wpIn_loop_ix (ι := {x : Nat × Env × List HP // Un r P base n ds c Q x.1 x.2.1 x.2.2}) (fun i a w => AS n ds i.1.2.1 a ∧ St base i.1.2.2 w) (fun i => i.1.1)
    (fun i _ _ hh => by
      obtain ⟨⟨k, env, l⟩, h⟩ := i
      dsimp only at h hh
      cases k with
      | zero => exact h _ _ _ hh.1 hh.2
      | succ k => exact h _ (fun env' l' hu _ _ ha' hw' => ⟨⟨(k, env', l'), hu⟩, Nat.lt_succ_self k, ha', hw'⟩) _ _ hh.1 hh.2) ⟨(k, env, l), h⟩ ⟨ha, hw⟩
end
end Go.Sl
