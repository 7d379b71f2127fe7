/- Slots that get other numbers, plainly. No program, no condition. -/
import Derived.Test.YtbkpojlbclehaaaSgTheory
import Derived.Test.YtbkpojlbclehaaaLrTheory
namespace Go.Sg
open Go.Lk Go.Sl
def renX (X : List It) (to : List Nat) : List It := X.map fun x => (Lr.gto to x.1, x.2)
section
variable {X P T D P' T' : List It} {to : List Nat} {L e : Int} {k w j : Nat}
theorem renX_nil : renX [] to = [] := rfl
theorem renX_len : (renX X to).length = X.length := List.length_map _
theorem renX_app : renX (X ++ P) to = renX X to ++ renX P to := List.map_append
theorem renX_one : renX [(k, w)] to = [(to.getD k 0, w)] := rfl
theorem sl_renX : sl (renX X to) = (sl X).map (Lr.gto to) := by unfold sl renX; rw [List.map_map, List.map_map]; rfl
theorem sm_renX : ∀ {X : List It}, sm (renX X to) = sm X
  | [] => rfl
  | x :: X => by show x.2 + sm (renX X to) = x.2 + sm X; rw [sm_renX]
theorem mem_renX {x : It} (h : x ∈ renX X to) : ∃ y ∈ X, x = (Lr.gto to y.1, y.2) := by
  obtain ⟨y, hy, rfl⟩ := List.mem_map.1 h
  exact ⟨y, hy, rfl⟩
theorem ren_inv (iv : Inv ⟨P, T, L⟩) (h : Lr.renOk (sl P ++ sl T) to) : Inv ⟨renX P to, renX T to, L⟩ := by
  refine ⟨?_, fun x hx => ?_, iv.lim⟩
  · dsimp only
    rw [sl_renX, sl_renX, ← List.map_append]; exact h.2
  · rcases hx with hx | hx
    · obtain ⟨y, hy, rfl⟩ := mem_renX hx
      exact ⟨(h.1 y.1 (List.mem_append_left _ (mem_sl.2 ⟨y.2, hy⟩))).2, (iv.lt y (.inl hy)).2⟩
    · obtain ⟨y, hy, rfl⟩ := mem_renX hx
      exact ⟨(h.1 y.1 (List.mem_append_right _ (mem_sl.2 ⟨y.2, hy⟩))).2, (iv.lt y (.inr hy)).2⟩
theorem ren_still (st : Still ⟨P, T, L⟩) : Still ⟨renX P to, renX T to, L⟩ := fun ⟨h1, h2⟩ => st (by
  refine ⟨fun e => h1 (by dsimp only at e ⊢; rw [e]; rfl), ?_⟩
  rcases h2 with h2 | h2
  · exact .inl h2
  · dsimp only at h2 ⊢
    rw [sm_renX] at h2; exact .inr h2)
theorem ren_snoc : Lr.renOk (sl (D ++ [(k, w)])) to ↔ Lr.renOk (sl D) to ∧ k < to.length ∧ to.getD k 0 < 4194304 ∧ to.getD k 0 ∉ sl (renX D to) := by
  rw [sl_append, sl_one]
  dsimp only
  rw [Lr.renOk_snoc, sl_renX]
  unfold Lr.addE
  constructor
  · rintro ⟨h1, h2, h3⟩
    by_cases a : 4194304 ≤ to.getD k 0
    · rw [if_pos a] at h3; cases h3
    · rw [if_neg a] at h3
      by_cases b : to.getD k 0 ∈ (sl D).map (Lr.gto to)
      · rw [if_pos b] at h3; cases h3
      · exact ⟨h1, h2, by omega, b⟩
  · rintro ⟨h1, h2, h3, h4⟩
    exact ⟨h1, h2, by rw [if_neg (by omega), if_neg h4]⟩
/-- All slots get other numbers. -/
structure RenTo (P T : List It) (to : List Nat) (P' T' : List It) (e : Int) : Prop where
  out : (Lr.renOk (sl P ++ sl T) to ∧ P' = renX P to ∧ T' = renX T to ∧ e = 0) ∨ (¬ Lr.renOk (sl P ++ sl T) to ∧ P' = P ∧ T' = T ∧ e = 2)
theorem ren_case : ∃ P' T' e, RenTo P T to P' T' e := by
  by_cases h : Lr.renOk (sl P ++ sl T) to
  · exact ⟨_, _, _, ⟨.inl ⟨h, rfl, rfl, rfl⟩⟩⟩
  · exact ⟨_, _, _, ⟨.inr ⟨h, rfl, rfl, rfl⟩⟩⟩
end
end Go.Sg
