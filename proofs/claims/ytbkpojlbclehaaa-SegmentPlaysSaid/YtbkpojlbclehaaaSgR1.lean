/- The reference of segment, walked: New, Fair. -/
import Derived.Test.YtbkpojlbclehaaaSgL1
namespace Go.Sg
/-- Whether there is an order. -/
structure NewB (z : Int) (b : Bool) : Prop where
  out : decide (-1 ≤ z ∧ z ≤ 1099511627776) = b
/-- Whether a slot and a cost are allowed. -/
structure FairB (k : Nat) (z : Int) (b : Bool) : Prop where
  out : decide (fair k z) = b
end Go.Sg
namespace Go.Proofs.Ytbkpojlbclehaaa
open Go.Lk Go.Sl Go.Lr Go.Sg
attribute [local irreducible] TK TL TC Th Bk Nx fnPost WA TQ OpQ OpN SpecH Rd Ent IterH RoundH Rb Rp fnPostM
instance sgr_new : Known Try.prog 14 (∀ (z : Int) (b : Bool), NewB z b → SpecH Try.prog 14 #[.int .i64 z] [] (fun _ : Unit => .tuple #[.agg #[.slice none 0 0, .slice none 0 0, .int .i64 z], .bool b]) (fun _ => [])) := ⟨fun z b hb => by
  have hb := hb.out
  refine spec_of Try.func14 rfl Try.ntmps14 rfl [(0, _)] rfl ?_; intro base F l0 hl0; (try simp only [List.cons_append] at hl0); (try simp only [List.nil_append] at hl0); subst hl0
  by_cases h : -1 ≤ z ∧ z ≤ 1099511627776
  · rw [decide_eq_true h] at hb
    subst hb
    obtain ⟨h1, h2⟩ := h
    repeat' (first | refine stw ?_ | refine And.intro ?_ ?_ | (intro e; exfalso; omega) | (intro e; subst e) | intro _)
    exact ra2 () rfl
  · rw [decide_eq_false h] at hb
    subst hb
    by_cases h1 : -1 ≤ z
    · have h2 : ¬ z ≤ 1099511627776 := fun x => h ⟨h1, x⟩
      clear h
      repeat' (first | refine stw ?_ | refine And.intro ?_ ?_ | (intro e; exfalso; omega) | (intro e; subst e) | intro _)
      exact ra2 () rfl
    · clear h
      repeat' (first | refine stw ?_ | refine And.intro ?_ ?_ | (intro e; exfalso; omega) | (intro e; subst e) | intro _)
      exact ra2 () rfl⟩
instance sgr_fair : Known Try.prog 54 (∀ (xk : Int) (k : Nat) [NatI xk k] (z : Int) (b : Bool), FairB k z b → SpecH Try.prog 54 #[.int .u32 xk, .int .i64 z] [] (fun _ : Unit => .bool b) (fun _ => [])) := ⟨fun xk k _ z b hb => by
  obtain rfl : xk = (k : Int) := NatI.out
  have hb := hb.out
  refine spec_of Try.func54 rfl Try.ntmps54 rfl [(0, _), (1, _)] rfl ?_; intro base F l0 hl0; (try simp only [List.cons_append] at hl0); (try simp only [List.nil_append] at hl0); subst hl0
  by_cases h : fair k z
  · rw [decide_eq_true h] at hb
    subst hb
    obtain ⟨h1, h2, h3⟩ := h
    repeat' (first | refine stw ?_ | refine And.intro ?_ ?_ | (intro e; exfalso; omega) | (intro e; subst e) | intro _)
    exact rt1 () rfl
  · rw [decide_eq_false h] at hb
    subst hb
    by_cases h1 : k < 4194304
    · by_cases h2 : 0 ≤ z
      · have h3 : ¬ z ≤ 1099511627776 := fun x => h ⟨h1, h2, x⟩
        clear h
        repeat' (first | refine stw ?_ | refine And.intro ?_ ?_ | (intro e; exfalso; omega) | (intro e; subst e) | intro _)
        exact rt1 () rfl
      · clear h
        repeat' (first | refine stw ?_ | refine And.intro ?_ ?_ | (intro e; exfalso; omega) | (intro e; subst e) | intro _)
        exact rt1 () rfl
    · clear h
      repeat' (first | refine stw ?_ | refine And.intro ?_ ?_ | (intro e; exfalso; omega) | (intro e; subst e) | intro _)
      exact rt1 () rfl⟩
end Go.Proofs.Ytbkpojlbclehaaa
