/- The laws of lfu, walked: uses, the examples of the chapter. -/
import Derived.Test.YtmiblmoppdgnjaaLfO
import Derived.Test.YtmiblmoppdgnjaaLfR3
namespace Go.Proofs.Ytmiblmoppdgnjaa
open Go.Lk Go.Sl Go.Lf
attribute [local irreducible] TK TL TC Th Bk Nx fnPost WA TQ OpQ OpN SpecH Rd Ent IterH RoundH Rb Rp fnPostM
instance lfl_uses : Known Try.prog 10 (∀ (p size age req : Nat) (l : List It) (xk : Int) (k : Nat) [NatI xk k] (h b : Bool) (xo : Int) (o : Nat) [NatI xo o], k < 4294967296 → req < 1000000000 → SpecH Try.prog 10 #[.pointer (some ⟨p, 0, none⟩), .int .u32 xk, .agg #[.bool h, .bool b, .int .u32 xo]] [LfuAt p size age req l] (fun _ : Unit => .bool (decide (useH l k = h ∧ useB size l k = b ∧ useO size l k = o))) (fun _ => [LfuAt p size age (useS size age (req, l) k).1 (useS size age (req, l) k).2])) := ⟨fun p size age req l xk k _ h b xo o _ hk hr => by
  obtain rfl : xk = (k : Int) := NatI.out
  obtain rfl : xo = (o : Int) := NatI.out
  refine spec_of Try.func10 rfl Try.ntmps10 rfl [(0, _), (1, _), (2, _)] rfl ?_; intro base F l0 hl0; (try simp only [List.cons_append] at hl0); (try simp only [List.nil_append] at hl0); subst hl0
  by_cases hu : useH l k = h ∧ useB size l k = b ∧ ((useO size l k : Nat) : Int) = (o : Int)
  · obtain ⟨h1, h2, h3⟩ := hu
    rw [decide_eq_true ⟨h1, h2, by omega⟩]
    repeat' (first | refine sty ?_ | refine And.intro ?_ ?_ | (intro e; exfalso; omega) | (intro e; subst e) | intro _)
    exact rt1 () rfl
  · rw [decide_eq_false (fun h => hu ⟨h.1, h.2.1, by rw [h.2.2]⟩)]
    repeat' (first | refine sty ?_ | refine And.intro ?_ ?_ | (intro e; exfalso; omega) | (intro e; subst e) | intro _)
    exact rt1 () rfl⟩
set_option maxRecDepth 20000 in
set_option maxHeartbeats 16000000 in
instance lfl_known : Known Try.prog 8 (SpecH Try.prog 8 #[] [] (fun _ : Unit => .bool true) (fun _ => [])) := ⟨by
  refine spec_of Try.func8 rfl Try.ntmps8 rfl [] rfl ?_; intro base F l0 hl0; (try simp only [List.cons_append] at hl0); (try simp only [List.nil_append] at hl0); subst hl0
  repeat' (first | refine styD ?_ | refine And.intro ?_ ?_ | (intro e; subst e) | intro _)
  refine call (lf_new_bad 0 0 (by decide)) ?_
  repeat' (first | refine styD ?_ | refine And.intro ?_ ?_ | (intro e; subst e) | intro _)
  refine call (lf_new_bad 1 (-1) (by decide)) ?_
  repeat' (first | refine styD ?_ | refine And.intro ?_ ?_ | (intro e; subst e) | intro _)
  refine call (lf_new_bad 1025 0 (by decide)) ?_
  repeat' (first | refine styD ?_ | refine And.intro ?_ ?_ | (intro e; subst e) | intro _)
  exact rt1 () rfl⟩
end Go.Proofs.Ytmiblmoppdgnjaa
