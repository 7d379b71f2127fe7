/- The laws of lru, walked: the examples of the chapter. -/
import Derived.Test.YtbdiabakcgafgaaLrL1
namespace Go.Proofs.Ytbdiabakcgafgaa
open Go.Lk Go.Sl Go.Lr
attribute [local irreducible] TK TL TC Th Bk Nx fnPost WA TQ OpQ OpN SpecH Rd Ent IterH RoundH Rb Rp fnPostM
instance : NatI 4194304 4194304 := ⟨rfl⟩
instance : NatI 4194303 4194303 := ⟨rfl⟩
set_option maxRecDepth 20000 in
set_option maxHeartbeats 8000000 in
instance lrl_known : Known Try.prog 30 (SpecH Try.prog 30 #[] [] (fun _ : Unit => .bool true) (fun _ => [])) := ⟨by
  refine spec_of Try.func30 rfl Try.ntmps30 rfl [] rfl ?_; intro base F l0 hl0; (try simp only [List.cons_append] at hl0); (try simp only [List.nil_append] at hl0); subst hl0
  repeat' (first | refine stxD ?_ | refine And.intro ?_ ?_ | (intro e; subst e) | intro _)
  exact rt1 () rfl⟩
end Go.Proofs.Ytbdiabakcgafgaa
