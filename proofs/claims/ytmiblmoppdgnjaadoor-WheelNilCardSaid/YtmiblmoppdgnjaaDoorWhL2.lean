/- The laws of wheel, walked: the examples of the chapter. -/
import Derived.Test.YtmiblmoppdgnjaaDoorWhL1
namespace Go.Proofs.YtmiblmoppdgnjaaDoor
open Go.Lk Go.Sl Go.Lf Go.Wh
attribute [local irreducible] TK TL TC Th Bk Nx fnPost WA TQ OpQ OpN SpecH Rd Ent IterH RoundH Rb Rp fnPostM
instance : NatI 4194304 4194304 := ⟨rfl⟩
set_option maxRecDepth 20000 in
set_option maxHeartbeats 16000000 in
instance whl_known : Known Tryd.prog 8 (SpecH Tryd.prog 8 #[] [Tab64] (fun _ : Unit => .bool true) (fun _ => [])) := ⟨by
  refine spec_of Tryd.func8 rfl Tryd.ntmps8 rfl [] rfl ?_; intro base F l0 hl0; (try simp only [List.cons_append] at hl0); (try simp only [List.nil_append] at hl0); subst hl0
  repeat' (first | refine stzD ?_ | refine And.intro ?_ ?_ | (intro e; subst e) | intro _)
  exact rt1 () rfl⟩
end Go.Proofs.YtmiblmoppdgnjaaDoor
