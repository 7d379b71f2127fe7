/- The laws of arc, walked: the examples of the chapter. -/
import Derived.Test.YtcgdkcdlglbigaaArL1
import Derived.Test.YtcgdkcdlglbigaaSlBits
namespace Go.Proofs.Ytcgdkcdlglbigaa
open Go.Lk Go.Sl Go.Gh Go.Tb Go.Ar
open Go.Tq (SameB DropTo)
attribute [local irreducible] TK TL TC Th Bk Nx fnPost WA TQ OpQ OpN SpecH Rd Ent IterH RoundH Rb Rp fnPostM
set_option maxRecDepth 20000 in
set_option maxHeartbeats 16000000 in
instance arl_known : Known Try.prog 29 (SpecH Try.prog 29 #[] [] (fun _ : Unit => .bool true) (fun _ => [])) := ⟨by
  refine spec_of Try.func29 rfl Try.ntmps29 rfl [] rfl ?_; intro base F l0 hl0; (try simp only [List.cons_append] at hl0); (try simp only [List.nil_append] at hl0); subst hl0
  have u0 : Ar.UseTo 2 [] [] [] [] 0 1 [1] [] [] [] 0 false false 0 := ⟨⟨rfl, rfl, rfl, rfl, rfl⟩, rfl, rfl, rfl⟩
  have u1 : Ar.UseTo 2 [1] [] [] [] 0 2 [2, 1] [] [] [] 0 false false 0 := ⟨⟨rfl, rfl, rfl, rfl, rfl⟩, rfl, rfl, rfl⟩
  have u2 : Ar.UseTo 2 [2, 1] [] [] [] 0 3 [3, 2] [] [] [] 0 false true 1 := ⟨⟨rfl, rfl, rfl, rfl, rfl⟩, rfl, rfl, rfl⟩
  have u3 : Ar.UseTo 2 [3, 2] [] [] [] 0 2 [3] [2] [] [] 0 true false 0 := ⟨⟨rfl, rfl, rfl, rfl, rfl⟩, rfl, rfl, rfl⟩
  have u4 : Ar.UseTo 2 [3] [2] [] [] 0 4 [4] [2] [3] [] 0 false true 3 := ⟨⟨rfl, rfl, rfl, rfl, rfl⟩, rfl, rfl, rfl⟩
  have u5 : Ar.UseTo 2 [4] [2] [3] [] 0 3 [4] [3] [] [2] 1 false true 2 := ⟨⟨rfl, rfl, rfl, rfl, rfl⟩, rfl, rfl, rfl⟩
  have u6 : Ar.UseTo 2 [4] [3] [] [2] 1 2 [] [2, 3] [4] [] 0 false true 4 := ⟨⟨rfl, rfl, rfl, rfl, rfl⟩, rfl, rfl, rfl⟩
  have u7 : Ar.UseTo 2 [] [2] [4] [] 0 5 [5] [2] [4] [] 0 false false 0 := ⟨⟨rfl, rfl, rfl, rfl, rfl⟩, rfl, rfl, rfl⟩
  have d1 : DropTo [] [2, 3] 4 [] [2, 3] false := ⟨rfl, rfl, rfl⟩
  have d2 : DropTo [] [2, 3] 3 [] [2] true := ⟨rfl, rfl, rfl⟩
  haveI := arl_usesC
  haveI := arl_dropC
  repeat' (first | refine stzD ?_ | refine And.intro ?_ ?_ | (intro e; subst e) | intro _)
  refine call (ar_new_bad 0 (by decide)) ?_
  repeat' (first | refine stzD ?_ | refine And.intro ?_ ?_ | (intro e; subst e) | intro _)
  refine call (ar_new_bad 1025 (by decide)) ?_
  repeat' (first | refine stzD ?_ | refine And.intro ?_ ?_ | (intro e; subst e) | intro _)
  exact rt1 () rfl⟩
end Go.Proofs.Ytcgdkcdlglbigaa
