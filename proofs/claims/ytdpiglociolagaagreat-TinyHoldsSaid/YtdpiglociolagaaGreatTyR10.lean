/- The reference of tiny, walked: requests. -/
import Derived.Test.YtdpiglociolagaaGreatTyR9
import Derived.Test.YtdpiglociolagaaGreatMsSet
namespace Go.Ty
open Go.Lk Go.Sl Go.Proofs.YtdpiglociolagaaGreat
structure Ls3 (W A B : List Nat) : Prop where
  wn : W.Nodup
  an : A.Nodup
  bn : B.Nodup
  wd : ∀ k ∈ W, k ∉ A ∧ k ∉ B
  ab : ∀ k ∈ A, k ∉ B
  lt : ∀ k, k ∈ W ∨ k ∈ A ∨ k ∈ B → k < 4294967296
structure MemB (L : List Nat) (k : Nat) (b : Bool) : Prop where
  out : decide (k ∈ L) = b
structure Mem3 (W A B : List Nat) (k : Nat) (b : Bool) : Prop where
  out : decide (k ∈ W ∨ k ∈ A ∨ k ∈ B) = b
end Go.Ty
namespace Go.Proofs.YtdpiglociolagaaGreat
open Go.Lk Go.Sl Go.Gh Go.Ty
attribute [local irreducible] TK TL TC Th Bk Nx fnPost WA TQ OpQ OpN SpecH Rd Ent IterH RoundH Rb Rp fnPostM
attribute [local irreducible] Ty.shS Ty.sumB Ty.plS Ty.at64 Ty.cAdd Ty.plB Ty.bA Ty.bS Ty.hasB Ty.addB Ty.Mem.note Ty.Mem.guess Ty.adN
end Go.Proofs.YtdpiglociolagaaGreat
