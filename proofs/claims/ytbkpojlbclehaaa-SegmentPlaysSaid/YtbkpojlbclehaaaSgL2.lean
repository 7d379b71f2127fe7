/- The laws of segment, walked: the examples of the chapter. -/
import Derived.Test.YtbkpojlbclehaaaSgL1
import Derived.Test.YtbkpojlbclehaaaSlBits
namespace Go.Proofs.Ytbkpojlbclehaaa
open Go.Lk Go.Sl Go.Lr Go.Sg
attribute [local irreducible] TK TL TC Th Bk Nx fnPost WA TQ OpQ OpN SpecH Rd Ent IterH RoundH Rb Rp fnPostM
theorem sgl_newC : Known Try.prog 13 (∀ (z : Int), (z < -1 ∨ 1099511627776 < z) → SpecH Try.prog 13 #[.int .i64 z] [] (fun _ : Unit => .tuple #[.pointer none, .int .i64 2]) (fun _ => [])) := ⟨fun z h => sg_new_bad z h⟩
set_option maxRecDepth 20000 in
set_option maxHeartbeats 16000000 in
instance sgl_known : Known Try.prog 15 (SpecH Try.prog 15 #[] [] (fun _ : Unit => .bool true) (fun _ => [])) := ⟨by
  refine spec_of Try.func15 rfl Try.ntmps15 rfl [] rfl ?_; intro base F l0 hl0; (try simp only [List.cons_append] at hl0); (try simp only [List.nil_append] at hl0); subst hl0
  have a0 : AddTo [] [] 10 1 4 [(1, 4)] [] 0 := ⟨rfl, rfl, rfl⟩
  have a1 : AddTo [(1, 4)] [] 10 2 5 [(1, 4), (2, 5)] [] 0 := ⟨rfl, rfl, rfl⟩
  have a2 : AddTo [(1, 4), (2, 5)] [] 10 3 3 [(1, 4), (2, 5), (3, 3)] [] 0 := ⟨rfl, rfl, rfl⟩
  have u0 : UseTo [(1, 4), (2, 5), (3, 3)] [] 10 1 4 [(2, 5), (3, 3)] [(1, 4)] [] 0 := ⟨rfl, rfl, rfl, rfl⟩
  have u1 : UseTo [(2, 5), (3, 3)] [(1, 4)] 10 3 3 [(2, 5)] [(1, 4), (3, 3)] [] 0 := ⟨rfl, rfl, rfl, rfl⟩
  have g0 : ListG 1 [(2, 5)] [(1, 4), (3, 3)] [(1, 4), (3, 3)] := ⟨.inr (.inl ⟨rfl, rfl⟩)⟩
  have f0 : FlatI [1, 4, 3, 3] [(1, 4), (3, 3)] := ⟨rfl, by decide⟩
  have g1 : ListG 0 [(2, 5)] [(1, 4), (3, 3)] [(2, 5)] := ⟨.inl ⟨rfl, rfl⟩⟩
  have u2 : UseTo [(2, 5)] [(1, 4), (3, 3)] 10 2 5 [(1, 4)] [(3, 3), (2, 5)] [1] 0 := ⟨rfl, rfl, rfl, rfl⟩
  have g2 : ListG 1 [(1, 4)] [(3, 3), (2, 5)] [(3, 3), (2, 5)] := ⟨.inr (.inl ⟨rfl, rfl⟩)⟩
  have f2 : FlatI [3, 3, 2, 5] [(3, 3), (2, 5)] := ⟨rfl, by decide⟩
  have g3 : ListG 0 [(1, 4)] [(3, 3), (2, 5)] [(1, 4)] := ⟨.inl ⟨rfl, rfl⟩⟩
  have f3 : FlatI [1, 4] [(1, 4)] := ⟨rfl, by decide⟩
  have u3 : UseTo [(1, 4)] [(3, 3), (2, 5)] 10 2 11 [(1, 4), (3, 3), (2, 11)] [] [3, 2] 0 := ⟨rfl, rfl, rfl, rfl⟩
  have g4 : ListG 1 [(1, 4), (3, 3), (2, 11)] [] [] := ⟨.inr (.inl ⟨rfl, rfl⟩)⟩
  have f4 : FlatI [] [] := ⟨rfl, by decide⟩
  have g5 : ListG 0 [(1, 4), (3, 3), (2, 11)] [] [(1, 4), (3, 3), (2, 11)] := ⟨.inl ⟨rfl, rfl⟩⟩
  have f5 : FlatI [1, 4, 3, 3, 2, 11] [(1, 4), (3, 3), (2, 11)] := ⟨rfl, by decide⟩
  have o0 : OfR [(1, 4), (3, 3), (2, 11)] [] 2 0 11 0 := ⟨.inr (.inr ⟨rfl, by decide, .inr ⟨rfl, by decide⟩⟩)⟩
  have u4 : UseTo [(1, 4), (3, 3), (2, 11)] [] 10 3 3 [(1, 4), (2, 11)] [(3, 3)] [] 0 := ⟨rfl, rfl, rfl, rfl⟩
  have l0 : LimTo [(1, 4), (2, 11)] [(3, 3)] 10 2 [(1, 4), (2, 11), (3, 3)] [] 2 [3] 0 := ⟨rfl, rfl, rfl, rfl, rfl⟩
  have l1 : LimTo [(1, 4), (2, 11), (3, 3)] [] 2 (-1) [(1, 4), (2, 11), (3, 3)] [] (-1) [] 0 := ⟨rfl, rfl, rfl, rfl, rfl⟩
  have r0 : RemTo [(1, 4), (2, 11), (3, 3)] [] (-1) 1 [(2, 11), (3, 3)] [] 0 := ⟨rfl, rfl, rfl⟩
  have r1 : RemTo [(2, 11), (3, 3)] [] (-1) 1 [(2, 11), (3, 3)] [] 9 := ⟨rfl, rfl, rfl⟩
  have o1 : OfR [(2, 11), (3, 3)] [] 9 0 0 9 := ⟨.inr (.inl ⟨rfl, by decide, ⟨by decide, by decide⟩, rfl, rfl⟩)⟩
  have a3 : AddTo [(2, 11), (3, 3)] [] (-1) 2 1 [(2, 11), (3, 3)] [] 11 := ⟨rfl, rfl, rfl⟩
  have a4 : AddTo [(2, 11), (3, 3)] [] (-1) 5 (-1) [(2, 11), (3, 3)] [] 2 := ⟨rfl, rfl, rfl⟩
  have g6 : ListG 2 [(2, 11), (3, 3)] [] [] := ⟨.inr (.inr ⟨.inr (by decide), rfl⟩)⟩
  haveI := sg_addT
  haveI := sg_removeT
  repeat' (first | refine stwD ?_ | refine And.intro ?_ ?_ | (intro e; subst e) | intro _)
  refine call (sg_new_bad (-2) (by decide)) ?_
  repeat' (first | refine stwD ?_ | refine And.intro ?_ ?_ | (intro e; subst e) | intro _)
  exact rt1 () rfl⟩
end Go.Proofs.Ytbkpojlbclehaaa
