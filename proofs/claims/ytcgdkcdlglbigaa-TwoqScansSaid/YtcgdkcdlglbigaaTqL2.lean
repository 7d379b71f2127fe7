/- The laws of twoq, walked: the examples of the chapter. -/
import Derived.Test.YtcgdkcdlglbigaaTqL1
import Derived.Test.YtcgdkcdlglbigaaSlBits
namespace Go.Proofs.Ytcgdkcdlglbigaa
open Go.Lk Go.Sl Go.Gh Go.Tb Go.Tq
attribute [local irreducible] TK TL TC Th Bk Nx fnPost WA TQ OpQ OpN SpecH Rd Ent IterH RoundH Rb Rp fnPostM
set_option maxRecDepth 20000 in
set_option maxHeartbeats 16000000 in
instance tql_known : Known Try.prog 15 (SpecH Try.prog 15 #[] [] (fun _ : Unit => .bool true) (fun _ => [])) := ⟨by
  refine spec_of Try.func15 rfl Try.ntmps15 rfl [] rfl ?_; intro base F l0 hl0; (try simp only [List.cons_append] at hl0); (try simp only [List.nil_append] at hl0); subst hl0
  have u0 : UseTo 3 1 2 [] [] [] 1 [1] [] [] false false 0 := ⟨⟨rfl, rfl, rfl⟩, rfl, rfl, rfl⟩
  have u1 : UseTo 3 1 2 [1] [] [] 2 [2, 1] [] [] false false 0 := ⟨⟨rfl, rfl, rfl⟩, rfl, rfl, rfl⟩
  have u2 : UseTo 3 1 2 [2, 1] [] [] 3 [3, 2, 1] [] [] false false 0 := ⟨⟨rfl, rfl, rfl⟩, rfl, rfl, rfl⟩
  have u3 : UseTo 3 1 2 [3, 2, 1] [] [] 2 [3, 2, 1] [] [] true false 0 := ⟨⟨rfl, rfl, rfl⟩, rfl, rfl, rfl⟩
  have u4 : UseTo 3 1 2 [3, 2, 1] [] [] 4 [4, 3, 2] [] [1] false true 1 := ⟨⟨rfl, rfl, rfl⟩, rfl, rfl, rfl⟩
  have u5 : UseTo 3 1 2 [4, 3, 2] [] [1] 1 [4, 3] [1] [2] false true 2 := ⟨⟨rfl, rfl, rfl⟩, rfl, rfl, rfl⟩
  have u6 : UseTo 3 1 2 [4, 3] [1] [2] 5 [5, 4] [1] [3, 2] false true 3 := ⟨⟨rfl, rfl, rfl⟩, rfl, rfl, rfl⟩
  have u7 : UseTo 3 1 2 [5, 4] [1] [3, 2] 6 [6, 5] [1] [4, 3] false true 4 := ⟨⟨rfl, rfl, rfl⟩, rfl, rfl, rfl⟩
  have u8 : UseTo 3 1 2 [6, 5] [1] [4, 3] 1 [6, 5] [1] [4, 3] true false 0 := ⟨⟨rfl, rfl, rfl⟩, rfl, rfl, rfl⟩
  have u9 : UseTo 3 1 2 [6, 5] [1] [4, 3] 4 [6] [4, 1] [5, 3] false true 5 := ⟨⟨rfl, rfl, rfl⟩, rfl, rfl, rfl⟩
  have u10 : UseTo 3 1 2 [6] [4, 1] [5, 3] 7 [7, 6] [4] [5, 3] false true 1 := ⟨⟨rfl, rfl, rfl⟩, rfl, rfl, rfl⟩
  have u11 : UseTo 3 1 2 [7, 6] [] [5, 3] 8 [8, 7, 6] [] [5, 3] false false 0 := ⟨⟨rfl, rfl, rfl⟩, rfl, rfl, rfl⟩
  have d1 : DropTo [7, 6] [4] 5 [7, 6] [4] false := ⟨rfl, rfl, rfl⟩
  have d2 : DropTo [7, 6] [4] 4 [7, 6] [] true := ⟨rfl, rfl, rfl⟩
  haveI := tql_usesC
  haveI := tql_dropC
  repeat' (first | refine stzD ?_ | refine And.intro ?_ ?_ | (intro e; subst e) | intro _)
  haveI : Width (fun i : Nat => ([.int .i64 (([0, 3, 3, 3, 1025] : List Int).getD i 0), .int .i64 (([1, 0, 4, 1, 1] : List Int).getD i 0), .int .i64 (([1, 1, 1, -1, 1] : List Int).getD i 0)] : List Value)) 3 := ⟨fun _ => rfl⟩
  haveI : Idx [.int .i64 0, .int .i64 1, .int .i64 1, .int .i64 3, .int .i64 0, .int .i64 1, .int .i64 3, .int .i64 4, .int .i64 1, .int .i64 3, .int .i64 1, .int .i64 (-1), .int .i64 1025, .int .i64 1, .int .i64 1] 3 5 (fun i => [.int .i64 (([0, 3, 3, 3, 1025] : List Int).getD i 0), .int .i64 (([1, 0, 4, 1, 1] : List Int).getD i 0), .int .i64 (([1, 1, 1, -1, 1] : List Int).getD i 0)]) := show Idx (rows 5 fun i => [.int .i64 (([0, 3, 3, 3, 1025] : List Int).getD i 0), .int .i64 (([1, 0, 4, 1, 1] : List Int).getD i 0), .int .i64 (([1, 1, 1, -1, 1] : List Int).getD i 0)]) 3 5 (fun i => [.int .i64 (([0, 3, 3, 3, 1025] : List Int).getD i 0), .int .i64 (([1, 0, 4, 1, 1] : List Int).getD i 0), .int .i64 (([1, 1, 1, -1, 1] : List Int).getD i 0)]) from inferInstance
  have hb : ∀ i, i < 5 → ([0, 3, 3, 3, 1025] : List Int).getD i 0 < 1 ∨ 1024 < ([0, 3, 3, 3, 1025] : List Int).getD i 0 ∨ ([1, 0, 4, 1, 1] : List Int).getD i 0 < 1 ∨ ([0, 3, 3, 3, 1025] : List Int).getD i 0 < ([1, 0, 4, 1, 1] : List Int).getD i 0 ∨ ([1, 1, 1, -1, 1] : List Int).getD i 0 < 0 ∨ 1024 < ([1, 1, 1, -1, 1] : List Int).getD i 0 := by decide
  refine tc_lp (ι := {i : Nat // i ≤ 5}) [153] (fun e i => (153, .int .i64 (i.1 : Nat)) :: e) (fun _ => _) (fun i => 5 - i.1) ⟨0, by omega⟩ ?_ (hl := Ent.refl _)
  rintro K ⟨i, hi⟩ hK
  dsimp only
  by_cases hlt : i < 5
  · repeat' (first | refine stz ?_ | refine And.intro ?_ ?_ | (intro e; exfalso; omega) | (intro e; subst e) | intro _)
    refine call (tq_new_bad _ _ _ (hb i hlt)) ?_
    repeat' (first | refine stz ?_ | refine And.intro ?_ ?_ | (intro e; exfalso; omega) | (intro e; subst e) | intro _)
    exact again hK ⟨i + 1, by omega⟩
  · obtain rfl : i = 5 := by omega
    repeat' (first | refine stz ?_ | refine And.intro ?_ ?_ | (intro e; exfalso; omega) | (intro e; subst e) | intro _)
    exact rt1 () rfl⟩
end Go.Proofs.Ytcgdkcdlglbigaa
