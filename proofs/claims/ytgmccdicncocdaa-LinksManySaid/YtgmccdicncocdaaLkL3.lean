/- The laws of links, walked: a field with the greatest number of nodes, or of lists. -/
import Derived.Test.YtgmccdicncocdaaLkL2
import Derived.Test.YtgmccdicncocdaaLkMany
namespace Go.Proofs.Ytgmccdicncocdaa
open Go.Sl Go.Lk
attribute [local irreducible] TK TL TC Th Bk Nx fnPost WA TQ OpQ OpN SpecH Rd Ent IterH RoundH Rb Rp fnPostM
attribute [local irreducible] Fld.addE Fld.addF Fld.befE Fld.befF Fld.inE Fld.remF Fld.first Fld.last Fld.next Fld.prev Fld.ofR Fld.listOf Fld.joinE Fld.joinF renE renG Fld.at Fld.set Fld.place
set_option maxRecDepth 20000 in
set_option maxHeartbeats 8000000 in
theorem many_spec (a : Int) (b : Bool) (h0 : 0 ≤ a) (h1 : a ≤ 255) : SpecH Try.prog 4 #[.int .u8 a, .bool b] [] (fun _ : Unit => .bool true) (fun _ => []) := by
  obtain ⟨k, rfl⟩ : ∃ k : Nat, a = k := ⟨a.toNat, by omega⟩
  cases b
  · refine spec_of Try.func4 rfl Try.ntmps4 rfl [(0, _), (1, _)] rfl ?_; intro base F l0 hl0; (try simp only [List.cons_append, List.nil_append] at hl0); subst hl0
    by_cases hk : (k : Int) > 3
    · repeat' (first | refine st ?_ | refine And.intro ?_ ?_ | (intro e; subst e) | intro _)
      exact rt1 () rfl
    · obtain ⟨N, hN⟩ : ∃ N : Nat, (4194304 : Int) - k = N := ⟨4194304 - k, by omega⟩
      have i1 : NatI (4194304 - (k : Int)) N := ⟨hN⟩
      have i2 : NatI (4194304 - (k : Int) - 1) (N - 1) := ⟨by omega⟩
      obtain ⟨f1, f2, f3, f4, f5, f6, f7⟩ := many (N := N) (M := 1) (n1 := N - 1) (h1 := 1 - 1) (h2 := 1) (by omega) (by omega) (by omega) (by omega) rfl rfl (by omega)
      obtain ⟨f5a, f5b⟩ := Prod.mk.inj f5
      obtain ⟨f6a, f6b⟩ := Prod.mk.inj f6
      have hlen : (List.replicate 1 ([] : List Nat)).length = 1 := rfl
      repeat' (first | refine st ?_ | refine And.intro ?_ ?_ | (intro e; exfalso; omega) | (intro e; subst e) | intro _)
      all_goals exact rt1 () rfl
  · refine spec_of Try.func4 rfl Try.ntmps4 rfl [(0, _), (1, _)] rfl ?_; intro base F l0 hl0; (try simp only [List.cons_append, List.nil_append] at hl0); subst hl0
    by_cases hk : (k : Int) > 3
    · repeat' (first | refine st ?_ | refine And.intro ?_ ?_ | (intro e; subst e) | intro _)
      exact rt1 () rfl
    · obtain ⟨M, hM⟩ : ∃ M : Nat, (4096 : Int) - k = M := ⟨4096 - k, by omega⟩
      have i1 : NatI (4096 - (k : Int)) M := ⟨hM⟩
      have i2 : NatI (3 - 1) 2 := ⟨rfl⟩
      obtain ⟨f1, f2, f3, f4, f5, f6, f7⟩ := many (N := 3) (M := M) (n1 := 2) (h1 := 4096 - (k : Int) - 1) (h2 := 4096 - (k : Int)) (by omega) (by omega) (by omega) (by omega) (by omega) (by omega) (by omega)
      obtain ⟨f5a, f5b⟩ := Prod.mk.inj f5
      obtain ⟨f6a, f6b⟩ := Prod.mk.inj f6
      have hlen : (List.replicate M ([] : List Nat)).length = M := List.length_replicate
      repeat' (first | refine st ?_ | refine And.intro ?_ ?_ | (intro e; exfalso; omega) | (intro e; subst e) | intro _)
      all_goals exact rt1 () rfl
end Go.Proofs.Ytgmccdicncocdaa
