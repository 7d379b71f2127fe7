/- The laws of links, walked: a new field, or the error. -/
import Derived.Test.YtgmccdicncocdaaLkL5
import Derived.Test.YtgmccdicncocdaaSlFrame
namespace Go.Proofs.Ytgmccdicncocdaa
open Go.Sl Go.Lk
attribute [local irreducible] TK TL TC Th Bk Nx fnPost WA TQ OpQ OpN SpecH Rd Ent IterH RoundH Rb Rp fnPostM
attribute [local irreducible] Fld.addE Fld.addF Fld.befE Fld.befF Fld.inE Fld.remF Fld.first Fld.last Fld.next Fld.prev Fld.ofR Fld.listOf Fld.joinE Fld.joinF renE renG Fld.at Fld.set Fld.place
set_option maxRecDepth 20000 in
set_option maxHeartbeats 8000000 in
theorem lnew_spec (nodes heads : Int) : SpecH Try.prog 6 #[.int .i64 nodes, .int .i64 heads] [] (fun _ : Unit => .bool true) (fun _ => []) := by
  by_cases hb : nodes < 1 ∨ 4194304 < nodes ∨ heads < 1 ∨ 4096 < heads
  · refine spec_of Try.func6 rfl Try.ntmps6 rfl [(0, _), (1, _)] rfl ?_; intro base F l0 hl0; (try simp only [List.cons_append] at hl0); (try simp only [List.nil_append] at hl0); subst hl0
    (repeat (first | ((fail_if_success (refine atCall 11 ?_)); refine st ?_) | fail))
    refine call (ref_new_bad.out nodes heads hb) ?_
    repeat' (first | ((fail_if_success (refine atCall 10 ?_)); refine st ?_) | refine tl_skipU rfl rfl rfl rfl rfl (Nat.lt_of_ble_eq rfl) ?_ | refine And.intro ?_ ?_ | (intro e; exfalso; omega) | (intro e; subst e) | intro _)
    refine call (new_bad.out nodes heads hb) ?_
    repeat' (first | refine st ?_ | refine And.intro ?_ ?_ | (intro e; exfalso; omega) | (intro e; subst e) | intro _)
    all_goals exact rt1 () rfl
  · obtain ⟨N, rfl⟩ : ∃ N : Nat, nodes = N := ⟨nodes.toNat, by omega⟩
    obtain ⟨M, rfl⟩ : ∃ M : Nat, heads = M := ⟨heads.toNat, by omega⟩
    have hw : Wf ⟨N, List.replicate M []⟩ := Wf.new (by omega) (by omega) (by omega) (by omega)
    have hl : (⟨N, List.replicate M []⟩ : Fld).L.length = M := by simp
    by_cases hc : 2000 < N ∨ 200 < M
    · refine spec_of Try.func6 rfl Try.ntmps6 rfl [(0, _), (1, _)] rfl ?_; intro base F l0 hl0; (try simp only [List.cons_append] at hl0); (try simp only [List.nil_append] at hl0); subst hl0
      repeat' (first | refine st ?_ | refine And.intro ?_ ?_ | (intro e; exfalso; omega) | (intro e; subst e) | intro _)
      all_goals exact rt1 () rfl
    · have hi := fun p a c => is_spec.out p ⟨N, List.replicate M []⟩ a c hw (by show N ≤ 5000; omega)
      simp only [hl] at hi
      refine spec_of Try.func6 rfl Try.ntmps6 rfl [(0, _), (1, _)] rfl ?_; intro base F l0 hl0; (try simp only [List.cons_append] at hl0); (try simp only [List.nil_append] at hl0); subst hl0
      repeat' (first | refine st ?_ | refine And.intro ?_ ?_ | (intro e; exfalso; omega) | (intro e; subst e) | intro _)
      rename_i qa qc _ p
      refine call (hi p qa qc) ?_
      repeat' (first | refine st ?_ | refine And.intro ?_ ?_ | (intro e; exfalso; omega) | (intro e; subst e) | intro _)
      all_goals exact rt1 () rfl
end Go.Proofs.Ytgmccdicncocdaa
