/- The laws of reuse, walked: distances, hits. -/
import Derived.Test.YtbkpojlbclehaaaRuL1
import Derived.Test.YtbkpojlbclehaaaSlD
namespace Go.Proofs.Ytbkpojlbclehaaa
open Go.Lk Go.Sl Go.Ru
attribute [local irreducible] TK TL TC Th Bk Nx fnPost WA TQ OpQ OpN SpecH Rd Ent IterH RoundH Rb Rp fnPostM
attribute [local irreducible] Ru.S Ru.D Ru.lb Ru.upd Ru.cnt Ru.cat Ru.dd Ru.stk Ru.rv Ru.hitsL Ru.ks Ru.ix Ru.LI Ru.G9 Ru.dL
set_option maxHeartbeats 4000000 in
theorem rul_dists (a : Option Addr) (c : Nat) (tr : List Nat) (hlt : ∀ k ∈ tr, k < 4294967296) : SpecH Try.prog 8 #[.slice a tr.length c] [RoS 1 a tr.length c (u32s tr)] (fun _ : Unit => .bool true) (fun _ => []) := by
  haveI := ru_dists
  haveI := ru_stack
  haveI := rr_sameB
  haveI := rr_intsB
  by_cases hn : tr.length ≤ 200
  · have s1 : SameBI (dL tr tr.length) (dL tr tr.length) true := ⟨decide_eq_true rfl⟩
    have s2 : SameB (stk tr tr.length) (stk tr tr.length) true := ⟨decide_eq_true rfl⟩
    have hl := dL_len (tr := tr) (i := tr.length)
    have hKl := stk_len_le (tr := tr) (i := tr.length)
    refine spec_of Try.func8 rfl Try.ntmps8 rfl [(0, _)] rfl ?_; intro base F l0 hl0; (try simp only [List.cons_append] at hl0); (try simp only [List.nil_append] at hl0); subst hl0
    repeat' (first | refine stw ?_ | refine And.intro ?_ ?_ | (intro e; exfalso; omega) | (intro e; subst e) | intro _)
    exact rt1 () rfl
  · refine spec_of Try.func8 rfl Try.ntmps8 rfl [(0, _)] rfl ?_; intro base F l0 hl0; (try simp only [List.cons_append] at hl0); (try simp only [List.nil_append] at hl0); subst hl0
    repeat' (first | refine stw ?_ | refine And.intro ?_ ?_ | (intro e; exfalso; omega) | (intro e; subst e) | intro _)
    exact rt1 () rfl
/-- The first place of numbers that are not less is one. -/
theorem at_ex (tr : List Nat) (K : Nat) (t : Int) : ∃ m, At (hitsL tr K) t m ∧ m ≤ K + 1 := by
  have hl := hitsL_len (tr := tr) (K := K)
  have key : ∀ n, n ≤ K + 1 → (∀ j, j < n → (hitsL tr K).getD j 0 < t) → ∃ m, At (hitsL tr K) t m ∧ m ≤ K + 1 := fun n hn => by
    obtain ⟨d, hd⟩ : ∃ d, d = K + 1 - n := ⟨_, rfl⟩
    induction d generalizing n with
    | zero => exact fun h => ⟨n, ⟨by omega, h, fun j h1 h2 => by omega⟩, hn⟩
    | succ d ih =>
      intro h
      by_cases hc : (hitsL tr K).getD n 0 < t
      · exact ih (n + 1) (by omega) (by omega) fun j hj => by
          rcases Nat.lt_or_ge j n with h1 | h1
          · exact h j h1
          · obtain rfl : j = n := by omega
            exact hc
      · refine ⟨n, ⟨by omega, h, fun j h1 h2 => ?_⟩, hn⟩
        have := hitsL_mono (tr := tr) (K := K) h1 (by omega)
        omega
  exact key 0 (by omega) fun j hj => by omega
set_option maxHeartbeats 8000000 in
theorem rul_hits (a : Option Addr) (c : Nat) (tr : List Nat) (hlt : ∀ k ∈ tr, k < 4294967296) (t : Int) : SpecH Try.prog 9 #[.slice a tr.length c, .int .i64 t] [RoS 1 a tr.length c (u32s tr)] (fun _ : Unit => .bool true) (fun _ => []) := by
  haveI := ru_hits
  haveI := rr_intsB
  by_cases hn : tr.length ≤ 120
  · obtain ⟨K, hK⟩ : ∃ K, K = (stk tr tr.length).length := ⟨_, rfl⟩
    have s1 : SameBI (hitsL tr (stk tr tr.length).length) (hitsL tr (stk tr tr.length).length) true := ⟨decide_eq_true rfl⟩
    have hl := hitsL_len (tr := tr) (K := (stk tr tr.length).length)
    have hKl := stk_len_le (tr := tr) (i := tr.length)
    by_cases ht : t < 0
    · haveI : Known Try.prog 46 (SpecH Try.prog 46 #[.slice a tr.length c, .int .i64 t] [RoS 1 a tr.length c (u32s tr)] (fun _ : Unit => .tuple #[.int .i64 0, .int .i64 2]) (fun _ => [])) := ⟨ru_least_neg a tr.length c tr t rfl (by omega) hlt ht⟩
      refine spec_of Try.func9 rfl Try.ntmps9 rfl [(0, _), (1, _)] rfl ?_; intro base F l0 hl0; (try simp only [List.cons_append] at hl0); (try simp only [List.nil_append] at hl0); subst hl0
      repeat' (first | refine stw ?_ | refine And.intro ?_ ?_ | (intro e; exfalso; omega) | (intro e; subst e) | intro _)
      exact rt1 () rfl
    · obtain ⟨m, hat, hm⟩ := at_ex tr (stk tr tr.length).length t
      have hL := ru_least a tr.length c tr t m rfl (by omega) hlt (by omega) hat
      by_cases hmk : m = (stk tr tr.length).length + 1
      · rw [if_pos hmk, if_pos hmk] at hL
        haveI : Known Try.prog 46 (SpecH Try.prog 46 #[.slice a tr.length c, .int .i64 t] [RoS 1 a tr.length c (u32s tr)] (fun _ : Unit => .tuple #[.int .i64 (0 : Nat), .int .i64 9]) (fun _ => [])) := ⟨hL⟩
        refine spec_of Try.func9 rfl Try.ntmps9 rfl [(0, _), (1, _)] rfl ?_; intro base F l0 hl0; (try simp only [List.cons_append] at hl0); (try simp only [List.nil_append] at hl0); subst hl0
        repeat' (first | refine stw ?_ | refine And.intro ?_ ?_ | (intro e; exfalso; omega) | (intro e; subst e) | intro _)
        refine tc_lp (ι := {i : Nat // i ≤ m}) [10] (fun e i => (10, .int .i64 (i.1 : Nat)) :: e) (fun _ => _) (fun i => m - i.1) ⟨0, by omega⟩ ?_ (hl := Ent.refl _)
        rintro K2 ⟨i, hi⟩ hK2
        dsimp only
        by_cases hc : i < m
        · have hlo := hat.lo i hc
          repeat' (first | refine stw ?_ | refine And.intro ?_ ?_ | (intro e; exfalso; omega) | (intro e; subst e) | intro _)
          exact again hK2 ⟨i + 1, by omega⟩
        · obtain rfl : i = m := by omega
          repeat' (first | refine stw ?_ | refine And.intro ?_ ?_ | (intro e; exfalso; omega) | (intro e; subst e) | intro _)
          exact rt1 () rfl
      · rw [if_neg hmk, if_neg hmk] at hL
        haveI : Known Try.prog 46 (SpecH Try.prog 46 #[.slice a tr.length c, .int .i64 t] [RoS 1 a tr.length c (u32s tr)] (fun _ : Unit => .tuple #[.int .i64 (m : Nat), .int .i64 0]) (fun _ => [])) := ⟨hL⟩
        refine spec_of Try.func9 rfl Try.ntmps9 rfl [(0, _), (1, _)] rfl ?_; intro base F l0 hl0; (try simp only [List.cons_append] at hl0); (try simp only [List.nil_append] at hl0); subst hl0
        repeat' (first | refine stw ?_ | refine And.intro ?_ ?_ | (intro e; exfalso; omega) | (intro e; subst e) | intro _)
        refine tc_lp (ι := {i : Nat // i ≤ m}) [10] (fun e i => (10, .int .i64 (i.1 : Nat)) :: e) (fun _ => _) (fun i => m - i.1) ⟨0, by omega⟩ ?_ (hl := Ent.refl _)
        rintro K2 ⟨i, hi⟩ hK2
        dsimp only
        by_cases hc : i < m
        · have hlo := hat.lo i hc
          repeat' (first | refine stw ?_ | refine And.intro ?_ ?_ | (intro e; exfalso; omega) | (intro e; subst e) | intro _)
          exact again hK2 ⟨i + 1, by omega⟩
        · obtain rfl : i = m := by omega
          have hhi := hat.hi i (Nat.le_refl i) (by omega)
          repeat' (first | refine stw ?_ | refine And.intro ?_ ?_ | (intro e; exfalso; omega) | (intro e; subst e) | intro _)
          exact rt1 () rfl
  · refine spec_of Try.func9 rfl Try.ntmps9 rfl [(0, _), (1, _)] rfl ?_; intro base F l0 hl0; (try simp only [List.cons_append] at hl0); (try simp only [List.nil_append] at hl0); subst hl0
    repeat' (first | refine stw ?_ | refine And.intro ?_ ?_ | (intro e; exfalso; omega) | (intro e; subst e) | intro _)
    exact rt1 () rfl
end Go.Proofs.Ytbkpojlbclehaaa
