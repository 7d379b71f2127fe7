/- The laws of reuse, walked: a trace has a greatest number of requests. -/
import Derived.Test.YtbkpojlbclehaaaRuL2
namespace Go.Ru
variable {n k i : Nat}
/-- A loop of keys, as far as it is written. -/
def lpL (n k i : Nat) : List Nat := (List.range n).map fun j => if j < i then j % k else 0
theorem lpL_len : (lpL n k i).length = n := by simp [lpL]
theorem lpL_zero : lpL n k 0 = List.replicate n 0 := by
  unfold lpL
  refine List.ext_getElem (by simp) fun j h1 h2 => ?_
  simp
theorem lpL_all : lpL n k n = loopL n k := by
  unfold lpL loopL
  refine List.map_congr_left fun j hj => ?_
  rw [List.mem_range] at hj
  rw [if_pos hj]
theorem lpL_step (_h : i < n) : (lpL n k i).set i (i % k) = lpL n k (i + 1) := by
  refine List.ext_getElem (by simp [lpL]) fun j h1 h2 => ?_
  simp only [List.length_set, lpL_len] at h1
  rw [List.getElem_set]
  simp only [lpL, List.getElem_map, List.getElem_range]
  by_cases e : i = j
  · subst e; rw [if_pos rfl, if_pos (by omega)]
  · rw [if_neg e]
    by_cases h3 : j < i
    · rw [if_pos h3, if_pos (by omega)]
    · rw [if_neg h3, if_neg (by omega)]
theorem rows_zeroU : (Sl.rows n fun _ => [Value.int .u32 0]) = Lk.u32s (List.replicate n 0) := by
  unfold Sl.rows Lk.u32s
  induction n with
  | zero => rfl
  | succ n ih => rw [List.range_succ, List.flatMap_append, ih, List.replicate_succ', List.map_append]; rfl
theorem loop_lt (hk : 0 < k) (h2 : k ≤ 200) : ∀ x ∈ loopL n k, x < 4294967296 := fun x hx => by
  unfold loopL at hx
  obtain ⟨j, _, rfl⟩ := List.mem_map.1 hx
  have := Nat.mod_lt j hk
  omega
end Go.Ru
namespace Go.Proofs.Ytbkpojlbclehaaa
open Go.Lk Go.Sl Go.Ru
attribute [local irreducible] TK TL TC Th Bk Nx fnPost WA TQ OpQ OpN SpecH Rd Ent IterH RoundH Rb Rp fnPostM
attribute [local irreducible] Ru.S Ru.D Ru.lb Ru.upd Ru.cnt Ru.cat Ru.dd Ru.stk Ru.rv Ru.hitsL Ru.ks Ru.ix Ru.LI Ru.G9 Ru.dL Ru.loopL Ru.lpL
set_option maxHeartbeats 16000000 in
theorem rul_longs (z w : Int) : SpecH Try.prog 10 #[.int .i64 z, .int .i64 w] [] (fun _ : Unit => .bool true) (fun _ => []) := by
  by_cases hn : 4094 ≤ z ∧ z ≤ 4098 ∧ 1 ≤ w ∧ w ≤ 200
  · obtain ⟨h1, h2, h3, h4⟩ := hn
    obtain ⟨n, rfl⟩ : ∃ N : Nat, z = N := ⟨z.toNat, by omega⟩
    obtain ⟨k, rfl⟩ : ∃ N : Nat, w = N := ⟨w.toNat, by omega⟩
    refine spec_of Try.func10 rfl Try.ntmps10 rfl [(0, _), (1, _)] rfl ?_; intro base F l0 hl0; (try simp only [List.cons_append] at hl0); (try simp only [List.nil_append] at hl0); subst hl0
    repeat' (first | refine stw ?_ | refine And.intro ?_ ?_ | (intro e; exfalso; omega) | (intro e; subst e) | intro _)
    rename_i bt
    rw [rows_zeroU, ← lpL_zero (k := k)]
    refine tc_lp (ι := {x : Nat // x ≤ n}) [6] (fun e x => (6, .int .i64 (x.1 : Nat)) :: e) (fun x => [Vec 34 1 (some ⟨bt, 0, none⟩) n n (u32s (lpL n k x.1)), F]) (fun x => n - x.1) ⟨0, by omega⟩ ?_
    rintro K ⟨i, hi⟩ hK
    dsimp only
    have hll := lpL_len (n := n) (k := k) (i := i)
    by_cases hc : i < n
    · have hst := lpL_step (k := k) hc
      have hq : IntKind.i64.wrap ((i : Int) % (k : Int)) = ((i % k : Nat) : Int) := by
        have := Nat.mod_lt i (show 0 < k by omega)
        rw [← Int.natCast_emod]
        generalize i % k = q at this
        exact IntWalk.i64_in _ (by omega)
      have hqk := Nat.mod_lt i (show 0 < k by omega)
      repeat' (first | refine stw ?_ | refine And.intro ?_ ?_ | (intro e; exfalso; omega) | (intro e; subst e) | intro _)
      try simp only [← Int.natCast_emod]
      repeat' (first | refine stw ?_ | refine And.intro ?_ ?_ | (intro e; exfalso; omega) | (intro e; subst e) | intro _)
      rw [hst]
      exact again hK ⟨i + 1, by omega⟩
    · obtain rfl : i = n := by omega
      rw [lpL_all]
      rcases Nat.lt_or_ge 4096 i with h5 | h5
      · haveI : Known Try.prog 38 (∀ (a : Option Addr) (cap : Nat), SpecH Try.prog 38 #[.slice a i cap] [] (fun _ : Unit => .tuple #[.slice none 0 0, .int .i64 5]) (fun _ => [])) := ⟨fun a cap => ru_dists_bad a i cap h5 (by omega)⟩
        haveI : Known Try.prog 44 (∀ (a : Option Addr) (cap : Nat), SpecH Try.prog 44 #[.slice a i cap] [] (fun _ : Unit => .tuple #[.slice none 0 0, .int .i64 5]) (fun _ => [])) := ⟨fun a cap => ru_hits_bad a i cap h5 (by omega)⟩
        haveI : Known Try.prog 39 (∀ (a : Option Addr) (cap : Nat), SpecH Try.prog 39 #[.slice a i cap] [] (fun _ : Unit => .tuple #[.slice none 0 0, .int .i64 5]) (fun _ => [])) := ⟨fun a cap => ru_stack_bad a i cap h5 (by omega)⟩
        haveI : Known Try.prog 46 (∀ (a : Option Addr) (cap : Nat) (t : Int), SpecH Try.prog 46 #[.slice a i cap, .int .i64 t] [] (fun _ : Unit => .tuple #[.int .i64 0, .int .i64 5]) (fun _ => [])) := ⟨fun a cap t => ru_least_long a i cap t h5 (by omega)⟩
        repeat' (first | refine stw ?_ | refine And.intro ?_ ?_ | (intro e; exfalso; omega) | (intro e; subst e) | intro _)
        exact rt1 () rfl
      · have hl := loopL_len (n := i) (k := k)
        have hlt := loop_lt (n := i) (k := k) (by omega) (by omega)
        have hK2 : (stk (loopL i k) i).length = k := by have := loop_K (n := i) (k := k) (by omega) (by omega); rwa [hl] at this
        haveI : Known Try.prog 38 (∀ (a : Option Addr) (cap : Nat), SpecH Try.prog 38 #[.slice a i cap] [RoS 1 a i cap (u32s (loopL i k))] (fun q : Option Addr × Nat => .tuple #[.slice q.1 i q.2, .int .i64 0]) (fun q => [RoS 1 q.1 i q.2 (intsV .i64 (dL (loopL i k) i))])) := ⟨fun a cap => ru_dists.out a i cap (loopL i k) hl.symm h5 hlt⟩
        haveI : Known Try.prog 44 (∀ (a : Option Addr) (cap : Nat), SpecH Try.prog 44 #[.slice a i cap] [RoS 1 a i cap (u32s (loopL i k))] (fun q : Option Addr × Nat => .tuple #[.slice q.1 (k + 1) q.2, .int .i64 0]) (fun q => [RoS 1 q.1 (k + 1) q.2 (intsV .i64 (hitsL (loopL i k) k))])) := ⟨fun a cap => by
          have := ru_hits.out a i cap (loopL i k) hl.symm h5 hlt
          rwa [hK2] at this⟩
        haveI : Known Try.prog 39 (∀ (a : Option Addr) (cap : Nat), SpecH Try.prog 39 #[.slice a i cap] [RoS 1 a i cap (u32s (loopL i k))] (fun q : Option Addr × Nat => .tuple #[.slice q.1 k q.2, .int .i64 0]) (fun q => [RoS 1 q.1 k q.2 (u32s (stk (loopL i k) i))])) := ⟨fun a cap => by
          have := ru_stack.out a i cap (loopL i k) hl.symm h5 hlt
          rwa [hK2] at this⟩
        haveI : Known Try.prog 46 (∀ (a : Option Addr) (cap : Nat), SpecH Try.prog 46 #[.slice a i cap, .int .i64 (-1)] [RoS 1 a i cap (u32s (loopL i k))] (fun _ : Unit => .tuple #[.int .i64 0, .int .i64 2]) (fun _ => [])) := ⟨fun a cap => ru_least_neg a i cap (loopL i k) (-1) hl.symm h5 hlt (by omega)⟩
        repeat' (first | ((fail_if_success (refine atCall 38 ?_)); refine stw ?_) | refine And.intro ?_ ?_ | (intro e; exfalso; omega) | (intro e; subst e) | intro _)
        refine TL.freeze (a := some ⟨bt, 0, none⟩) (by (repeat (first | (with_reducible exact Rem.here _ _) | (with_reducible apply Rem.there) | fail)); done) ?_
        repeat' (first | refine stw ?_ | refine And.intro ?_ ?_ | (intro e; exfalso; omega) | (intro e; subst e) | intro _)
        rename_i da dc ha hc2 sa sc
        have hkn : k ≤ i := by omega
        refine TC.weak (env' := [(15, .int .i64 (0 : Nat)), (7, .slice da i dc), (9, .slice ha (k + 1) hc2), (4, .bool false), (0, .int .i64 (i : Nat)), (1, .int .i64 (k : Nat))]) ?_ (by (repeat (first | exact Sub.nil | (apply Sub.cons; exact rfl))); done)
        refine tc_lp (ι := {x : Nat // x ≤ i}) [15] (fun e x => (15, .int .i64 (x.1 : Nat)) :: e) (fun _ => _) (fun x => i - x.1) ⟨0, by omega⟩ ?_ (hl := Ent.refl _)
        rintro K2 ⟨j, hj⟩ hK2
        dsimp only
        have hdl := dL_len (tr := loopL i k) (i := i)
        by_cases hc3 : j < i
        · have hat := dL_at (tr := loopL i k) hc3
          rw [loop_D (by omega) hc3] at hat
          by_cases hjk : j < k
          · rw [if_pos hjk] at hat
            repeat' (first | refine stw ?_ | refine And.intro ?_ ?_ | (intro e; exfalso; omega) | (intro e; subst e) | intro _)
            exact again hK2 ⟨j + 1, by omega⟩
          · rw [if_neg hjk] at hat
            repeat' (first | refine stw ?_ | refine And.intro ?_ ?_ | (intro e; exfalso; omega) | (intro e; subst e) | intro _)
            exact again hK2 ⟨j + 1, by omega⟩
        · obtain rfl : j = i := by omega
          repeat' (first | refine stw ?_ | refine And.intro ?_ ?_ | (intro e; exfalso; omega) | (intro e; subst e) | intro _)
          have hhl := hitsL_len (tr := loopL j k) (K := k)
          refine tc_lp (ι := {x : Nat // x ≤ k + 1}) [16] (fun e x => (16, .int .i64 (x.1 : Nat)) :: e) (fun _ => _) (fun x => k + 1 - x.1) ⟨0, by omega⟩ ?_ (hl := Ent.refl _)
          rintro K3 ⟨m, hm⟩ hK3
          dsimp only
          by_cases hc4 : m ≤ k
          · have hat := hitsL_at (tr := loopL j k) hc4
            rw [hl] at hat
            by_cases hmk : m = k
            · subst hmk
              rw [loop_all (by omega) (by omega)] at hat
              repeat' (first | refine stw ?_ | refine And.intro ?_ ?_ | (intro e; exfalso; omega) | (intro e; subst e) | intro _)
              exact again hK3 ⟨m + 1, by omega⟩
            · rw [loop_cnt (by omega) (by omega) (Nat.le_refl _)] at hat
              repeat' (first | refine stw ?_ | refine And.intro ?_ ?_ | (intro e; exfalso; omega) | (intro e; subst e) | intro _)
              exact again hK3 ⟨m + 1, by omega⟩
          · obtain rfl : m = k + 1 := by omega
            repeat' (first | refine stw ?_ | refine And.intro ?_ ?_ | (intro e; exfalso; omega) | (intro e; subst e) | intro _)
            exact rt1 () rfl
  · refine spec_of Try.func10 rfl Try.ntmps10 rfl [(0, _), (1, _)] rfl ?_; intro base F l0 hl0; (try simp only [List.cons_append] at hl0); (try simp only [List.nil_append] at hl0); subst hl0
    repeat' (first | refine stw ?_ | refine And.intro ?_ ?_ | (intro e; exfalso; omega) | (intro e; subst e) | intro _)
    all_goals exact rt1 () rfl
end Go.Proofs.Ytbkpojlbclehaaa
