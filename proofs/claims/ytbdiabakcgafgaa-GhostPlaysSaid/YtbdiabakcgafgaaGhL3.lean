/- The laws of ghost, walked: any calls. -/
import Derived.Test.YtbdiabakcgafgaaGhL1
import Derived.Test.YtbdiabakcgafgaaSlD
namespace Go.Proofs.Ytbdiabakcgafgaa
open Go.Lk Go.Sl Go.Gh
theorem atBlk (id : Nat) {r0 : Option Nat} {P : Program} {base : World} {n : Nat} {ds : List Deferred} {Q : Exit → Act → World → Prop} {env : Env} {l : List HP} {c : Code} (h : TC r0 P base n ds (.block id c) Q env l) : TC r0 P base n ds (.block id c) Q env l := h
attribute [local irreducible] TK TL TC Th Bk Nx fnPost WA TQ OpQ OpN SpecH Rd Ent IterH RoundH Rb Rp fnPostM
attribute [local irreducible] addL addV addB
instance (Q : Nat → Int × Nat × Int) : Width (fun i => ([.int .i64 (Q i).1, .int .u32 (Q i).2.1, .int .i64 (Q i).2.2] : List Value)) 3 := ⟨fun _ => rfl⟩
set_option maxHeartbeats 8000000 in
instance gplays_spec : Known Try.prog 28 (∀ (p0 M0 : Nat) (L0 : List Nat) (ra0 : Option Addr) (m rc0 : Nat) (a : Option Addr) (n cap : Nat) (Q : Nat → Int × Nat × Int), m = L0.length → L0.length ≤ M0 → M0 ≤ 4096 → (∀ i, i < n → (Q i).2.1 < 4294967296) → n ≤ 4194304 → SpecH Try.prog 28 #[.pointer (some ⟨p0, 0, none⟩), .agg #[.int .i64 M0, .slice ra0 m rc0], .slice a n cap] [GhostAt p0 M0 L0, RoS 1 ra0 m rc0 (u32s L0), RoS 3 a n cap (rows n fun i => [.int .i64 (Q i).1, .int .u32 (Q i).2.1, .int .i64 (Q i).2.2])] (fun _ : Unit => .bool true) (fun _ => [])) := ⟨fun p0 M0 L0 ra0 m rc0 a n cap Q hm hL hM hQ hn => by
  subst hm
  refine spec_of Try.func28 rfl Try.ntmps28 rfl [(0, _), (1, _), (2, _)] rfl ?_; intro base F l0 hl0; (try simp only [List.cons_append] at hl0); (try simp only [List.nil_append] at hl0); subst hl0
  repeat' (first | refine stx ?_ | refine And.intro ?_ ?_ | (intro e; exfalso; omega) | (intro e; subst e) | intro _)
  rename_i b4
  refine tc_lp (ι := {x : Nat × Nat × Nat × List Nat × Option Addr × Nat // x.1 ≤ n ∧ x.2.2.2.1.length ≤ x.2.2.1 ∧ x.2.2.1 ≤ 4096}) [0, 7] (fun e x => (0, .pointer (some ⟨x.1.2.1, 0, none⟩)) :: (7, .int .i64 (x.1.1 : Nat)) :: e)
    (fun x => [GhostAt x.1.2.1 x.1.2.2.1 x.1.2.2.2.1, obj b4 35 [.int .i64 (x.1.2.2.1 : Nat), .slice x.1.2.2.2.2.1 x.1.2.2.2.1.length x.1.2.2.2.2.2], RoS 1 x.1.2.2.2.2.1 x.1.2.2.2.1.length x.1.2.2.2.2.2 (u32s x.1.2.2.2.1), RoS 3 a n cap (rows n fun i => [.int .i64 (Q i).1, .int .u32 (Q i).2.1, .int .i64 (Q i).2.2]), F]) (fun x => n - x.1.1) ⟨(0, p0, M0, L0, ra0, rc0), by omega, hL, hM⟩ ?_
  clear hL hM
  rintro K ⟨⟨i, p, M, L, ra, rc⟩, hi, hL, hM⟩ hK
  dsimp only at hi hL hM ⊢
  by_cases hc : i < n
  · have hk := hQ i hc
    refine GhostAt.factsC fun hnd hlt hll hmm => ?_
    repeat' (first | ((fail_if_success (refine atBlk 2 ?_)); refine stx ?_) | refine And.intro ?_ ?_ | (intro e; exfalso; omega) | (intro e; subst e) | intro _)
    rename_i b8
    refine cut (ι := {y : Nat × Nat × List Nat × Option Addr × Nat // y.2.2.1.length ≤ y.2.1 ∧ y.2.1 ≤ 4096}) (fun y => [(0, .pointer (some ⟨y.1.1, 0, none⟩)), (1, .agg #[.int .i64 M0, .slice ra0 L0.length rc0]), (6, .bool false), (2, .slice a n cap), (4, .pointer (some ⟨b4, 0, none⟩)), (7, .int .i64 (i : Nat)), (8, .pointer (some ⟨b8, 0, none⟩))])
      (fun y => [obj b8 43 [.int .i64 (Q i).1, .int .u32 (Q i).2.1, .int .i64 (Q i).2.2], GhostAt y.1.1 y.1.2.1 y.1.2.2.1, obj b4 35 [.int .i64 (y.1.2.1 : Nat), .slice y.1.2.2.2.1 y.1.2.2.1.length y.1.2.2.2.2], RoS 1 y.1.2.2.2.1 y.1.2.2.1.length y.1.2.2.2.2 (u32s y.1.2.2.1), RoS 3 a n cap (rows n fun i => [.int .i64 (Q i).1, .int .u32 (Q i).2.1, .int .i64 (Q i).2.2]), F]) ?_ ?_
    · intro K hK2
      by_cases h0 : (Q i).1 = 0
      · repeat' (first | refine stx ?_ | refine And.intro ?_ ?_ | (intro e; exfalso; omega) | (intro e; subst e) | intro _)
        rename_i a1 c1 b1
        exact fin hK2 ⟨(p, M, addL M L (Q i).2.1, a1, c1), addL_len hL, hM⟩
      by_cases h1 : (Q i).1 = 1
      · repeat' (first | refine stx ?_ | refine And.intro ?_ ?_ | (intro e; exfalso; omega) | (intro e; subst e) | intro _)
        rename_i a1 c1 b1
        exact fin hK2 ⟨(p, M, L.erase (Q i).2.1, a1, c1), Nat.le_trans (List.erase_sublist.length_le) hL, hM⟩
      by_cases h2 : (Q i).1 = 2
      · repeat' (first | refine stx ?_ | refine And.intro ?_ ?_ | (intro e; exfalso; omega) | (intro e; subst e) | intro _)
        rename_i a1 c1 b1
        exact fin hK2 ⟨(p, M, L.dropLast, a1, c1), by dsimp only; rw [List.length_dropLast]; omega, hM⟩
      by_cases h3 : (Q i).1 = 3
      · by_cases hb : (Q i).2.2 < 0 ∨ 4096 < (Q i).2.2
        · repeat' (first | ((fail_if_success (refine atCall 27 ?_)); refine stx ?_) | refine And.intro ?_ ?_ | (intro e; exfalso; omega) | (intro e; subst e) | intro _)
          refine call (g_resize_bad _ _ _ _ hb) ?_
          repeat' (first | ((fail_if_success (refine atCall 66 ?_)); refine stx ?_) | refine And.intro ?_ ?_ | (intro e; exfalso; omega) | (intro e; subst e) | intro _)
          refine call (rg_resize_bad _ _ _ _ _ hb) ?_
          repeat' (first | refine stx ?_ | refine And.intro ?_ ?_ | (intro e; exfalso; omega) | (intro e; subst e) | intro _)
          all_goals exact fin hK2 ⟨(p, M, L, ra, rc), hL, hM⟩
        · obtain ⟨k, hk'⟩ : ∃ k : Nat, (Q i).2.2 = k := ⟨(Q i).2.2.toNat, by omega⟩
          haveI : NatI (Q i).2.2 k := ⟨hk'⟩
          haveI := rg_sameT
          have hdl : (L.drop k).reverse.length = L.length - k := by simp
          repeat' (first | refine stx ?_ | refine And.intro ?_ ?_ | (intro e; exfalso; omega) | (intro e; subst e) | intro _)
          rename_i a1 c1 q1 q2 b1
          exact fin hK2 ⟨(p, k, L.take k, q1.1, q1.2), by dsimp only; rw [List.length_take]; omega, by dsimp only; omega⟩
      · haveI : NatI (IntKind.wrap .u32 ((Q i).2.1 + 99)) (((Q i).2.1 + 99) % 4294967296) := ⟨by show ((Q i).2.1 + 99 : Int) % 4294967296 = _; omega⟩
        have hw : (((Q i).2.1 + 99) % 4294967296) < 4294967296 := by omega
        repeat' (first | refine stx ?_ | refine And.intro ?_ ?_ | (intro e; exfalso; omega) | (intro e; subst e) | intro _)
        rename_i x a1 c1
        exact fin hK2 ⟨(x, M, L, ra, rc), hL, hM⟩
    · rintro ⟨⟨p, M, L, ra, rc⟩, hL, hM⟩
      dsimp only at hL hM ⊢
      repeat' (first | refine stx ?_ | refine And.intro ?_ ?_ | (intro e; exfalso; omega) | (intro e; subst e) | intro _)
      rename_i a30 c30
      have eI : u32s L = intsV .u32 (L.map Int.ofNat) := by simp [u32s, intsV]
      refine tc_lp (ι := {x : Nat × List Int // x.1 ≤ L.length ∧ x.2.length = L.length}) [31] (fun e x => (31, .int .i64 (x.1.1 : Nat)) :: e)
        (fun x => [Vec 28 1 a30 L.length c30 (intsV .u32 x.1.2), obj b8 43 [.int .i64 (Q i).1, .int .u32 (Q i).2.1, .int .i64 (Q i).2.2], GhostAt p M L, obj b4 35 [.int .i64 (M : Nat), .slice ra L.length rc], RoS 1 ra L.length rc (u32s L), RoS 3 a n cap (rows n fun i => [.int .i64 (Q i).1, .int .u32 (Q i).2.1, .int .i64 (Q i).2.2]), F]) (fun x => L.length - x.1.1) ⟨(0, L.map Int.ofNat), by omega, by simp⟩ ?_ (hl := by dsimp only; rw [← eI]; exact en)
      rintro K2 ⟨⟨k, zs⟩, hk1, hk2⟩ hK2
      dsimp only at hk1 hk2 ⊢
      by_cases hkl : k < L.length
      · have hzl : k < zs.length := by omega
        repeat' (first | refine stx ?_ | refine And.intro ?_ ?_ | (intro e; exfalso; omega) | (intro e; subst e) | intro _)
        exact again hK2 ⟨(k + 1, zs.set k (IntKind.wrap .u32 (zs.getD k 0 + 1))), by omega, by dsimp only; rw [List.length_set]; exact hk2⟩
      · obtain rfl : k = L.length := by omega
        repeat' (first | refine stx ?_ | refine And.intro ?_ ?_ | (intro e; exfalso; omega) | (intro e; subst e) | intro _)
        exact again hK ⟨(i + 1, p, M, L, ra, rc), by omega, hL, hM⟩
  · repeat' (first | refine stx ?_ | refine And.intro ?_ ?_ | (intro e; exfalso; omega) | (intro e; subst e) | intro _)
    exact rt1 () rfl⟩
set_option maxHeartbeats 4000000 in
theorem gplays_law (most : Int) (a : Option Addr) (n cap : Nat) (Q : Nat → Int × Nat × Int) (hQ : ∀ i, i < n → (Q i).2.1 < 4294967296) : SpecH Try.prog 6 #[.int .i64 most, .slice a n cap] [RoS 3 a n cap (rows n fun i => [.int .i64 (Q i).1, .int .u32 (Q i).2.1, .int .i64 (Q i).2.2])] (fun _ : Unit => .bool true) (fun _ => []) := by
  by_cases hb : most < 0 ∨ 40 < most ∨ 100 < n
  · refine spec_of Try.func6 rfl Try.ntmps6 rfl [(0, _), (1, _)] rfl ?_; intro base F l0 hl0; (try simp only [List.cons_append] at hl0); (try simp only [List.nil_append] at hl0); subst hl0
    repeat' (first | refine stx ?_ | refine And.intro ?_ ?_ | (intro e; exfalso; omega) | (intro e; subst e) | intro _)
    all_goals exact rt1 () rfl
  · obtain ⟨N, rfl⟩ : ∃ N : Nat, most = N := ⟨most.toNat, by omega⟩
    refine spec_of Try.func6 rfl Try.ntmps6 rfl [(0, _), (1, _)] rfl ?_; intro base F l0 hl0; (try simp only [List.cons_append] at hl0); (try simp only [List.nil_append] at hl0); subst hl0
    have h0 : ([] : List Nat).length = 0 := rfl
    repeat' (first | refine stx ?_ | refine And.intro ?_ ?_ | (intro e; exfalso; omega) | (intro e; subst e) | intro _)
    all_goals exact rt1 () rfl
end Go.Proofs.Ytbdiabakcgafgaa
