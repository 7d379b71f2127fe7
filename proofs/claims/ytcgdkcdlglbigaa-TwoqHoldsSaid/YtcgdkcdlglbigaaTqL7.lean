/- The laws of twoq, walked: keys that are requested once push nothing out of the main list. -/
import Derived.Test.YtcgdkcdlglbigaaTqL4
import Derived.Test.YtcgdkcdlglbigaaTqScan
namespace Go.Tq
/-- Whether a key is there; whether a request is a hit. -/
structure HasB (Q M : List Nat) (k : Nat) (b : Bool) : Prop where
  out : decide (k ∈ Q ∨ k ∈ M) = b
theorem HasB.of {Q M : List Nat} {k : Nat} (h1 : k ∉ M) (h2 : k ∉ Q) : HasB Q M k false := ⟨decide_eq_false (fun h => h.elim h2 h1)⟩
end Go.Tq
namespace Go.Proofs.Ytcgdkcdlglbigaa
open Go.Lk Go.Sl Go.Gh Go.Tb Go.Tq
attribute [local irreducible] TK TL TC Th Bk Nx fnPost WA TQ OpQ OpN SpecH Rd Ent IterH RoundH Rb Rp fnPostM
attribute [local irreducible] Gh.addL Gh.addV Gh.addB Tq.useS Tq.useL Tq.useO Tq.useH Tq.roomS Tq.roomB Tq.roomO Tq.mainL
theorem tq_hasB : Known Try.prog 17 (∀ (p size most gm : Nat) (Q M G : List Nat) (xk : Int) (k : Nat) [NatI xk k] (b : Bool), HasB Q M k b → SpecH Try.prog 17 #[.pointer (some ⟨p, 0, none⟩), .int .u32 xk] [TwoqAt p size most gm Q M G] (fun _ : Unit => .bool b) (fun _ => [TwoqAt p size most gm Q M G])) := ⟨fun p size most gm Q M G xk k _ b hb => by
  have h := tq_has.out p size most gm Q M G xk k
  rwa [hb.out] at h⟩
theorem tq_useB : Known Try.prog 16 (∀ (p size most gm : Nat) (Q M G : List Nat) (xk : Int) (k : Nat) [NatI xk k] (b : Bool), HasB Q M k b → k < 4294967296 → SpecH Try.prog 16 #[.pointer (some ⟨p, 0, none⟩), .int .u32 xk] [TwoqAt p size most gm Q M G] (fun _ : Unit => .tuple #[.agg #[.bool b, .bool (Tq.useL size ⟨Q, M, G⟩ k), .int .u32 (useO size most ⟨Q, M, G⟩ k : Nat)], .int .i64 0]) (fun _ => [TwoqAt p size most gm (useS size most gm ⟨Q, M, G⟩ k).Q (useS size most gm ⟨Q, M, G⟩ k).M (useS size most gm ⟨Q, M, G⟩ k).G])) := ⟨fun p size most gm Q M G xk k _ b hb hk => by
  have h := tq_use.out p size most gm Q M G xk k hk
  rwa [show useH ⟨Q, M, G⟩ k = b by unfold useH; exact hb.out] at h⟩
set_option maxHeartbeats 16000000 in
theorem tql_scans (x y z w : Int) (kg : Nat) (hkg : kg < 256) : SpecH Try.prog 3 #[.int .i64 x, .int .i64 y, .int .i64 z, .int .i64 w, .int .u8 (kg : Nat)] [] (fun _ : Unit => .bool true) (fun _ => []) := by
  by_cases hb : x < 1 ∨ 1024 < x ∨ y < 1 ∨ x < y ∨ z < 0 ∨ 1024 < z
  · refine spec_of Try.func3 rfl Try.ntmps3 rfl [(0, _), (1, _), (2, _), (3, _), (4, _)] rfl ?_; intro base F l0 hl0; (try simp only [List.cons_append] at hl0); (try simp only [List.nil_append] at hl0); subst hl0
    repeat' (first | ((fail_if_success (refine atCall 14 ?_)); refine stp ?_) | refine And.intro ?_ ?_ | (intro e; exfalso; omega) | (intro e; subst e) | intro _)
    refine call (tql_made_bad x y z hb) ?_
    repeat' (first | refine stp ?_ | refine And.intro ?_ ?_ | (intro e; exfalso; omega) | (intro e; subst e) | intro _)
    all_goals exact rt1 () rfl
  by_cases h2 : 40 < x ∨ 40 < z
  · refine spec_of Try.func3 rfl Try.ntmps3 rfl [(0, _), (1, _), (2, _), (3, _), (4, _)] rfl ?_; intro base F l0 hl0; (try simp only [List.cons_append] at hl0); (try simp only [List.nil_append] at hl0); subst hl0
    repeat' (first | ((fail_if_success (refine atCall 14 ?_)); refine stp ?_) | refine And.intro ?_ ?_ | (intro e; exfalso; omega) | (intro e; subst e) | intro _)
    refine call (tql_made_big x y z hb h2) ?_
    repeat' (first | refine stp ?_ | refine And.intro ?_ ?_ | (intro e; exfalso; omega) | (intro e; subst e) | intro _)
    all_goals exact rt1 () rfl
  obtain ⟨size, rfl⟩ : ∃ N : Nat, x = N := ⟨x.toNat, by omega⟩
  obtain ⟨most, rfl⟩ : ∃ N : Nat, y = N := ⟨y.toNat, by omega⟩
  obtain ⟨gm, rfl⟩ : ∃ N : Nat, z = N := ⟨z.toNat, by omega⟩
  by_cases hn : size < 2 ∨ gm < 1 ∨ w < 0 ∨ (size : Int) - most ≤ w ∨ 100 < kg
  · refine spec_of Try.func3 rfl Try.ntmps3 rfl [(0, _), (1, _), (2, _), (3, _), (4, _)] rfl ?_; intro base F l0 hl0; (try simp only [List.cons_append] at hl0); (try simp only [List.nil_append] at hl0); subst hl0
    repeat' (first | refine stp ?_ | refine And.intro ?_ ?_ | (intro e; exfalso; omega) | (intro e; subst e) | intro _)
    all_goals exact rt1 () rfl
  obtain ⟨many, rfl⟩ : ∃ N : Nat, w = N := ⟨w.toNat, by omega⟩
  have c1 : 2 ≤ size ∧ size ≤ 40 ∧ 1 ≤ most ∧ most ≤ size ∧ 1 ≤ gm ∧ gm ≤ 40 ∧ many + most < size ∧ kg ≤ 100 := by omega
  clear hb h2 hn
  refine spec_of Try.func3 rfl Try.ntmps3 rfl [(0, _), (1, _), (2, _), (3, _), (4, _)] rfl ?_; intro base F l0 hl0; (try simp only [List.cons_append] at hl0); (try simp only [List.nil_append] at hl0); subst hl0
  haveI := tq_hasB
  haveI := tq_useB
  haveI := rg_sameB
  repeat' (first | refine stp ?_ | refine And.intro ?_ ?_ | (intro e; exfalso; omega) | (intro e; subst e) | intro _)
  rename_i p b12
  refine tc_lp (ι := {x : Nat × Nat × (Option Addr × Nat) × St // x.1 ≤ many ∧ 1000 ≤ x.2.1 ∧ x.2.1 ≤ 1000 + x.1 * 64 ∧ IA x.1 x.2.1 x.2.2.2.Q x.2.2.2.M x.2.2.2.G}) [14, 15, 16] (fun e x => (14, .int .u32 (x.1.2.1 : Nat)) :: (15, .slice x.1.2.2.1.1 x.1.1 x.1.2.2.1.2) :: (16, .int .i64 (x.1.1 : Nat)) :: e)
    (fun x => [TwoqAt p size most gm x.1.2.2.2.Q x.1.2.2.2.M x.1.2.2.2.G, RoS 1 x.1.2.2.1.1 x.1.1 x.1.2.2.1.2 (u32s (mainL x.1.1)), obj b12 27 [.int .i64 (size : Nat), .int .i64 (most : Nat), .slice none 0 0, .slice none 0 0, .int .i64 (gm : Nat), .slice none 0 0], F]) (fun x => many - x.1.1) ⟨(0, 1000, (none, 0), ⟨[], [], []⟩), by omega, by simp, by simp, IA.start⟩ ?_
    (hl := by dsimp only; rw [show mainL 0 = [] by unfold mainL; rfl]; show Ent _ [TwoqAt p size most gm [] [] [], RoS 1 none 0 0 [], obj b12 27 [.int .i64 (size : Nat), .int .i64 (most : Nat), .slice none 0 0, .slice none 0 0, .int .i64 (gm : Nat), .slice none 0 0], F]; exact en)
  rintro K ⟨⟨i, o, ⟨ma, mc⟩, ⟨Q, M, G⟩⟩, hi, ho1, ho2, hI⟩ hK
  dsimp only at hi ho1 ho2 hI ⊢
  refine TwoqAt.factsC fun ok s1 s2 s3 s4 => ?_
  have hlen := ok.len
  have hgl := ok.gl
  dsimp only at hlen hgl
  have hMl : M.length = i := by rw [hI.m, mainL_len]
  have hml := mainL_len (i := i)
  by_cases hc : i < many
  · obtain ⟨⟨n1, n2, n3⟩, hB⟩ := hI.key (size := size) (most := most) (gm := gm) (by omega) hlen (by omega)
    have hh := HasB.of n1 n2
    repeat' (first | refine stp ?_ | refine And.intro ?_ ?_ | (intro e; exfalso; omega) | (intro e; subst e) | intro _)
    rename_i b18
    refine tc_lp (ι := {y : Nat × Nat × St // 1000 ≤ y.1 ∧ y.1 = o + y.2.1 ∧ y.2.1 ≤ size + 1 ∧ ((y.2.1 ≤ size ∧ IB i y.1 y.2.1 y.2.2.Q y.2.2.M y.2.2.G) ∨ IC size i y.1 y.2.2.Q y.2.2.M y.2.2.G)}) [14, 20] (fun e y => (14, .int .u32 (y.1.1 : Nat)) :: (20, .int .i64 (y.1.2.1 : Nat)) :: e)
      (fun y => [TwoqAt p size most gm y.1.2.2.Q y.1.2.2.M y.1.2.2.G, RoS 1 ma i mc (u32s (mainL i)), obj b12 27 [.int .i64 (size : Nat), .int .i64 (most : Nat), .slice none 0 0, .slice none 0 0, .int .i64 (gm : Nat), .slice none 0 0], F]) (fun y => size + 2 - y.1.2.1) ⟨(o, 0, useS size most gm ⟨Q, M, G⟩ i), ho1, rfl, by simp, .inl ⟨by simp, hB⟩⟩ ?_
    clear hB hh n1 n2 n3 hMl hlen hgl ok
    rintro K2 ⟨⟨o2, t, ⟨Q2, M2, G2⟩⟩, q1, q2, q3, q4⟩ hK2
    dsimp only at q1 q2 q3 q4 ⊢
    refine TwoqAt.factsC fun ok2 _ _ _ _ => ?_
    have hlen2 := ok2.len
    have hgl2 := ok2.gl
    dsimp only at hlen2 hgl2
    rcases q4 with ⟨q5, q4⟩ | q4
    · have hM2 : M2.length = i := by rw [q4.m, mainL_len]
      obtain ⟨⟨n4, n5, n6⟩, hN⟩ := q4.other (most := most) (gm := gm) q1 (by omega) hlen2 (by omega) hgl2 (by omega)
      obtain ⟨ht, hin⟩ := q4.len
      have hh2 : HasB Q2 M2 i true := ⟨decide_eq_true (.inl hin)⟩
      have hh3 := HasB.of n4 n5
      repeat' (first | refine stp ?_ | refine And.intro ?_ ?_ | (intro e; exfalso; omega) | (intro e; subst e) | intro _)
      exact again hK2 ⟨(o2 + 1, t + 1, useS size most gm ⟨Q2, M2, G2⟩ o2), by dsimp only; omega, by dsimp only; omega, by dsimp only; omega, hN.imp (fun h => ⟨by dsimp only; omega, h⟩) id⟩
    · have hM2 : M2.length = i := by rw [q4.m, mainL_len]
      obtain ⟨⟨n4, n5⟩, hA⟩ := q4.key (most := most) (gm := gm) q1 (by omega) (by omega)
      have hh2 := HasB.of n4 n5
      have hml2 := mainL_len (i := i + 1)
      have hcell : (Value.int .u32 (i : Nat) :: u32s (mainL i)) = u32s (mainL (i + 1)) := by rw [mainL_succ]; rfl
      have hsb : SameB (useS size most gm ⟨Q2, M2, G2⟩ i).M (mainL (i + 1)) true := ⟨by rw [hA.m]; exact decide_eq_true rfl⟩
      have hml3 : (useS size most gm ⟨Q2, M2, G2⟩ i).M.length = i + 1 := by rw [hA.m, hml2]
      repeat' (first | ((fail_if_success (refine atCall 19 ?_)); refine stp ?_) | refine And.intro ?_ ?_ | (intro e; exfalso; omega) | (intro e; subst e) | intro _)
      rename_i b23 bs ma2 mc2 xa xb
      rw [hcell, Nat.add_comm 1 i]
      refine TL.freeze (a := ma2) (by (repeat (first | (with_reducible exact Rem.here _ _) | (with_reducible apply Rem.there) | fail)); done) ?_
      repeat' (first | refine stp ?_ | refine And.intro ?_ ?_ | (intro e; exfalso; omega) | (intro e; subst e) | intro _)
      exact again hK ⟨(i + 1, o2, (ma2, mc2), useS size most gm ⟨Q2, M2, G2⟩ i), by dsimp only; omega, q1, by dsimp only; omega, hA⟩
  · obtain rfl : i = many := by omega
    repeat' (first | refine stp ?_ | refine And.intro ?_ ?_ | (intro e; exfalso; omega) | (intro e; subst e) | intro _)
    refine tc_lp (ι := {x : Nat × Nat × St // x.1 ≤ kg ∧ 1000 ≤ x.2.1 ∧ x.2.1 ≤ 100000 + x.1 ∧ IA i x.2.1 x.2.2.Q x.2.2.M x.2.2.G}) [14, 28] (fun e x => (14, .int .u32 (x.1.2.1 : Nat)) :: (28, .int .i64 (x.1.1 : Nat)) :: e)
      (fun x => [TwoqAt p size most gm x.1.2.2.Q x.1.2.2.M x.1.2.2.G, RoS 1 ma i mc (u32s (mainL i)), obj b12 27 [.int .i64 (size : Nat), .int .i64 (most : Nat), .slice none 0 0, .slice none 0 0, .int .i64 (gm : Nat), .slice none 0 0], F]) (fun x => kg - x.1.1) ⟨(0, o, ⟨Q, M, G⟩), by omega, ho1, by dsimp only; omega, hI⟩ ?_
    rintro K3 ⟨⟨j, o2, ⟨Q2, M2, G2⟩⟩, hj, ho3, ho4, hI2⟩ hK3
    dsimp only at hj ho3 ho4 hI2 ⊢
    refine TwoqAt.factsC fun ok2 _ _ _ _ => ?_
    have hlen2 := ok2.len
    have hgl2 := ok2.gl
    dsimp only at hlen2 hgl2
    have hMl2 : M2.length = i := by rw [hI2.m, mainL_len]
    by_cases hck : j < kg
    · obtain ⟨⟨n1, n2, n3⟩, hA⟩ := hI2.other (size := size) (most := most) (gm := gm) ho3 (by omega) hlen2 (by omega)
      have hh := HasB.of n1 n2
      have hsb : SameB (useS size most gm ⟨Q2, M2, G2⟩ o2).M (mainL i) true := ⟨by rw [hA.m]; exact decide_eq_true rfl⟩
      have hml3 : (useS size most gm ⟨Q2, M2, G2⟩ o2).M.length = i := by rw [hA.m, hml]
      repeat' (first | refine stp ?_ | refine And.intro ?_ ?_ | (intro e; exfalso; omega) | (intro e; subst e) | intro _)
      all_goals exact again hK3 ⟨(j + 1, o2 + 1, useS size most gm ⟨Q2, M2, G2⟩ o2), by dsimp only; omega, by dsimp only; omega, by dsimp only; omega, hA⟩
    · obtain rfl : j = kg := by omega
      repeat' (first | refine stp ?_ | refine And.intro ?_ ?_ | (intro e; exfalso; omega) | (intro e; subst e) | intro _)
      exact rt1 () rfl
end Go.Proofs.Ytcgdkcdlglbigaa
