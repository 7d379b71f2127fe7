/- The laws of twoq, walked: a new cache; any calls; what Lists returns may be changed. -/
import Derived.Test.YtcgdkcdlglbigaaTqL4
import Derived.Test.YtcgdkcdlglbigaaSlD
namespace Go.Proofs.Ytcgdkcdlglbigaa
open Go.Lk Go.Sl Go.Gh Go.Tb Go.Tq
attribute [local irreducible] TK TL TC Th Bk Nx fnPost WA TQ OpQ OpN SpecH Rd Ent IterH RoundH Rb Rp fnPostM
attribute [local irreducible] Gh.addL Gh.addV Gh.addB Tq.useS Tq.useL Tq.useO Tq.useH Tq.roomS Tq.roomB Tq.roomO
set_option maxHeartbeats 4000000 in
theorem tql_newlaw (x y z : Int) : SpecH Try.prog 5 #[.int .i64 x, .int .i64 y, .int .i64 z] [] (fun _ : Unit => .bool true) (fun _ => []) := by
  by_cases hb : x < 1 ∨ 1024 < x ∨ y < 1 ∨ x < y ∨ z < 0 ∨ 1024 < z
  · refine spec_of Try.func5 rfl Try.ntmps5 rfl [(0, _), (1, _), (2, _)] rfl ?_; intro base F l0 hl0; (try simp only [List.cons_append] at hl0); (try simp only [List.nil_append] at hl0); subst hl0
    repeat' (first | ((fail_if_success (refine atCall 22 ?_)); refine stp ?_) | refine And.intro ?_ ?_ | (intro e; exfalso; omega) | (intro e; subst e) | intro _)
    refine call (tq_new_bad x y z hb) ?_
    repeat' (first | ((fail_if_success (refine atCall 23 ?_)); refine stp ?_) | refine And.intro ?_ ?_ | (intro e; exfalso; omega) | (intro e; subst e) | intro _)
    refine call (rt_new_bad x y z hb) ?_
    repeat' (first | refine stp ?_ | refine And.intro ?_ ?_ | (intro e; exfalso; omega) | (intro e; subst e) | intro _)
    exact rt1 () rfl
  · obtain ⟨size, rfl⟩ : ∃ N : Nat, x = N := ⟨x.toNat, by omega⟩
    obtain ⟨most, rfl⟩ : ∃ N : Nat, y = N := ⟨y.toNat, by omega⟩
    obtain ⟨gm, rfl⟩ : ∃ N : Nat, z = N := ⟨z.toNat, by omega⟩
    refine spec_of Try.func5 rfl Try.ntmps5 rfl [(0, _), (1, _), (2, _)] rfl ?_; intro base F l0 hl0; (try simp only [List.cons_append] at hl0); (try simp only [List.nil_append] at hl0); subst hl0
    repeat' (first | refine stp ?_ | refine And.intro ?_ ?_ | (intro e; exfalso; omega) | (intro e; subst e) | intro _)
    all_goals exact rt1 () rfl
set_option maxHeartbeats 4000000 in
theorem tql_playslaw (x y z : Int) (a : Option Addr) (n cap : Nat) (Z : Nat → Int × Nat) (hZ : ∀ i, i < n → (Z i).2 < 4294967296) : SpecH Try.prog 6 #[.int .i64 x, .int .i64 y, .int .i64 z, .slice a n cap] [RoS 2 a n cap (rows n fun i => [.int .i64 (Z i).1, .int .u32 ((Z i).2 : Nat)])] (fun _ : Unit => .bool true) (fun _ => []) := by
  by_cases hb : x < 1 ∨ 1024 < x ∨ y < 1 ∨ x < y ∨ z < 0 ∨ 1024 < z
  · refine spec_of Try.func6 rfl Try.ntmps6 rfl [(0, _), (1, _), (2, _), (3, _)] rfl ?_; intro base F l0 hl0; (try simp only [List.cons_append] at hl0); (try simp only [List.nil_append] at hl0); subst hl0
    repeat' (first | ((fail_if_success (refine atCall 14 ?_)); refine stp ?_) | refine And.intro ?_ ?_ | (intro e; exfalso; omega) | (intro e; subst e) | intro _)
    refine call (tql_made_bad x y z hb) ?_
    repeat' (first | refine stp ?_ | refine And.intro ?_ ?_ | (intro e; exfalso; omega) | (intro e; subst e) | intro _)
    all_goals exact rt1 () rfl
  by_cases h2 : 40 < x ∨ 40 < z
  · refine spec_of Try.func6 rfl Try.ntmps6 rfl [(0, _), (1, _), (2, _), (3, _)] rfl ?_; intro base F l0 hl0; (try simp only [List.cons_append] at hl0); (try simp only [List.nil_append] at hl0); subst hl0
    repeat' (first | ((fail_if_success (refine atCall 14 ?_)); refine stp ?_) | refine And.intro ?_ ?_ | (intro e; exfalso; omega) | (intro e; subst e) | intro _)
    refine call (tql_made_big x y z hb h2) ?_
    repeat' (first | refine stp ?_ | refine And.intro ?_ ?_ | (intro e; exfalso; omega) | (intro e; subst e) | intro _)
    all_goals exact rt1 () rfl
  obtain ⟨size, rfl⟩ : ∃ N : Nat, x = N := ⟨x.toNat, by omega⟩
  obtain ⟨most, rfl⟩ : ∃ N : Nat, y = N := ⟨y.toNat, by omega⟩
  obtain ⟨gm, rfl⟩ : ∃ N : Nat, z = N := ⟨z.toNat, by omega⟩
  by_cases hn : n ≤ 120
  · refine spec_of Try.func6 rfl Try.ntmps6 rfl [(0, _), (1, _), (2, _), (3, _)] rfl ?_; intro base F l0 hl0; (try simp only [List.cons_append] at hl0); (try simp only [List.nil_append] at hl0); subst hl0
    repeat' (first | refine stp ?_ | refine And.intro ?_ ?_ | (intro e; exfalso; omega) | (intro e; subst e) | intro _)
    all_goals exact rt1 () rfl
  · refine spec_of Try.func6 rfl Try.ntmps6 rfl [(0, _), (1, _), (2, _), (3, _)] rfl ?_; intro base F l0 hl0; (try simp only [List.cons_append] at hl0); (try simp only [List.nil_append] at hl0); subst hl0
    repeat' (first | refine stp ?_ | refine And.intro ?_ ?_ | (intro e; exfalso; omega) | (intro e; subst e) | intro _)
    all_goals exact rt1 () rfl
set_option maxHeartbeats 4000000 in
theorem tql_ownlaw (x y z : Int) (a : Option Addr) (n cap : Nat) (Z : Nat → Int × Nat) (hZ : ∀ i, i < n → (Z i).2 < 4294967296) : SpecH Try.prog 7 #[.int .i64 x, .int .i64 y, .int .i64 z, .slice a n cap] [RoS 2 a n cap (rows n fun i => [.int .i64 (Z i).1, .int .u32 ((Z i).2 : Nat)])] (fun _ : Unit => .bool true) (fun _ => []) := by
  by_cases hb : x < 1 ∨ 1024 < x ∨ y < 1 ∨ x < y ∨ z < 0 ∨ 1024 < z
  · refine spec_of Try.func7 rfl Try.ntmps7 rfl [(0, _), (1, _), (2, _), (3, _)] rfl ?_; intro base F l0 hl0; (try simp only [List.cons_append] at hl0); (try simp only [List.nil_append] at hl0); subst hl0
    repeat' (first | ((fail_if_success (refine atCall 14 ?_)); refine stp ?_) | refine And.intro ?_ ?_ | (intro e; exfalso; omega) | (intro e; subst e) | intro _)
    refine call (tql_made_bad x y z hb) ?_
    repeat' (first | refine stp ?_ | refine And.intro ?_ ?_ | (intro e; exfalso; omega) | (intro e; subst e) | intro _)
    all_goals exact rt1 () rfl
  by_cases h2 : 40 < x ∨ 40 < z
  · refine spec_of Try.func7 rfl Try.ntmps7 rfl [(0, _), (1, _), (2, _), (3, _)] rfl ?_; intro base F l0 hl0; (try simp only [List.cons_append] at hl0); (try simp only [List.nil_append] at hl0); subst hl0
    repeat' (first | ((fail_if_success (refine atCall 14 ?_)); refine stp ?_) | refine And.intro ?_ ?_ | (intro e; exfalso; omega) | (intro e; subst e) | intro _)
    refine call (tql_made_big x y z hb h2) ?_
    repeat' (first | refine stp ?_ | refine And.intro ?_ ?_ | (intro e; exfalso; omega) | (intro e; subst e) | intro _)
    all_goals exact rt1 () rfl
  obtain ⟨size, rfl⟩ : ∃ N : Nat, x = N := ⟨x.toNat, by omega⟩
  obtain ⟨most, rfl⟩ : ∃ N : Nat, y = N := ⟨y.toNat, by omega⟩
  obtain ⟨gm, rfl⟩ : ∃ N : Nat, z = N := ⟨z.toNat, by omega⟩
  by_cases hn : n ≤ 120
  · refine spec_of Try.func7 rfl Try.ntmps7 rfl [(0, _), (1, _), (2, _), (3, _)] rfl ?_; intro base F l0 hl0; (try simp only [List.cons_append] at hl0); (try simp only [List.nil_append] at hl0); subst hl0
    repeat' (first | ((fail_if_success (refine atD ?_)); refine stp ?_) | refine And.intro ?_ ?_ | (intro e; exfalso; omega) | (intro e; subst e) | intro _)
    rename_i p0 b10 p1 y qa qb bs
    obtain ⟨⟨⟨r1, r2⟩, ⟨r3, r4⟩, r5, r6⟩, Q, M, G⟩ := y
    obtain ⟨qa1, qa2⟩ := qa
    obtain ⟨⟨qb1, qb2⟩, qc1, qc2⟩ := qb
    dsimp only
    have eQ : u32s Q = intsV .u32 (Q.map Int.ofNat) := by simp [u32s, intsV]
    have eM : u32s M = intsV .u32 (M.map Int.ofNat) := by simp [u32s, intsV]
    have eG : u32s G = intsV .u32 (G.map Int.ofNat) := by simp [u32s, intsV]
    refine TwoqAt.factsC fun o s1 s2 s3 s4 => ?_
    have hlen := o.len
    have hgl := o.gl
    dsimp only at hlen hgl
    refine tc_lp (ι := {x : Nat × List Int × List Int × List Int // x.1 ≤ 3 ∧ x.2.1.length = Q.length ∧ x.2.2.1.length = M.length ∧ x.2.2.2.length = G.length}) [58] (fun e x => (58, .int .i64 (x.1.1 : Nat)) :: e)
      (fun x => [Vec 23 1 (some ⟨bs, 0, none⟩) 3 3 [.slice qa1 Q.length qa2, .slice qb1 M.length qb2, .slice qc1 G.length qc2], Vec 31 1 qa1 Q.length qa2 (intsV .u32 x.1.2.1), Vec 31 1 qb1 M.length qb2 (intsV .u32 x.1.2.2.1), Vec 31 1 qc1 G.length qc2 (intsV .u32 x.1.2.2.2), TwoqAt p1 size most gm Q M G, RoS 1 r1 Q.length r2 (u32s Q), RoS 1 r3 M.length r4 (u32s M), RoS 1 r5 G.length r6 (u32s G), obj b10 27 [.int .i64 (size : Nat), .int .i64 (most : Nat), .slice r1 Q.length r2, .slice r3 M.length r4, .int .i64 (gm : Nat), .slice r5 G.length r6], RoS 2 a n cap (rows n fun i => [.int .i64 (Z i).1, .int .u32 ((Z i).2 : Nat)]), F]) (fun x => 3 - x.1.1) ⟨(0, Q.map Int.ofNat, M.map Int.ofNat, G.map Int.ofNat), by omega, by simp, by simp, by simp⟩ ?_
      (hl := by dsimp only; rw [← eQ, ← eM, ← eG]; exact en)
    rintro K ⟨⟨i, z1, z2, z3⟩, hi, l1, l2, l3⟩ hK
    dsimp only at hi l1 l2 l3 ⊢
    clear eQ eM eG
    obtain rfl | rfl | rfl | rfl : i = 0 ∨ i = 1 ∨ i = 2 ∨ i = 3 := by omega
    · repeat' (first | refine stp ?_ | refine And.intro ?_ ?_ | (intro e; exfalso; omega) | (intro e; subst e) | intro _)
      refine tc_lp (ι := {w : Nat × List Int // w.1 ≤ Q.length ∧ w.2.length = Q.length}) [18] (fun e w => (18, .int .i64 (w.1.1 : Nat)) :: e)
        (fun w => [Vec 23 1 (some ⟨bs, 0, none⟩) 3 3 [.slice qa1 Q.length qa2, .slice qb1 M.length qb2, .slice qc1 G.length qc2], Vec 31 1 qa1 Q.length qa2 (intsV .u32 w.1.2), Vec 31 1 qb1 M.length qb2 (intsV .u32 z2), Vec 31 1 qc1 G.length qc2 (intsV .u32 z3), TwoqAt p1 size most gm Q M G, RoS 1 r1 Q.length r2 (u32s Q), RoS 1 r3 M.length r4 (u32s M), RoS 1 r5 G.length r6 (u32s G), obj b10 27 [.int .i64 (size : Nat), .int .i64 (most : Nat), .slice r1 Q.length r2, .slice r3 M.length r4, .int .i64 (gm : Nat), .slice r5 G.length r6], RoS 2 a n cap (rows n fun i => [.int .i64 (Z i).1, .int .u32 ((Z i).2 : Nat)]), F]) (fun w => Q.length - w.1.1) ⟨(0, z1), by omega, l1⟩ ?_
      rintro K2 ⟨⟨k, zs⟩, hk1, hk2⟩ hK2
      dsimp only at hk1 hk2 ⊢
      by_cases hkl : k < Q.length
      · have hzl : k < zs.length := by omega
        repeat' (first | refine stp ?_ | refine And.intro ?_ ?_ | (intro e; exfalso; omega) | (intro e; subst e) | intro _)
        exact again hK2 ⟨(k + 1, zs.set k (IntKind.wrap .u32 (zs.getD k 0 + 1))), by omega, by dsimp only; rw [List.length_set]; exact hk2⟩
      · obtain rfl : k = Q.length := by omega
        repeat' (first | refine stp ?_ | refine And.intro ?_ ?_ | (intro e; exfalso; omega) | (intro e; subst e) | intro _)
        exact again hK ⟨(1, zs, z2, z3), by omega, hk2, l2, l3⟩
    · repeat' (first | refine stp ?_ | refine And.intro ?_ ?_ | (intro e; exfalso; omega) | (intro e; subst e) | intro _)
      refine tc_lp (ι := {w : Nat × List Int // w.1 ≤ M.length ∧ w.2.length = M.length}) [18] (fun e w => (18, .int .i64 (w.1.1 : Nat)) :: e)
        (fun w => [Vec 23 1 (some ⟨bs, 0, none⟩) 3 3 [.slice qa1 Q.length qa2, .slice qb1 M.length qb2, .slice qc1 G.length qc2], Vec 31 1 qa1 Q.length qa2 (intsV .u32 z1), Vec 31 1 qb1 M.length qb2 (intsV .u32 w.1.2), Vec 31 1 qc1 G.length qc2 (intsV .u32 z3), TwoqAt p1 size most gm Q M G, RoS 1 r1 Q.length r2 (u32s Q), RoS 1 r3 M.length r4 (u32s M), RoS 1 r5 G.length r6 (u32s G), obj b10 27 [.int .i64 (size : Nat), .int .i64 (most : Nat), .slice r1 Q.length r2, .slice r3 M.length r4, .int .i64 (gm : Nat), .slice r5 G.length r6], RoS 2 a n cap (rows n fun i => [.int .i64 (Z i).1, .int .u32 ((Z i).2 : Nat)]), F]) (fun w => M.length - w.1.1) ⟨(0, z2), by omega, l2⟩ ?_
      rintro K2 ⟨⟨k, zs⟩, hk1, hk2⟩ hK2
      dsimp only at hk1 hk2 ⊢
      by_cases hkl : k < M.length
      · have hzl : k < zs.length := by omega
        repeat' (first | refine stp ?_ | refine And.intro ?_ ?_ | (intro e; exfalso; omega) | (intro e; subst e) | intro _)
        exact again hK2 ⟨(k + 1, zs.set k (IntKind.wrap .u32 (zs.getD k 0 + 1))), by omega, by dsimp only; rw [List.length_set]; exact hk2⟩
      · obtain rfl : k = M.length := by omega
        repeat' (first | refine stp ?_ | refine And.intro ?_ ?_ | (intro e; exfalso; omega) | (intro e; subst e) | intro _)
        exact again hK ⟨(2, z1, zs, z3), by omega, l1, hk2, l3⟩
    · repeat' (first | refine stp ?_ | refine And.intro ?_ ?_ | (intro e; exfalso; omega) | (intro e; subst e) | intro _)
      refine tc_lp (ι := {w : Nat × List Int // w.1 ≤ G.length ∧ w.2.length = G.length}) [18] (fun e w => (18, .int .i64 (w.1.1 : Nat)) :: e)
        (fun w => [Vec 23 1 (some ⟨bs, 0, none⟩) 3 3 [.slice qa1 Q.length qa2, .slice qb1 M.length qb2, .slice qc1 G.length qc2], Vec 31 1 qa1 Q.length qa2 (intsV .u32 z1), Vec 31 1 qb1 M.length qb2 (intsV .u32 z2), Vec 31 1 qc1 G.length qc2 (intsV .u32 w.1.2), TwoqAt p1 size most gm Q M G, RoS 1 r1 Q.length r2 (u32s Q), RoS 1 r3 M.length r4 (u32s M), RoS 1 r5 G.length r6 (u32s G), obj b10 27 [.int .i64 (size : Nat), .int .i64 (most : Nat), .slice r1 Q.length r2, .slice r3 M.length r4, .int .i64 (gm : Nat), .slice r5 G.length r6], RoS 2 a n cap (rows n fun i => [.int .i64 (Z i).1, .int .u32 ((Z i).2 : Nat)]), F]) (fun w => G.length - w.1.1) ⟨(0, z3), by omega, l3⟩ ?_
      rintro K2 ⟨⟨k, zs⟩, hk1, hk2⟩ hK2
      dsimp only at hk1 hk2 ⊢
      by_cases hkl : k < G.length
      · have hzl : k < zs.length := by omega
        repeat' (first | refine stp ?_ | refine And.intro ?_ ?_ | (intro e; exfalso; omega) | (intro e; subst e) | intro _)
        exact again hK2 ⟨(k + 1, zs.set k (IntKind.wrap .u32 (zs.getD k 0 + 1))), by omega, by dsimp only; rw [List.length_set]; exact hk2⟩
      · obtain rfl : k = G.length := by omega
        repeat' (first | refine stp ?_ | refine And.intro ?_ ?_ | (intro e; exfalso; omega) | (intro e; subst e) | intro _)
        exact again hK ⟨(3, z1, z2, zs), by omega, l1, l2, hk2⟩
    · repeat' (first | refine stp ?_ | refine And.intro ?_ ?_ | (intro e; exfalso; omega) | (intro e; subst e) | intro _)
      all_goals exact rt1 () rfl
  · refine spec_of Try.func7 rfl Try.ntmps7 rfl [(0, _), (1, _), (2, _), (3, _)] rfl ?_; intro base F l0 hl0; (try simp only [List.cons_append] at hl0); (try simp only [List.nil_append] at hl0); subst hl0
    repeat' (first | refine stp ?_ | refine And.intro ?_ ?_ | (intro e; exfalso; omega) | (intro e; subst e) | intro _)
    all_goals exact rt1 () rfl
end Go.Proofs.Ytcgdkcdlglbigaa
