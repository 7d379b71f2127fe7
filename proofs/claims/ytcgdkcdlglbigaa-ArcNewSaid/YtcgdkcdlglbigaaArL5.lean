/- The laws of arc, walked: a new cache; any calls; what Lists returns may be changed. -/
import Derived.Test.YtcgdkcdlglbigaaArL4
import Derived.Test.YtcgdkcdlglbigaaSlD
namespace Go.Proofs.Ytcgdkcdlglbigaa
open Go.Lk Go.Sl Go.Gh Go.Tb Go.Ar
attribute [local irreducible] TK TL TC Th Bk Nx fnPost WA TQ OpQ OpN SpecH Rd Ent IterH RoundH Rb Rp fnPostM
attribute [local irreducible] Gh.addL Gh.addV Gh.addB Ar.useS Ar.roomS Ar.missS Ar.roomB Ar.roomO Ar.missB Ar.missO Ar.useL Ar.useO Ar.useH Ar.upT Ar.downT
set_option maxHeartbeats 4000000 in
theorem arl_newlaw (x : Int) : SpecH Try.prog 10 #[.int .i64 x] [] (fun _ : Unit => .bool true) (fun _ => []) := by
  by_cases hb : x < 1 ∨ 1024 < x
  · refine spec_of Try.func10 rfl Try.ntmps10 rfl [(0, _)] rfl ?_; intro base F l0 hl0; (try simp only [List.cons_append] at hl0); (try simp only [List.nil_append] at hl0); subst hl0
    repeat' (first | ((fail_if_success (refine atCall 30 ?_)); refine stp ?_) | refine And.intro ?_ ?_ | (intro e; exfalso; omega) | (intro e; subst e) | intro _)
    refine call (ar_new_bad x hb) ?_
    repeat' (first | ((fail_if_success (refine atCall 36 ?_)); refine stp ?_) | refine And.intro ?_ ?_ | (intro e; exfalso; omega) | (intro e; subst e) | intro _)
    refine call (ra_new_bad x hb) ?_
    repeat' (first | refine stp ?_ | refine And.intro ?_ ?_ | (intro e; exfalso; omega) | (intro e; subst e) | intro _)
    exact rt1 () rfl
  · obtain ⟨size, rfl⟩ : ∃ N : Nat, x = N := ⟨x.toNat, by omega⟩
    refine spec_of Try.func10 rfl Try.ntmps10 rfl [(0, _)] rfl ?_; intro base F l0 hl0; (try simp only [List.cons_append] at hl0); (try simp only [List.nil_append] at hl0); subst hl0
    repeat' (first | refine stp ?_ | refine And.intro ?_ ?_ | (intro e; exfalso; omega) | (intro e; subst e) | intro _)
    all_goals exact rt1 () rfl
set_option maxHeartbeats 4000000 in
theorem arl_playslaw (x : Int) (a : Option Addr) (n cap : Nat) (Z : Nat → Int × Nat) (hZ : ∀ i, i < n → (Z i).2 < 4294967296) : SpecH Try.prog 11 #[.int .i64 x, .slice a n cap] [RoS 2 a n cap (rows n fun i => [.int .i64 (Z i).1, .int .u32 ((Z i).2 : Nat)])] (fun _ : Unit => .bool true) (fun _ => []) := by
  by_cases hb : x < 1 ∨ 40 < x
  · refine spec_of Try.func11 rfl Try.ntmps11 rfl [(0, _), (1, _)] rfl ?_; intro base F l0 hl0; (try simp only [List.cons_append] at hl0); (try simp only [List.nil_append] at hl0); subst hl0
    repeat' (first | refine stp ?_ | refine And.intro ?_ ?_ | (intro e; exfalso; omega) | (intro e; subst e) | intro _)
    all_goals exact rt1 () rfl
  obtain ⟨size, rfl⟩ : ∃ N : Nat, x = N := ⟨x.toNat, by omega⟩
  by_cases hn : n ≤ 120
  · refine spec_of Try.func11 rfl Try.ntmps11 rfl [(0, _), (1, _)] rfl ?_; intro base F l0 hl0; (try simp only [List.cons_append] at hl0); (try simp only [List.nil_append] at hl0); subst hl0
    repeat' (first | refine stp ?_ | refine And.intro ?_ ?_ | (intro e; exfalso; omega) | (intro e; subst e) | intro _)
    all_goals exact rt1 () rfl
  · refine spec_of Try.func11 rfl Try.ntmps11 rfl [(0, _), (1, _)] rfl ?_; intro base F l0 hl0; (try simp only [List.cons_append] at hl0); (try simp only [List.nil_append] at hl0); subst hl0
    repeat' (first | refine stp ?_ | refine And.intro ?_ ?_ | (intro e; exfalso; omega) | (intro e; subst e) | intro _)
    all_goals exact rt1 () rfl
set_option maxHeartbeats 16000000 in
theorem arl_ownlaw (x : Int) (a : Option Addr) (n cap : Nat) (Z : Nat → Int × Nat) (hZ : ∀ i, i < n → (Z i).2 < 4294967296) : SpecH Try.prog 12 #[.int .i64 x, .slice a n cap] [RoS 2 a n cap (rows n fun i => [.int .i64 (Z i).1, .int .u32 ((Z i).2 : Nat)])] (fun _ : Unit => .bool true) (fun _ => []) := by
  by_cases hb : x < 1 ∨ 40 < x
  · refine spec_of Try.func12 rfl Try.ntmps12 rfl [(0, _), (1, _)] rfl ?_; intro base F l0 hl0; (try simp only [List.cons_append] at hl0); (try simp only [List.nil_append] at hl0); subst hl0
    repeat' (first | refine stp ?_ | refine And.intro ?_ ?_ | (intro e; exfalso; omega) | (intro e; subst e) | intro _)
    all_goals exact rt1 () rfl
  obtain ⟨size, rfl⟩ : ∃ N : Nat, x = N := ⟨x.toNat, by omega⟩
  by_cases hn : n ≤ 120
  · refine spec_of Try.func12 rfl Try.ntmps12 rfl [(0, _), (1, _)] rfl ?_; intro base F l0 hl0; (try simp only [List.cons_append] at hl0); (try simp only [List.nil_append] at hl0); subst hl0
    repeat' (first | ((fail_if_success (refine atD ?_)); refine stp ?_) | refine And.intro ?_ ?_ | (intro e; exfalso; omega) | (intro e; subst e) | intro _)
    rename_i p0 b10 p1 y qa qb bs
    obtain ⟨⟨⟨r1, r2⟩, ⟨r3, r4⟩, ⟨r5, r6⟩, r7, r8⟩, O, E, A, B, t⟩ := y
    obtain ⟨qa1, qa2⟩ := qa
    obtain ⟨⟨qb1, qb2⟩, ⟨qc1, qc2⟩, qd1, qd2⟩ := qb
    dsimp only
    have eO : u32s O = intsV .u32 (O.map Int.ofNat) := by simp [u32s, intsV]
    have eE : u32s E = intsV .u32 (E.map Int.ofNat) := by simp [u32s, intsV]
    have eA : u32s A = intsV .u32 (A.map Int.ofNat) := by simp [u32s, intsV]
    have eB : u32s B = intsV .u32 (B.map Int.ofNat) := by simp [u32s, intsV]
    refine ArcAt.factsC fun iv s0 s1 s2 => ?_
    obtain ⟨l1, l2, l3, l4⟩ := iv.lens
    refine tc_lp (ι := {x : Nat × List Int × List Int × List Int × List Int // x.1 ≤ 4 ∧ x.2.1.length = O.length ∧ x.2.2.1.length = E.length ∧ x.2.2.2.1.length = A.length ∧ x.2.2.2.2.length = B.length}) [74] (fun e x => (74, .int .i64 (x.1.1 : Nat)) :: e)
      (fun x => [Vec 23 1 (some ⟨bs, 0, none⟩) 4 4 [.slice qa1 O.length qa2, .slice qb1 E.length qb2, .slice qc1 A.length qc2, .slice qd1 B.length qd2], Vec 31 1 qa1 O.length qa2 (intsV .u32 x.1.2.1), Vec 31 1 qb1 E.length qb2 (intsV .u32 x.1.2.2.1), Vec 31 1 qc1 A.length qc2 (intsV .u32 x.1.2.2.2.1), Vec 31 1 qd1 B.length qd2 (intsV .u32 x.1.2.2.2.2), ArcAt p1 size O E A B t, RoS 1 r1 O.length r2 (u32s O), RoS 1 r3 E.length r4 (u32s E), RoS 1 r5 A.length r6 (u32s A), RoS 1 r7 B.length r8 (u32s B), obj b10 78 [.int .i64 (size : Nat), .slice r1 O.length r2, .slice r3 E.length r4, .slice r5 A.length r6, .slice r7 B.length r8, .int .i64 (t : Nat)], RoS 2 a n cap (rows n fun i => [.int .i64 (Z i).1, .int .u32 ((Z i).2 : Nat)]), F]) (fun x => 4 - x.1.1) ⟨(0, O.map Int.ofNat, E.map Int.ofNat, A.map Int.ofNat, B.map Int.ofNat), by omega, by simp, by simp, by simp, by simp⟩ ?_
      (hl := by dsimp only; rw [← eO, ← eE, ← eA, ← eB]; exact en)
    rintro K ⟨⟨i, z1, z2, z3, z4⟩, hi, k1, k2, k3, k4⟩ hK
    dsimp only at hi k1 k2 k3 k4 ⊢
    clear eO eE eA eB
    obtain rfl | rfl | rfl | rfl | rfl : i = 0 ∨ i = 1 ∨ i = 2 ∨ i = 3 ∨ i = 4 := by omega
    · repeat' (first | refine stp ?_ | refine And.intro ?_ ?_ | (intro e; exfalso; omega) | (intro e; subst e) | intro _)
      refine tc_lp (ι := {w : Nat × List Int // w.1 ≤ O.length ∧ w.2.length = O.length}) [17] (fun e w => (17, .int .i64 (w.1.1 : Nat)) :: e)
        (fun w => [Vec 23 1 (some ⟨bs, 0, none⟩) 4 4 [.slice qa1 O.length qa2, .slice qb1 E.length qb2, .slice qc1 A.length qc2, .slice qd1 B.length qd2], Vec 31 1 qa1 O.length qa2 (intsV .u32 w.1.2), Vec 31 1 qb1 E.length qb2 (intsV .u32 z2), Vec 31 1 qc1 A.length qc2 (intsV .u32 z3), Vec 31 1 qd1 B.length qd2 (intsV .u32 z4), ArcAt p1 size O E A B t, RoS 1 r1 O.length r2 (u32s O), RoS 1 r3 E.length r4 (u32s E), RoS 1 r5 A.length r6 (u32s A), RoS 1 r7 B.length r8 (u32s B), obj b10 78 [.int .i64 (size : Nat), .slice r1 O.length r2, .slice r3 E.length r4, .slice r5 A.length r6, .slice r7 B.length r8, .int .i64 (t : Nat)], RoS 2 a n cap (rows n fun i => [.int .i64 (Z i).1, .int .u32 ((Z i).2 : Nat)]), F]) (fun w => O.length - w.1.1) ⟨(0, z1), by omega, k1⟩ ?_
      rintro K2 ⟨⟨k, zs⟩, hk1, hk2⟩ hK2
      dsimp only at hk1 hk2 ⊢
      by_cases hkl : k < O.length
      · have hzl : k < zs.length := by omega
        repeat' (first | refine stp ?_ | refine And.intro ?_ ?_ | (intro e; exfalso; omega) | (intro e; subst e) | intro _)
        exact again hK2 ⟨(k + 1, zs.set k (IntKind.wrap .u32 (zs.getD k 0 + 1))), by omega, by dsimp only; rw [List.length_set]; exact hk2⟩
      · obtain rfl : k = O.length := by omega
        repeat' (first | refine stp ?_ | refine And.intro ?_ ?_ | (intro e; exfalso; omega) | (intro e; subst e) | intro _)
        exact again hK ⟨(1, zs, z2, z3, z4), by omega, hk2, k2, k3, k4⟩
    · repeat' (first | refine stp ?_ | refine And.intro ?_ ?_ | (intro e; exfalso; omega) | (intro e; subst e) | intro _)
      refine tc_lp (ι := {w : Nat × List Int // w.1 ≤ E.length ∧ w.2.length = E.length}) [17] (fun e w => (17, .int .i64 (w.1.1 : Nat)) :: e)
        (fun w => [Vec 23 1 (some ⟨bs, 0, none⟩) 4 4 [.slice qa1 O.length qa2, .slice qb1 E.length qb2, .slice qc1 A.length qc2, .slice qd1 B.length qd2], Vec 31 1 qa1 O.length qa2 (intsV .u32 z1), Vec 31 1 qb1 E.length qb2 (intsV .u32 w.1.2), Vec 31 1 qc1 A.length qc2 (intsV .u32 z3), Vec 31 1 qd1 B.length qd2 (intsV .u32 z4), ArcAt p1 size O E A B t, RoS 1 r1 O.length r2 (u32s O), RoS 1 r3 E.length r4 (u32s E), RoS 1 r5 A.length r6 (u32s A), RoS 1 r7 B.length r8 (u32s B), obj b10 78 [.int .i64 (size : Nat), .slice r1 O.length r2, .slice r3 E.length r4, .slice r5 A.length r6, .slice r7 B.length r8, .int .i64 (t : Nat)], RoS 2 a n cap (rows n fun i => [.int .i64 (Z i).1, .int .u32 ((Z i).2 : Nat)]), F]) (fun w => E.length - w.1.1) ⟨(0, z2), by omega, k2⟩ ?_
      rintro K2 ⟨⟨k, zs⟩, hk1, hk2⟩ hK2
      dsimp only at hk1 hk2 ⊢
      by_cases hkl : k < E.length
      · have hzl : k < zs.length := by omega
        repeat' (first | refine stp ?_ | refine And.intro ?_ ?_ | (intro e; exfalso; omega) | (intro e; subst e) | intro _)
        exact again hK2 ⟨(k + 1, zs.set k (IntKind.wrap .u32 (zs.getD k 0 + 1))), by omega, by dsimp only; rw [List.length_set]; exact hk2⟩
      · obtain rfl : k = E.length := by omega
        repeat' (first | refine stp ?_ | refine And.intro ?_ ?_ | (intro e; exfalso; omega) | (intro e; subst e) | intro _)
        exact again hK ⟨(2, z1, zs, z3, z4), by omega, k1, hk2, k3, k4⟩
    · repeat' (first | refine stp ?_ | refine And.intro ?_ ?_ | (intro e; exfalso; omega) | (intro e; subst e) | intro _)
      refine tc_lp (ι := {w : Nat × List Int // w.1 ≤ A.length ∧ w.2.length = A.length}) [17] (fun e w => (17, .int .i64 (w.1.1 : Nat)) :: e)
        (fun w => [Vec 23 1 (some ⟨bs, 0, none⟩) 4 4 [.slice qa1 O.length qa2, .slice qb1 E.length qb2, .slice qc1 A.length qc2, .slice qd1 B.length qd2], Vec 31 1 qa1 O.length qa2 (intsV .u32 z1), Vec 31 1 qb1 E.length qb2 (intsV .u32 z2), Vec 31 1 qc1 A.length qc2 (intsV .u32 w.1.2), Vec 31 1 qd1 B.length qd2 (intsV .u32 z4), ArcAt p1 size O E A B t, RoS 1 r1 O.length r2 (u32s O), RoS 1 r3 E.length r4 (u32s E), RoS 1 r5 A.length r6 (u32s A), RoS 1 r7 B.length r8 (u32s B), obj b10 78 [.int .i64 (size : Nat), .slice r1 O.length r2, .slice r3 E.length r4, .slice r5 A.length r6, .slice r7 B.length r8, .int .i64 (t : Nat)], RoS 2 a n cap (rows n fun i => [.int .i64 (Z i).1, .int .u32 ((Z i).2 : Nat)]), F]) (fun w => A.length - w.1.1) ⟨(0, z3), by omega, k3⟩ ?_
      rintro K2 ⟨⟨k, zs⟩, hk1, hk2⟩ hK2
      dsimp only at hk1 hk2 ⊢
      by_cases hkl : k < A.length
      · have hzl : k < zs.length := by omega
        repeat' (first | refine stp ?_ | refine And.intro ?_ ?_ | (intro e; exfalso; omega) | (intro e; subst e) | intro _)
        exact again hK2 ⟨(k + 1, zs.set k (IntKind.wrap .u32 (zs.getD k 0 + 1))), by omega, by dsimp only; rw [List.length_set]; exact hk2⟩
      · obtain rfl : k = A.length := by omega
        repeat' (first | refine stp ?_ | refine And.intro ?_ ?_ | (intro e; exfalso; omega) | (intro e; subst e) | intro _)
        exact again hK ⟨(3, z1, z2, zs, z4), by omega, k1, k2, hk2, k4⟩
    · repeat' (first | refine stp ?_ | refine And.intro ?_ ?_ | (intro e; exfalso; omega) | (intro e; subst e) | intro _)
      refine tc_lp (ι := {w : Nat × List Int // w.1 ≤ B.length ∧ w.2.length = B.length}) [17] (fun e w => (17, .int .i64 (w.1.1 : Nat)) :: e)
        (fun w => [Vec 23 1 (some ⟨bs, 0, none⟩) 4 4 [.slice qa1 O.length qa2, .slice qb1 E.length qb2, .slice qc1 A.length qc2, .slice qd1 B.length qd2], Vec 31 1 qa1 O.length qa2 (intsV .u32 z1), Vec 31 1 qb1 E.length qb2 (intsV .u32 z2), Vec 31 1 qc1 A.length qc2 (intsV .u32 z3), Vec 31 1 qd1 B.length qd2 (intsV .u32 w.1.2), ArcAt p1 size O E A B t, RoS 1 r1 O.length r2 (u32s O), RoS 1 r3 E.length r4 (u32s E), RoS 1 r5 A.length r6 (u32s A), RoS 1 r7 B.length r8 (u32s B), obj b10 78 [.int .i64 (size : Nat), .slice r1 O.length r2, .slice r3 E.length r4, .slice r5 A.length r6, .slice r7 B.length r8, .int .i64 (t : Nat)], RoS 2 a n cap (rows n fun i => [.int .i64 (Z i).1, .int .u32 ((Z i).2 : Nat)]), F]) (fun w => B.length - w.1.1) ⟨(0, z4), by omega, k4⟩ ?_
      rintro K2 ⟨⟨k, zs⟩, hk1, hk2⟩ hK2
      dsimp only at hk1 hk2 ⊢
      by_cases hkl : k < B.length
      · have hzl : k < zs.length := by omega
        repeat' (first | refine stp ?_ | refine And.intro ?_ ?_ | (intro e; exfalso; omega) | (intro e; subst e) | intro _)
        exact again hK2 ⟨(k + 1, zs.set k (IntKind.wrap .u32 (zs.getD k 0 + 1))), by omega, by dsimp only; rw [List.length_set]; exact hk2⟩
      · obtain rfl : k = B.length := by omega
        repeat' (first | refine stp ?_ | refine And.intro ?_ ?_ | (intro e; exfalso; omega) | (intro e; subst e) | intro _)
        exact again hK ⟨(4, z1, z2, z3, zs), by omega, k1, k2, k3, hk2⟩
    · repeat' (first | refine stp ?_ | refine And.intro ?_ ?_ | (intro e; exfalso; omega) | (intro e; subst e) | intro _)
      all_goals exact rt1 () rfl
  · refine spec_of Try.func12 rfl Try.ntmps12 rfl [(0, _), (1, _)] rfl ?_; intro base F l0 hl0; (try simp only [List.cons_append] at hl0); (try simp only [List.nil_append] at hl0); subst hl0
    repeat' (first | refine stp ?_ | refine And.intro ?_ ?_ | (intro e; exfalso; omega) | (intro e; subst e) | intro _)
    all_goals exact rt1 () rfl
end Go.Proofs.Ytcgdkcdlglbigaa
