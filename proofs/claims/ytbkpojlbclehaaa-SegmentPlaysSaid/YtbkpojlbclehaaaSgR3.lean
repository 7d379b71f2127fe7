/- The reference of segment, walked: slots that are put and taken; demote. -/
import Derived.Test.YtbkpojlbclehaaaSgR2
namespace Go.Sg
open Go.Sl
abbrev S2 := (Option Addr × Nat) × Option Addr × Nat
/-- The reference's order with one more. -/
structure OPut (g : Int) (P T : List It) (k c : Nat) (P' T' : List It) : Prop where
  out : (g = 0 ∧ P' = P ++ [(k, c)] ∧ T' = T) ∨ (g = 1 ∧ P' = P ∧ T' = T ++ [(k, c)])
/-- The reference's order without one. -/
structure OOut (g i : Int) (P T P' T' : List It) : Prop where
  out : ∃ m : Nat, i = m ∧ ((g = 0 ∧ m < P.length ∧ P' = P.take m ++ P.drop (m + 1) ∧ T' = T) ∨ (g = 1 ∧ m < T.length ∧ P' = P ∧ T' = T.take m ++ T.drop (m + 1)))
theorem wc_take {X : List It} {m : Nat} (h : m ≤ X.length) : wc (X.take m) = (wc X).take (m * 2) := by
  have e : wc X = wc (X.take m) ++ wc (X.drop m) := by
    rw [wc_eq, wc_eq, wc_eq, ← List.flatMap_append, List.take_append_drop]
  have hl : (wc (X.take m)).length = m * 2 := by
    have := rows_length (f := wrow (X.take m)) (sz := 2) (fun _ => rfl) (X.take m).length
    rw [List.length_take, Nat.min_eq_left h] at this
    rw [← this]; unfold wc; rw [List.length_take, Nat.min_eq_left h]
  rw [e, List.take_left' hl]
theorem wc_drop {X : List It} {m : Nat} (h : m ≤ X.length) : wc (X.drop m) = (wc X).drop (m * 2) := by
  have e : wc X = wc (X.take m) ++ wc (X.drop m) := by
    rw [wc_eq, wc_eq, wc_eq, ← List.flatMap_append, List.take_append_drop]
  have hl : (wc (X.take m)).length = m * 2 := by
    have := rows_length (f := wrow (X.take m)) (sz := 2) (fun _ => rfl) (X.take m).length
    rw [List.length_take, Nat.min_eq_left h] at this
    rw [← this]; unfold wc; rw [List.length_take, Nat.min_eq_left h]
  rw [e, List.drop_left' hl]
theorem wc_app {X Y : List It} : wc (X ++ Y) = wc X ++ wc Y := by
  rw [wc_eq, wc_eq, wc_eq, List.flatMap_append]
end Go.Sg
namespace Go.Proofs.Ytbkpojlbclehaaa
open Go.Lk Go.Sl Go.Lr Go.Sg
attribute [local irreducible] TK TL TC Th Bk Nx fnPost WA TQ OpQ OpN SpecH Rd Ent IterH RoundH Rb Rp fnPostM
attribute [local irreducible] Sg.sm Sg.sl Sg.demN
set_option maxHeartbeats 4000000 in
instance sgr_put : Known Try.prog 99 (∀ (a0 a1 : Option Addr) (c0 c1 : Nat) (P T : List It) (L g : Int) (xk : Int) (k : Nat) [NatI xk k] (xc : Int) (c : Nat) [NatI xc c] (P' T' : List It), OPut g P T k c P' T' → P.length ≤ 4194304 → T.length ≤ 4194304 → SpecH Try.prog 99 #[.agg #[.slice a0 P.length c0, .slice a1 T.length c1, .int .i64 L], .int .i64 g, .agg #[.int .u32 xk, .int .i64 xc]] [RoS 2 a0 P.length c0 (wc P), RoS 2 a1 T.length c1 (wc T)] (fun q : S2 => .agg #[.slice q.1.1 P'.length q.1.2, .slice q.2.1 T'.length q.2.2, .int .i64 L]) (fun q => [RoS 2 q.1.1 P'.length q.1.2 (wc P'), RoS 2 q.2.1 T'.length q.2.2 (wc T')])) := ⟨fun a0 a1 c0 c1 P T L g xk k _ xc c _ P' T' ho hp ht => by
  obtain rfl : xk = (k : Int) := NatI.out
  obtain rfl : xc = (c : Int) := NatI.out
  refine spec_of Try.func99 rfl Try.ntmps99 rfl [(0, _), (1, _), (2, _)] rfl ?_; intro base F l0 hl0; (try simp only [List.cons_append] at hl0); (try simp only [List.nil_append] at hl0); subst hl0
  rcases ho.out with ⟨rfl, rfl, rfl⟩ | ⟨rfl, rfl, rfl⟩
  · rw [show (P ++ [(k, c)]).length = P.length + 1 by simp, wc_snoc]
    repeat' (first | ((fail_if_success (refine atD ?_)); refine stw ?_) | refine And.intro ?_ ?_ | (intro e; exfalso; omega) | (intro e; subst e) | intro _)
    rename_i b3 b5 b6
    refine drx [obj b3 29 [.slice a0 P.length c0, .slice a1 T'.length c1, .int .i64 L]] ?_
    refine tks [0, 1, 2, 6, 9, 3] 6 ?_; repeat' (first | refine stw ?_ | refine And.intro ?_ ?_ | (intro e; exfalso; omega) | (intro e; subst e) | intro _)
    refine hvB 4 7 (fun _ => ?_) (fun x7 => ?_) (hq2 := (by (try simp only [List.cons_append, List.nil_append]); ((apply opn_buildSliceN; (focus ((first | exact want_none rfl | exact want_yes rfl rfl rfl rfl rfl | fail))); (focus ((repeat (first | exact Evs.nil | (apply Evs.cons; exact rfl) | fail)); done)); exact rfl; (focus ((repeat (first | exact CsL.nil | (apply CsL.cons; (focus ((first | exact IsCells.one rfl | exact IsCells.agg _ rfl | fail))); exact rfl) | fail)); done)); exact rfl; exact rfl; (focus (simp only [List.append_nil]; exact rfl))))))
    · refine hvB 5 7 (fun x5 => ?_) (fun x7 => ?_) (hq2 := (by (try simp only [List.cons_append, List.nil_append]); ((apply opn_buildSliceN; (focus ((first | exact want_none rfl | exact want_yes rfl rfl rfl rfl rfl | fail))); (focus ((repeat (first | exact Evs.nil | (apply Evs.cons; exact rfl) | fail)); done)); exact rfl; (focus ((repeat (first | exact CsL.nil | (apply CsL.cons; (focus ((first | exact IsCells.one rfl | exact IsCells.agg _ rfl | fail))); exact rfl) | fail)); done)); exact rfl; exact rfl; (focus (simp only [List.append_nil]; exact rfl))))))
      · refine hv 7 (fun x7 => ?_) (hq := (by (try simp only [List.cons_append, List.nil_append]); ((apply opn_buildSliceN; (focus ((first | exact want_none rfl | exact want_yes rfl rfl rfl rfl rfl | fail))); (focus ((repeat (first | exact Evs.nil | (apply Evs.cons; exact rfl) | fail)); done)); exact rfl; (focus ((repeat (first | exact CsL.nil | (apply CsL.cons; (focus ((first | exact IsCells.one rfl | exact IsCells.agg _ rfl | fail))); exact rfl) | fail)); done)); exact rfl; exact rfl; (focus (simp only [List.append_nil]; exact rfl))))))
        refine hv 8 fun x8 => ?_; refine tks [10] 1 ?_; (repeat' (first | refine stw ?_ | refine And.intro ?_ ?_ | (intro e; exfalso; omega) | (intro e; subst e) | intro _)); refine hv0 11 fun x11 => ?_; (simp only [Nat.mul_one, List.set_cons_zero]); (repeat' (first | refine stw ?_ | refine And.intro ?_ ?_ | (intro e; exfalso; omega) | (intro e; subst e) | intro _)); refine frz x8.1 ?_
        exact ra1 ((x8.1, x8.2), a1, c1) rfl
      · refine hv 5 fun x5 => ?_
        refine hv 8 fun x8 => ?_; refine tks [10] 1 ?_; (repeat' (first | refine stw ?_ | refine And.intro ?_ ?_ | (intro e; exfalso; omega) | (intro e; subst e) | intro _)); refine hv0 11 fun x11 => ?_; (simp only [Nat.mul_one, List.set_cons_zero]); (repeat' (first | refine stw ?_ | refine And.intro ?_ ?_ | (intro e; exfalso; omega) | (intro e; subst e) | intro _)); refine frz x8.1 ?_
        exact ra1 ((x8.1, x8.2), a1, c1) rfl
    · refine hvr 4 ?_
      refine hv 5 fun x5 => ?_
      refine hv 8 fun x8 => ?_; refine tks [10] 1 ?_; (repeat' (first | refine stw ?_ | refine And.intro ?_ ?_ | (intro e; exfalso; omega) | (intro e; subst e) | intro _)); refine hv0 11 fun x11 => ?_; (simp only [Nat.mul_one, List.set_cons_zero]); (repeat' (first | refine stw ?_ | refine And.intro ?_ ?_ | (intro e; exfalso; omega) | (intro e; subst e) | intro _)); refine frz x8.1 ?_
      exact ra1 ((x8.1, x8.2), a1, c1) rfl
  · rw [show (T ++ [(k, c)]).length = T.length + 1 by simp, wc_snoc]
    repeat' (first | ((fail_if_success (refine atD ?_)); refine stw ?_) | refine And.intro ?_ ?_ | (intro e; exfalso; omega) | (intro e; subst e) | intro _)
    rename_i b3 b5 b6
    refine drx [obj b3 29 [.slice a0 P'.length c0, .slice a1 T.length c1, .int .i64 L]] ?_
    refine tks [0, 1, 2, 6, 9, 3] 6 ?_; repeat' (first | refine stw ?_ | refine And.intro ?_ ?_ | (intro e; exfalso; omega) | (intro e; subst e) | intro _)
    refine hvB 4 7 (fun _ => ?_) (fun x7 => ?_) (hq2 := (by (try simp only [List.cons_append, List.nil_append]); ((apply opn_buildSliceN; (focus ((first | exact want_none rfl | exact want_yes rfl rfl rfl rfl rfl | fail))); (focus ((repeat (first | exact Evs.nil | (apply Evs.cons; exact rfl) | fail)); done)); exact rfl; (focus ((repeat (first | exact CsL.nil | (apply CsL.cons; (focus ((first | exact IsCells.one rfl | exact IsCells.agg _ rfl | fail))); exact rfl) | fail)); done)); exact rfl; exact rfl; (focus (simp only [List.append_nil]; exact rfl))))))
    · refine hvB 5 7 (fun x5 => ?_) (fun x7 => ?_) (hq2 := (by (try simp only [List.cons_append, List.nil_append]); ((apply opn_buildSliceN; (focus ((first | exact want_none rfl | exact want_yes rfl rfl rfl rfl rfl | fail))); (focus ((repeat (first | exact Evs.nil | (apply Evs.cons; exact rfl) | fail)); done)); exact rfl; (focus ((repeat (first | exact CsL.nil | (apply CsL.cons; (focus ((first | exact IsCells.one rfl | exact IsCells.agg _ rfl | fail))); exact rfl) | fail)); done)); exact rfl; exact rfl; (focus (simp only [List.append_nil]; exact rfl))))))
      · refine hv 7 (fun x7 => ?_) (hq := (by (try simp only [List.cons_append, List.nil_append]); ((apply opn_buildSliceN; (focus ((first | exact want_none rfl | exact want_yes rfl rfl rfl rfl rfl | fail))); (focus ((repeat (first | exact Evs.nil | (apply Evs.cons; exact rfl) | fail)); done)); exact rfl; (focus ((repeat (first | exact CsL.nil | (apply CsL.cons; (focus ((first | exact IsCells.one rfl | exact IsCells.agg _ rfl | fail))); exact rfl) | fail)); done)); exact rfl; exact rfl; (focus (simp only [List.append_nil]; exact rfl))))))
        refine hv 8 fun x8 => ?_; refine tks [10] 1 ?_; (repeat' (first | refine stw ?_ | refine And.intro ?_ ?_ | (intro e; exfalso; omega) | (intro e; subst e) | intro _)); refine hv0 11 fun x11 => ?_; (simp only [Nat.mul_one]); (repeat' (first | refine stw ?_ | refine And.intro ?_ ?_ | (intro e; exfalso; omega) | (intro e; subst e) | intro _)); refine frz x8.1 ?_
        exact ra1 ((a0, c0), x8.1, x8.2) rfl
      · refine hv 5 fun x5 => ?_
        refine hv 8 fun x8 => ?_; refine tks [10] 1 ?_; (repeat' (first | refine stw ?_ | refine And.intro ?_ ?_ | (intro e; exfalso; omega) | (intro e; subst e) | intro _)); refine hv0 11 fun x11 => ?_; (simp only [Nat.mul_one]); (repeat' (first | refine stw ?_ | refine And.intro ?_ ?_ | (intro e; exfalso; omega) | (intro e; subst e) | intro _)); refine frz x8.1 ?_
        exact ra1 ((a0, c0), x8.1, x8.2) rfl
    · refine hvr 4 ?_
      refine hv 5 fun x5 => ?_
      refine hv 8 fun x8 => ?_; refine tks [10] 1 ?_; (repeat' (first | refine stw ?_ | refine And.intro ?_ ?_ | (intro e; exfalso; omega) | (intro e; subst e) | intro _)); refine hv0 11 fun x11 => ?_; (simp only [Nat.mul_one]); (repeat' (first | refine stw ?_ | refine And.intro ?_ ?_ | (intro e; exfalso; omega) | (intro e; subst e) | intro _)); refine frz x8.1 ?_
      exact ra1 ((a0, c0), x8.1, x8.2) rfl⟩
set_option maxHeartbeats 4000000 in
instance sgr_out : Known Try.prog 100 (∀ (a0 a1 : Option Addr) (c0 c1 : Nat) (P T : List It) (L g i : Int) (P' T' : List It), OOut g i P T P' T' → P.length ≤ 4194304 → T.length ≤ 4194304 → SpecH Try.prog 100 #[.agg #[.slice a0 P.length c0, .slice a1 T.length c1, .int .i64 L], .int .i64 g, .int .i64 i] [RoS 2 a0 P.length c0 (wc P), RoS 2 a1 T.length c1 (wc T)] (fun q : S2 => .agg #[.slice q.1.1 P'.length q.1.2, .slice q.2.1 T'.length q.2.2, .int .i64 L]) (fun q => [RoS 2 q.1.1 P'.length q.1.2 (wc P'), RoS 2 q.2.1 T'.length q.2.2 (wc T')])) := ⟨fun a0 a1 c0 c1 P T L g i P' T' ho hp ht => by
  refine spec_of Try.func100 rfl Try.ntmps100 rfl [(0, _), (1, _), (2, _)] rfl ?_; intro base F l0 hl0; (try simp only [List.cons_append] at hl0); (try simp only [List.nil_append] at hl0); subst hl0
  obtain ⟨m, rfl, ⟨rfl, hm, rfl, rfl⟩ | ⟨rfl, hm, rfl, rfl⟩⟩ := ho.out
  · rw [show (P.take m ++ P.drop (m + 1)).length = m + (P.length - (m + 1)) by simp; omega, wc_app, wc_take (by omega), wc_drop (by omega)]
    repeat' (first | ((fail_if_success (refine atD ?_)); refine stw ?_) | refine And.intro ?_ ?_ | (intro e; exfalso; omega) | (intro e; subst e) | intro _)
    rename_i b3 b6
    refine drx [obj b3 29 [.slice a0 P.length c0, .slice a1 T'.length c1, .int .i64 L]] ?_
    refine tks [0, 1, 2, 5, 8, 9, 12, 16, 3, 10, 13] 8 ?_; repeat' (first | refine stw ?_ | refine And.intro ?_ ?_ | (intro e; exfalso; omega) | (intro e; subst e) | intro _)
    refine hvB 4 11 (fun _ => ?_) (fun _ => ?_)
    · refine tks [6] 6 ?_; repeat' (first | refine stw ?_ | refine And.intro ?_ ?_ | (intro e; exfalso; omega) | (intro e; subst e) | intro _)
      refine hvB 7 11 (fun x7 => ?_) (fun _ => ?_)
      · refine hvr 11 ?_
        refine tks [14] 3 ?_; repeat' (first | refine stw ?_ | refine And.intro ?_ ?_ | (intro e; exfalso; omega) | (intro e; subst e) | intro _)
        refine hv 15 fun x15 => ?_; refine tks [17] 1 ?_; (repeat' (first | refine stw ?_ | refine And.intro ?_ ?_ | (intro e; exfalso; omega) | (intro e; subst e) | intro _)); refine hv0 18 fun x18 => ?_; (simp only [Nat.mul_one, List.set_cons_zero]); (repeat' (first | refine stw ?_ | refine And.intro ?_ ?_ | (intro e; exfalso; omega) | (intro e; subst e) | intro _)); refine frz x15.1 ?_
        exact ra1 ((x15.1, x15.2), a1, c1) rfl
      · refine tks [14] 4 ?_; repeat' (first | refine stw ?_ | refine And.intro ?_ ?_ | (intro e; exfalso; omega) | (intro e; subst e) | intro _)
        refine hv 7 fun x7 => ?_
        refine hv 15 fun x15 => ?_; refine tks [17] 1 ?_; (repeat' (first | refine stw ?_ | refine And.intro ?_ ?_ | (intro e; exfalso; omega) | (intro e; subst e) | intro _)); refine hv0 18 fun x18 => ?_; (simp only [Nat.mul_one, List.set_cons_zero]); (repeat' (first | refine stw ?_ | refine And.intro ?_ ?_ | (intro e; exfalso; omega) | (intro e; subst e) | intro _)); refine frz x15.1 ?_
        exact ra1 ((x15.1, x15.2), a1, c1) rfl
    · refine tks [14] 6 ?_; repeat' (first | refine stw ?_ | refine And.intro ?_ ?_ | (intro e; exfalso; omega) | (intro e; subst e) | intro _)
      refine hvr 4 ?_
      refine tks [6] 4 ?_; repeat' (first | refine stw ?_ | refine And.intro ?_ ?_ | (intro e; exfalso; omega) | (intro e; subst e) | intro _)
      refine hv 7 fun x7 => ?_
      refine hv 15 fun x15 => ?_; refine tks [17] 1 ?_; (repeat' (first | refine stw ?_ | refine And.intro ?_ ?_ | (intro e; exfalso; omega) | (intro e; subst e) | intro _)); refine hv0 18 fun x18 => ?_; (simp only [Nat.mul_one, List.set_cons_zero]); (repeat' (first | refine stw ?_ | refine And.intro ?_ ?_ | (intro e; exfalso; omega) | (intro e; subst e) | intro _)); refine frz x15.1 ?_
      exact ra1 ((x15.1, x15.2), a1, c1) rfl
  · rw [show (T.take m ++ T.drop (m + 1)).length = m + (T.length - (m + 1)) by simp; omega, wc_app, wc_take (by omega), wc_drop (by omega)]
    repeat' (first | ((fail_if_success (refine atD ?_)); refine stw ?_) | refine And.intro ?_ ?_ | (intro e; exfalso; omega) | (intro e; subst e) | intro _)
    rename_i b3 b6
    refine drx [obj b3 29 [.slice a0 P'.length c0, .slice a1 T.length c1, .int .i64 L]] ?_
    refine tks [0, 1, 2, 5, 8, 9, 12, 16, 3, 10, 13] 8 ?_; repeat' (first | refine stw ?_ | refine And.intro ?_ ?_ | (intro e; exfalso; omega) | (intro e; subst e) | intro _)
    refine hvB 4 11 (fun _ => ?_) (fun _ => ?_)
    · refine tks [6] 6 ?_; repeat' (first | refine stw ?_ | refine And.intro ?_ ?_ | (intro e; exfalso; omega) | (intro e; subst e) | intro _)
      refine hvB 7 11 (fun x7 => ?_) (fun _ => ?_)
      · refine hvr 11 ?_
        refine tks [14] 3 ?_; repeat' (first | refine stw ?_ | refine And.intro ?_ ?_ | (intro e; exfalso; omega) | (intro e; subst e) | intro _)
        refine hv 15 fun x15 => ?_; refine tks [17] 1 ?_; (repeat' (first | refine stw ?_ | refine And.intro ?_ ?_ | (intro e; exfalso; omega) | (intro e; subst e) | intro _)); refine hv0 18 fun x18 => ?_; (simp only [Nat.mul_one]); (repeat' (first | refine stw ?_ | refine And.intro ?_ ?_ | (intro e; exfalso; omega) | (intro e; subst e) | intro _)); refine frz x15.1 ?_
        exact ra1 ((a0, c0), x15.1, x15.2) rfl
      · refine tks [14] 4 ?_; repeat' (first | refine stw ?_ | refine And.intro ?_ ?_ | (intro e; exfalso; omega) | (intro e; subst e) | intro _)
        refine hv 7 fun x7 => ?_
        refine hv 15 fun x15 => ?_; refine tks [17] 1 ?_; (repeat' (first | refine stw ?_ | refine And.intro ?_ ?_ | (intro e; exfalso; omega) | (intro e; subst e) | intro _)); refine hv0 18 fun x18 => ?_; (simp only [Nat.mul_one]); (repeat' (first | refine stw ?_ | refine And.intro ?_ ?_ | (intro e; exfalso; omega) | (intro e; subst e) | intro _)); refine frz x15.1 ?_
        exact ra1 ((a0, c0), x15.1, x15.2) rfl
    · refine tks [14] 6 ?_; repeat' (first | refine stw ?_ | refine And.intro ?_ ?_ | (intro e; exfalso; omega) | (intro e; subst e) | intro _)
      refine hvr 4 ?_
      refine tks [6] 4 ?_; repeat' (first | refine stw ?_ | refine And.intro ?_ ?_ | (intro e; exfalso; omega) | (intro e; subst e) | intro _)
      refine hv 7 fun x7 => ?_
      refine hv 15 fun x15 => ?_; refine tks [17] 1 ?_; (repeat' (first | refine stw ?_ | refine And.intro ?_ ?_ | (intro e; exfalso; omega) | (intro e; subst e) | intro _)); refine hv0 18 fun x18 => ?_; (simp only [Nat.mul_one]); (repeat' (first | refine stw ?_ | refine And.intro ?_ ?_ | (intro e; exfalso; omega) | (intro e; subst e) | intro _)); refine frz x15.1 ?_
      exact ra1 ((a0, c0), x15.1, x15.2) rfl⟩
end Go.Proofs.Ytbkpojlbclehaaa
