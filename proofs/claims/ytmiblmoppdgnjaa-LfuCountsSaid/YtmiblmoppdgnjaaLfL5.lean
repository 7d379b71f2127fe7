/- The laws of lfu, walked: counts. -/
import Derived.Test.YtmiblmoppdgnjaaLfL2
namespace Go.Proofs.Ytmiblmoppdgnjaa
open Go.Lk Go.Sl Go.Lf
attribute [local irreducible] TK TL TC Th Bk Nx fnPost WA TQ OpQ OpN SpecH Rd Ent IterH RoundH Rb Rp fnPostM
attribute [local irreducible] Lf.wo Lf.ins Lf.cntOf Lf.halveL Lf.lo Lf.hi Lf.useS Lf.useL
/-- A request that makes no key leave, ahead of the last one. -/
theorem uses_mid (p age req k : Nat) (l : List It) (h : Bool) (hk : k < 100) (hr : req < 1000) (hq : req + 1 ≠ age) (hl : l.length ≠ 3) (hh : useH l k = h) : SpecH Try.prog 10 #[.pointer (some ⟨p, 0, none⟩), .int .u32 (k : Nat), .agg #[.bool h, .bool false, .int .u32 0]] [LfuAt p 3 age req l] (fun _ : Unit => .bool true) (fun _ => [LfuAt p 3 age (req + 1) (useL 3 l k)]) := by
  have := lfl_uses.out p 3 age req l (k : Nat) k h false 0 0 (by omega) (by omega)
  obtain ⟨t1, t2⟩ := turn_use (k := k) (l := l) (size := 3) (.inr hl)
  have hS : useS 3 age (req, l) k = (req + 1, useL 3 l k) := by unfold useS; rw [if_neg hq]
  rw [hS, decide_eq_true ⟨hh, t1, t2⟩] at this
  exact this
set_option maxHeartbeats 8000000 in
theorem lcounts_spec (many : Int) (o : Nat) : SpecH Try.prog 3 #[.int .i64 many, .int .u8 (o : Nat)] [] (fun _ : Unit => .bool true) (fun _ => []) := by
  by_cases hb : many < 250 ∨ 260 < many ∨ 3 < o
  · refine spec_of Try.func3 rfl Try.ntmps3 rfl [(0, _), (1, _)] rfl ?_; intro base F l0 hl0; (try simp only [List.cons_append] at hl0); (try simp only [List.nil_append] at hl0); subst hl0
    repeat' (first | refine sty ?_ | refine And.intro ?_ ?_ | (intro e; exfalso; omega) | (intro e; subst e) | intro _)
    all_goals exact rt1 () rfl
  · obtain ⟨M, rfl⟩ : ∃ M : Nat, many = M := ⟨many.toNat, by omega⟩
    haveI iA : NatI ((M : Int) + (o : Int) + 1) (M + o + 1) := ⟨rfl⟩
    refine spec_of Try.func3 rfl Try.ntmps3 rfl [(0, _), (1, _)] rfl ?_; intro base F l0 hl0; (try simp only [List.cons_append] at hl0); (try simp only [List.nil_append] at hl0); subst hl0
    repeat' (first | refine sty ?_ | refine And.intro ?_ ?_ | (intro e; exfalso; omega) | (intro e; subst e) | intro _)
    rename_i p
    refine tc_lp (ι := {x : Nat × List It // x.1 ≤ M ∧ Cn x.2 x.1 0}) [8] (fun e x => (8, .int .i64 (x.1.1 : Nat)) :: e) (fun x => [LfuAt p 3 (M + o + 1) x.1.1 x.1.2, F]) (fun x => M - x.1.1) ⟨(0, []), by omega, Cn.nil⟩ ?_
    rintro K ⟨⟨i, l⟩, hi, hC⟩ hK
    dsimp only at hi hC ⊢
    by_cases hc : i < M
    · have hC2 := hC.use7
      have hca := hC2.ca
      rcases Nat.eq_zero_or_pos i with h0 | h0
      · haveI : Known Try.prog 10 (SpecH Try.prog 10 #[.pointer (some ⟨p, 0, none⟩), .int .u32 7, .agg #[.bool false, .bool false, .int .u32 0]] [LfuAt p 3 (M + o + 1) i l] (fun _ : Unit => .bool true) (fun _ => [LfuAt p 3 (M + o + 1) (i + 1) (useL 3 l 7)])) := ⟨uses_mid p (M + o + 1) i 7 l false (by omega) (by omega) (by omega) hC.room (decide_eq_false (fun h => by have := hC.in7.1 h; omega))⟩
        repeat' (first | refine sty ?_ | refine And.intro ?_ ?_ | (intro e; exfalso; omega) | (intro e; subst e) | intro _)
        exact again hK ⟨(i + 1, useL 3 l 7), by omega, hC2⟩
      · haveI : Known Try.prog 10 (SpecH Try.prog 10 #[.pointer (some ⟨p, 0, none⟩), .int .u32 7, .agg #[.bool true, .bool false, .int .u32 0]] [LfuAt p 3 (M + o + 1) i l] (fun _ : Unit => .bool true) (fun _ => [LfuAt p 3 (M + o + 1) (i + 1) (useL 3 l 7)])) := ⟨uses_mid p (M + o + 1) i 7 l true (by omega) (by omega) (by omega) hC.room (decide_eq_true (hC.in7.2 h0))⟩
        repeat' (first | refine sty ?_ | refine And.intro ?_ ?_ | (intro e; exfalso; omega) | (intro e; subst e) | intro _)
        exact again hK ⟨(i + 1, useL 3 l 7), by omega, hC2⟩
    · obtain rfl : i = M := by omega
      repeat' (first | refine sty ?_ | refine And.intro ?_ ?_ | (intro e; exfalso; omega) | (intro e; subst e) | intro _)
      refine tc_lp (ι := {x : Nat × List It // x.1 ≤ o ∧ Cn x.2 i x.1}) [9] (fun e x => (9, .int .i64 (x.1.1 : Nat)) :: e) (fun x => [LfuAt p 3 (i + o + 1) (i + x.1.1) x.1.2, F]) (fun x => o - x.1.1) ⟨(0, l), by omega, hC⟩ ?_
      rintro K2 ⟨⟨j, l⟩, hj, hC⟩ hK2
      dsimp only at hj hC ⊢
      by_cases hcj : j < o
      · have hC2 := hC.use8 (by omega)
        rcases Nat.eq_zero_or_pos j with h0 | h0
        · haveI : Known Try.prog 10 (SpecH Try.prog 10 #[.pointer (some ⟨p, 0, none⟩), .int .u32 8, .agg #[.bool false, .bool false, .int .u32 0]] [LfuAt p 3 (i + o + 1) (i + j) l] (fun _ : Unit => .bool true) (fun _ => [LfuAt p 3 (i + o + 1) (i + (j + 1)) (useL 3 l 8)])) := ⟨uses_mid p (i + o + 1) (i + j) 8 l false (by omega) (by omega) (by omega) hC.room (decide_eq_false (fun h => by have := hC.in8.1 h; omega))⟩
          repeat' (first | refine sty ?_ | refine And.intro ?_ ?_ | (intro e; exfalso; omega) | (intro e; subst e) | intro _)
          exact again hK2 ⟨(j + 1, useL 3 l 8), by omega, hC2⟩
        · haveI : Known Try.prog 10 (SpecH Try.prog 10 #[.pointer (some ⟨p, 0, none⟩), .int .u32 8, .agg #[.bool true, .bool false, .int .u32 0]] [LfuAt p 3 (i + o + 1) (i + j) l] (fun _ : Unit => .bool true) (fun _ => [LfuAt p 3 (i + o + 1) (i + (j + 1)) (useL 3 l 8)])) := ⟨uses_mid p (i + o + 1) (i + j) 8 l true (by omega) (by omega) (by omega) hC.room (decide_eq_true (hC.in8.2 h0))⟩
          repeat' (first | refine sty ?_ | refine And.intro ?_ ?_ | (intro e; exfalso; omega) | (intro e; subst e) | intro _)
          exact again hK2 ⟨(j + 1, useL 3 l 8), by omega, hC2⟩
      · obtain rfl : j = o := by omega
        obtain ⟨q1, q2, q3, q4⟩ := hC.last (by omega)
        have hcb := hC.cb
        have hq3 : cntOf (halveL (useL 3 l 9)) 8 = max (min 1 j) (j / 2) := by rw [q3]; split <;> omega
        haveI : Known Try.prog 10 (SpecH Try.prog 10 #[.pointer (some ⟨p, 0, none⟩), .int .u32 9, .agg #[.bool false, .bool false, .int .u32 0]] [LfuAt p 3 (i + j + 1) (i + j) l] (fun _ : Unit => .bool true) (fun _ => [LfuAt p 3 (i + j + 1) 0 (halveL (useL 3 l 9))])) := ⟨by
          have := lfl_uses.out p 3 (i + j + 1) (i + j) l 9 9 false false 0 0 (by omega) (by omega)
          obtain ⟨t1, t2⟩ := turn_use (k := 9) (l := l) (size := 3) (.inr hC.room)
          have hS : useS 3 (i + j + 1) (i + j, l) 9 = (0, halveL (useL 3 l 9)) := by unfold useS; rw [if_pos rfl]
          rw [hS, decide_eq_true ⟨q1, t1, t2⟩] at this
          exact this⟩
        repeat' (first | refine sty ?_ | refine And.intro ?_ ?_ | (intro e; exfalso; omega) | (intro e; subst e) | intro _)
        all_goals exact rt1 () rfl
end Go.Proofs.Ytmiblmoppdgnjaa
