/- The laws of segment, walked: what an order looks like; a new one. -/
import Derived.Test.YtbkpojlbclehaaaSgL2
import Derived.Test.YtbkpojlbclehaaaSgR2
namespace Go.Sg
theorem first_at {k : Nat} : ∀ {X : List It}, k ∈ sl X → ∃ m, m < X.length ∧ (X.getD m (0, 0)).1 = k ∧ ∀ j, j < m → (X.getD j (0, 0)).1 ≠ k
  | [], h => by cases h
  | x :: X, h => by
    by_cases e : x.1 = k
    · exact ⟨0, by simp, e, fun j hj => absurd hj (by omega)⟩
    · rw [sl_cons] at h
      rcases List.mem_cons.1 h with h | h
      · exact absurd h.symm e
      · obtain ⟨m, m1, m2, m3⟩ := first_at h
        refine ⟨m + 1, by simp; omega, m2, fun j hj => ?_⟩
        cases j with
        | zero => exact e
        | succ j => exact m3 j (by omega)
end Go.Sg
namespace Go.Proofs.Ytbkpojlbclehaaa
open Go.Lk Go.Sl Go.Lr Go.Sg
attribute [local irreducible] TK TL TC Th Bk Nx fnPost WA TQ OpQ OpN SpecH Rd Ent IterH RoundH Rb Rp fnPostM
attribute [local irreducible] Sg.sm Sg.sl
set_option maxHeartbeats 8000000 in
instance sgl_is : Known Try.prog 16 (∀ (p : Nat) (a0 a1 : Option Addr) (c0 c1 : Nat) (P T : List It) (L : Int) (xk : Int) (k : Nat) [NatI xk k], k < 4294967296 → SpecH Try.prog 16 #[.pointer (some ⟨p, 0, none⟩), .agg #[.slice a0 P.length c0, .slice a1 T.length c1, .int .i64 L], .int .u32 xk] [SegAt p P T L, RoS 2 a0 P.length c0 (wc P), RoS 2 a1 T.length c1 (wc T)] (fun _ : Unit => .bool true) (fun _ => [SegAt p P T L])) := ⟨fun p a0 a1 c0 c1 P T L xk k _ hk => by
  obtain rfl : xk = (k : Int) := NatI.out
  refine spec_of Try.func16 rfl Try.ntmps16 rfl [(0, _), (1, _), (2, _)] rfl ?_; intro base F l0 hl0; (try simp only [List.cons_append] at hl0); (try simp only [List.nil_append] at hl0); subst hl0
  refine SegAt.factsC fun iv st lp lt => ?_
  have hc : ∀ x, x ∈ P ∨ x ∈ T → x.2 ≤ 1099511627776 := fun x h => (iv.lt x h).2
  have o0 : OneG 0 P T P := ⟨.inl ⟨rfl, rfl⟩⟩
  have o1 : OneG 1 P T T := ⟨.inr ⟨rfl, rfl⟩⟩
  have g0 : ListG 0 P T P := ⟨.inl ⟨rfl, rfl⟩⟩
  have g1 : ListG 1 P T T := ⟨.inr (.inl ⟨rfl, rfl⟩)⟩
  have g2 : ListG 2 P T [] := ⟨.inr (.inr ⟨.inr (by decide), rfl⟩)⟩
  have g3 : ListG (-1) P T [] := ⟨.inr (.inr ⟨.inl (by decide), rfl⟩)⟩
  have hs0 : sm [] = 0 := sm_nil
  have s0 : SameW P P true := ⟨decide_eq_true rfl⟩
  have s1 : SameW T T true := ⟨decide_eq_true rfl⟩
  repeat' (first | refine stw ?_ | refine And.intro ?_ ?_ | (intro e; exfalso; omega) | (intro e; subst e) | intro _)
  refine tc_lp (ι := {v : Nat // v ≤ 2}) [7] (fun e v => (7, .int .i64 (v.1 : Nat)) :: e) (fun _ => _) (fun v => 2 - v.1) ⟨0, by omega⟩ ?_ (hl := Ent.refl _)
  rintro K ⟨v, hle⟩ hK
  dsimp only at hle ⊢
  rcases v with _ | _ | v
  · skip
    repeat' (first | ((fail_if_success (refine atD ?_)); refine stw ?_) | refine And.intro ?_ ?_ | (intro e; exfalso; omega) | (intro e; subst e) | intro _)
    refine drx [SegAt p P T L] ?_
    refine tks [0, 1, 3, 4, 5, 6] 23 ?_; repeat' (first | refine stw ?_ | refine And.intro ?_ ?_ | (intro e; subst e) | intro _)
    refine hv 2 fun x2 => ?_
    refine hv 7 fun x7 => ?_
    refine tks [8, 9, 10, 11, 13, 14] 15 ?_; repeat' (first | refine stw ?_ | refine And.intro ?_ ?_ | (intro e; subst e) | intro _)
    refine hv 12 fun x12 => ?_
    refine hv 15 fun x15 => ?_
    refine tks [16, 17, 18, 19, 20, 22, 23, 24, 25, 26] 3 ?_; repeat' (first | refine stw ?_ | refine And.intro ?_ ?_ | (intro e; subst e) | intro _)
    refine hv 21 fun x21 => ?_
    refine tks [27, 28] 0 ?_; repeat' (first | refine stw ?_ | refine And.intro ?_ ?_ | (intro e; exfalso; omega) | (intro e; subst e) | intro _)
    exact again hK ⟨1, by omega⟩ (by dsimp only; omega)
  · skip
    repeat' (first | ((fail_if_success (refine atD ?_)); refine stw ?_) | refine And.intro ?_ ?_ | (intro e; exfalso; omega) | (intro e; subst e) | intro _)
    refine drx [SegAt p P T L] ?_
    refine tks [0, 1, 3, 4, 5, 6] 23 ?_; repeat' (first | refine stw ?_ | refine And.intro ?_ ?_ | (intro e; subst e) | intro _)
    refine hv 2 fun x2 => ?_
    refine hv 7 fun x7 => ?_
    refine tks [8, 9, 10, 11, 13, 14] 15 ?_; repeat' (first | refine stw ?_ | refine And.intro ?_ ?_ | (intro e; subst e) | intro _)
    refine hv 12 fun x12 => ?_
    refine hv 15 fun x15 => ?_
    refine tks [16, 17, 18, 19, 20, 22, 23, 24, 25, 26] 3 ?_; repeat' (first | refine stw ?_ | refine And.intro ?_ ?_ | (intro e; subst e) | intro _)
    refine hv 21 fun x21 => ?_
    refine tks [27, 28] 0 ?_; repeat' (first | refine stw ?_ | refine And.intro ?_ ?_ | (intro e; exfalso; omega) | (intro e; subst e) | intro _)
    exact again hK ⟨2, by omega⟩ (by dsimp only; omega)
  · obtain rfl : v = 0 := by omega
    by_cases hkP : k ∈ sl P
    · obtain ⟨m, m1, m2, m3⟩ := first_at hkP
      have hf : FindR P T k 0 m := ⟨.inr (.inl ⟨rfl, m, rfl, m1, m2, m3⟩)⟩
      have hkk := iv.pslot k hkP
      have hq : FairB k 0 true := ⟨decide_eq_true ⟨hkk, by decide, by decide⟩⟩
      have hw : OfR P T k 0 (P.getD m (0, 0)).2 0 := ⟨.inr (.inr ⟨rfl, hkk, .inr ⟨rfl, m2 ▸ getD_inS m1⟩⟩)⟩
      repeat' (first | refine stw ?_ | refine And.intro ?_ ?_ | (intro e; exfalso; omega) | (intro e; subst e) | intro _)
      exact rt1 () rfl
    by_cases hkT : k ∈ sl T
    · obtain ⟨m, m1, m2, m3⟩ := first_at hkT
      have hf : FindR P T k 1 m := ⟨.inr (.inr ⟨rfl, hkP, m, rfl, m1, m2, m3⟩)⟩
      have hkk := iv.tslot k hkT
      have hq : FairB k 0 true := ⟨decide_eq_true ⟨hkk, by decide, by decide⟩⟩
      have hw : OfR P T k 1 (T.getD m (0, 0)).2 0 := ⟨.inr (.inr ⟨rfl, hkk, .inl ⟨rfl, m2 ▸ getD_inS m1⟩⟩)⟩
      repeat' (first | refine stw ?_ | refine And.intro ?_ ?_ | (intro e; exfalso; omega) | (intro e; subst e) | intro _)
      exact rt1 () rfl
    have hf : FindR P T k (-1) (-1) := ⟨.inl ⟨rfl, rfl, hkP, hkT⟩⟩
    by_cases hkk : k < 4194304
    · have hq : FairB k 0 true := ⟨decide_eq_true ⟨hkk, by decide, by decide⟩⟩
      have hw : OfR P T k 0 0 9 := ⟨.inr (.inl ⟨rfl, hkk, ⟨hkP, hkT⟩, rfl, rfl⟩)⟩
      repeat' (first | refine stw ?_ | refine And.intro ?_ ?_ | (intro e; exfalso; omega) | (intro e; subst e) | intro _)
      exact rt1 () rfl
    · have hq : FairB k 0 false := ⟨decide_eq_false fun h => hkk h.1⟩
      have hw : OfR P T k 0 0 2 := ⟨.inl ⟨rfl, by omega, rfl, rfl⟩⟩
      repeat' (first | refine stw ?_ | refine And.intro ?_ ?_ | (intro e; exfalso; omega) | (intro e; subst e) | intro _)
      exact rt1 () rfl⟩
theorem sgl_isE : Known Try.prog 16 (∀ (p : Nat) (L : Int) (xk : Int) (k : Nat) [NatI xk k], k < 4294967296 → SpecH Try.prog 16 #[.pointer (some ⟨p, 0, none⟩), .agg #[.slice none 0 0, .slice none 0 0, .int .i64 L], .int .u32 xk] [SegAt p [] [] L, RoS 2 none 0 0 [], RoS 2 none 0 0 []] (fun _ : Unit => .bool true) (fun _ => [SegAt p [] [] L])) := ⟨fun p L xk k _ hk => sgl_is.out p none none 0 0 [] [] L xk k hk⟩
set_option maxHeartbeats 4000000 in
theorem sgl_newlaw (z : Int) : SpecH Try.prog 3 #[.int .i64 z] [] (fun _ : Unit => .bool true) (fun _ => []) := by
  by_cases hz : -1 ≤ z ∧ z ≤ 1099511627776
  · have hb : NewB z true := ⟨decide_eq_true hz⟩
    obtain ⟨hz1, hz2⟩ := hz
    haveI := sgl_isE
    refine spec_of Try.func3 rfl Try.ntmps3 rfl [(0, _)] rfl ?_; intro base F l0 hl0; (try simp only [List.cons_append] at hl0); (try simp only [List.nil_append] at hl0); subst hl0
    repeat' (first | refine stw ?_ | refine And.intro ?_ ?_ | (intro e; exfalso; omega) | (intro e; subst e) | intro _)
    exact rt1 () rfl
  · have hb : NewB z false := ⟨decide_eq_false hz⟩
    haveI := sgl_newC
    refine spec_of Try.func3 rfl Try.ntmps3 rfl [(0, _)] rfl ?_; intro base F l0 hl0; (try simp only [List.cons_append] at hl0); (try simp only [List.nil_append] at hl0); subst hl0
    have h2 : z < -1 ∨ 1099511627776 < z := by omega
    repeat' (first | refine stw ?_ | refine And.intro ?_ ?_ | (intro e; exfalso; omega) | (intro e; subst e) | intro _)
    exact rt1 () rfl
end Go.Proofs.Ytbkpojlbclehaaa
