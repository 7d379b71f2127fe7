/- The laws of lru, walked: an iterator in a loop that stops early, and then again, while slots are used and removed. -/
import Derived.Test.YtbdiabakcgafgaaLrL2
import Derived.Test.YtbdiabakcgafgaaSlD
namespace Go.Proofs.Ytbdiabakcgafgaa
open Go.Lk Go.Sl Go.Lr
attribute [local irreducible] TK TL TC Th Bk Nx fnPost WA TQ OpQ OpN SpecH Rd Ent IterH RoundH Rb Rp fnPostM
attribute [local irreducible] Lr.addE Lr.addL Lr.remE Lr.useL Lr.renE' Lr.renL Lr.findI
set_option maxRecDepth 20000 in
set_option maxHeartbeats 8000000 in
theorem literates_spec (a : Option Addr) (cap : Nat) (l : List Nat) (k : Nat) (hl : ∀ x ∈ l, x < 4294967296) (hk : k ≤ 255) : SpecH Try.prog 8 #[.slice a l.length cap, .int .u8 (k : Int)] [RoS 1 a l.length cap (u32s l)] (fun _ : Unit => .bool true) (fun _ => []) := by
  refine spec_of_m Try.func8 rfl Try.ntmps8 rfl [(0, _), (1, _)] rfl ?_; intro base F l0 hl0; (try simp only [List.cons_append] at hl0); (try simp only [List.nil_append] at hl0); subst hl0
  by_cases hc : 60 < (l.length : Int)
  · repeat' (first | refine stx ?_ | refine And.intro ?_ ?_ | (intro e; exfalso; omega) | (intro e; subst e) | intro _)
    all_goals exact rmv1 () rfl
  · repeat' (first | refine stx ?_ | refine And.intro ?_ ?_ | (intro e; exfalso; omega) | (intro e; subst e) | intro _)
    rename_i b3 b4 p b5 b6
    refine tc_lp (ι := {x : Nat × List Nat × Option Addr × Nat // x.1 ≤ l.length ∧ x.2.1.length ≤ x.1}) [7] (fun e x => (7, .int .i64 (x.1.1 : Nat)) :: e)
      (fun x => [obj b6 33 [.slice x.1.2.2.1 x.1.2.1.length x.1.2.2.2], RoS 1 x.1.2.2.1 x.1.2.1.length x.1.2.2.2 (u32s x.1.2.1), obj b5 64 [.pointer (some ⟨p, 0, none⟩)], LruAt p x.1.2.1, obj b4 4 [.bool false], obj b3 5 [.int .u8 k], RoS 1 a l.length cap (u32s l), F])
      (fun x => l.length - x.1.1) ⟨(0, [], none, 0), by simp⟩ ?_ (hl := by show Ent _ [obj b6 33 [.slice none 0 0], RoS 1 none 0 0 [], obj b5 64 [.pointer (some ⟨p, 0, none⟩)], LruAt p [], obj b4 4 [.bool false], obj b3 5 [.int .u8 k], RoS 1 a l.length cap (u32s l), F]; exact en)
    rintro K ⟨⟨i, L, qa, qc⟩, hi, hL⟩ hK
    dsimp only at hi hL ⊢
    by_cases hc : i < l.length
    · have hx : l.getD i 0 < 4294967296 := hl _ (by rw [List.getD_eq_getElem?_getD, List.getElem?_eq_getElem hc]; exact List.getElem_mem hc)
      have hal := Lr.addL_len (L := L) (s := l.getD i 0)
      by_cases hb : l.getD i 0 < 5000
      · repeat' (first | ((fail_if_success (refine atD ?_)); refine stx ?_) | refine And.intro ?_ ?_ | (intro e; exfalso; omega) | (intro e; subst e) | intro _)
        refine drx [] ?_
        refine tks [0, 1, 2, 3, 4] 6 ?_; repeat' (first | refine stx ?_ | refine And.intro ?_ ?_ | (intro e; subst e) | intro _)
        refine hv 5 fun x5 => ?_
        refine tks [6, 7, 8, 9, 10] 0 ?_; repeat' (first | ((fail_if_success (refine atD ?_)); refine stx ?_) | refine And.intro ?_ ?_ | (intro e; exfalso; omega) | (intro e; subst e) | intro _)
        refine drx [LruAt p L] ?_
        refine tks [0, 1, 2, 6, 3, 4] 2 ?_; repeat' (first | refine stx ?_ | refine And.intro ?_ ?_ | (intro e; subst e) | intro _)
        refine hv 5 fun _ => ?_
        refine tks [7] 0 ?_; repeat' (first | refine stx ?_ | refine And.intro ?_ ?_ | (intro e; exfalso; omega) | (intro e; subst e) | intro _)
        exact again hK ⟨(i + 1, Lr.addL L (l.getD i 0), x5.1, x5.2), by omega, by dsimp only; omega⟩
      · repeat' (first | refine stx ?_ | refine And.intro ?_ ?_ | (intro e; exfalso; omega) | (intro e; subst e) | intro _)
        all_goals exact rmv1 () rfl
    · refine LruAt.factsC fun f1 f2 f3 => ?_
      repeat' (first | refine stx ?_ | refine And.intro ?_ ?_ | (intro e; exfalso; omega) | (intro e; subst e) | intro _)
      rename_i c b11
      refine TC.marks0 ?_
      refine tc_lpD (ι := {x : Nat × Nat × List Nat × List Nat // x.1 ≤ 2}) [11] (fun e x => (11, .pointer (some ⟨x.1.2.1, 0, none⟩)) :: e) (fun x => x.1.2.2.2.map coll)
        (fun x => [obj x.1.2.1 3 [.int .i64 (x.1.1 : Nat)], LruAt p x.1.2.2.1, Marks x.1.2.2.2, RoS 1 qa L.length qc (u32s L), SeqC c L, obj b6 33 [.slice qa L.length qc], obj b5 64 [.pointer (some ⟨p, 0, none⟩)], obj b4 4 [.bool false], obj b3 5 [.int .u8 k], F]) (fun x => 2 - x.1.1) ⟨(0, b11, L, []), by simp⟩ ?_ (hl := by dsimp only; rw [Int.natCast_zero]; exact en)
      rintro K2 ⟨⟨t, b11, G0, rbs⟩, ht⟩ hK2
      dsimp only at ht ⊢
      by_cases htc : t < 2
      · repeat' (first | refine stx ?_ | refine And.intro ?_ ?_ | (intro e; exfalso; omega) | (intro e; subst e) | intro _)
        rename_i b12
        have hx : (u32a L).length = L.length := by simp [u32a]
        refine tc_rangeFunc (xs := u32a L) (own := [SeqC c L]) (R := [Marks rbs, obj b4 4 [.bool false], RoS 1 qa L.length qc (u32s L), SeqC c L, F])
          (fun i => Exs (ι := List Nat) fun G => [obj b12 3 [.int .i64 (i : Nat)], LruAt p G, obj b5 64 [.pointer (some ⟨p, 0, none⟩)], obj b11 3 [.int .i64 (t : Nat)], obj b6 33 [.slice qa L.length qc], obj b3 5 [.int .u8 k], RoS 1 qa L.length qc (u32s L)])
          (fun i c => Exs (ι := List Nat) fun G => [fact (c = .exit 4 ∧ t = 0), obj b12 3 [.int .i64 (i + 1 : Nat)], LruAt p G, obj b5 64 [.pointer (some ⟨p, 0, none⟩)], obj b11 3 [.int .i64 (t : Nat)], obj b6 33 [.slice qa L.length qc], obj b3 5 [.int .u8 k], RoS 1 qa L.length qc (u32s L)])
          (seq_iter c _) rfl (by decide) (by intro a ha; simp only [u32a, List.mem_map] at ha; obtain ⟨_, _, rfl⟩ := ha; rfl) ?_ ?_ ?_ ?_
        · refine Ent.trans ?_ (Ent.exs G0 (Ent.refl _))
          simp only [List.cons_append, List.nil_append]
          rw [Int.natCast_zero]
          exact en
        · intro lp rec i x hst hpe ha base F
          have hi : i < L.length := by rw [← hx]; exact (List.getElem?_eq_some_iff.1 ha).1
          obtain rfl : x = [.int .u32 (L.getD i 0 : Nat)] := by rw [u32a_get hi] at ha; exact (Option.some.inj ha).symm
          refine TC.exs (f := fun G : List Nat => [obj b12 3 [.int .i64 (i : Nat)], LruAt p G, obj b5 64 [.pointer (some ⟨p, 0, none⟩)], obj b11 3 [.int .i64 (t : Nat)], obj b6 33 [.slice qa L.length qc], obj b3 5 [.int .u8 k], RoS 1 qa L.length qc (u32s L)]) (by (repeat (first | (with_reducible exact Rem.here _ _) | (with_reducible apply Rem.there) | fail)); done) fun G => ?_
          simp only [List.cons_append, List.nil_append, putsE]
          have hxs : L.getD i 0 < 4294967296 := by
            have := f2 (L.getD i 0) (by rw [List.getD_eq_getElem?_getD, List.getElem?_eq_getElem hi]; exact List.getElem_mem hi)
            omega
          repeat' (first | refine stx ?_ | refine And.intro ?_ ?_ | (intro e; exfalso; omega) | (intro e; subst e) | intro _)
          refine rb hst ?_
          repeat' (first | refine stx ?_ | refine And.intro ?_ ?_ | (intro e; exfalso; omega) | (intro e; subst e) | intro _)
          refine tl_q (opq_rem (by (first | exact want_none rfl | exact want_yes rfl rfl rfl rfl rfl | fail)) rfl rfl (by omega) (by omega)) rfl (Nat.lt_of_ble_eq rfl) ?_
          rcases Classical.em ((i : Int) % 2 = 0) with hpar | hpar
          · repeat' (first | refine stx ?_ | refine And.intro ?_ ?_ | (intro e; exfalso; omega) | (intro e; subst e) | intro _)
            all_goals first
              | (refine rp hst hpe ?_; refine Ent.cons (by (repeat (first | (with_reducible exact Rem.here _ _) | (with_reducible apply Rem.there) | fail)); done) (Ent.exs ((Lr.useL G (L.getD i 0)).erase (L.getD i 0)) ?_); rw [show ((i + 1 : Nat) : Int) = (i : Int) + 1 from rfl]; exact en)
              | (have hq : (True ∧ t = 0) := ⟨trivial, by omega⟩
                 refine rx ?_; refine Ent.cons (by (repeat (first | (with_reducible exact Rem.here _ _) | (with_reducible apply Rem.there) | fail)); done) (Ent.exs ((Lr.useL G (L.getD i 0)).erase (L.getD i 0)) ?_); rw [show ((i + 1 : Nat) : Int) = (i : Int) + 1 from rfl]; exact en)
          · repeat' (first | refine stx ?_ | refine And.intro ?_ ?_ | (intro e; exfalso; omega) | (intro e; subst e) | intro _)
            all_goals first
              | (refine rp hst hpe ?_; refine Ent.cons (by (repeat (first | (with_reducible exact Rem.here _ _) | (with_reducible apply Rem.there) | fail)); done) (Ent.exs (Lr.useL G (L.getD i 0)) ?_); rw [show ((i + 1 : Nat) : Int) = (i : Int) + 1 from rfl]; exact en)
              | (have hq : (True ∧ t = 0) := ⟨trivial, by omega⟩
                 refine rx ?_; refine Ent.cons (by (repeat (first | (with_reducible exact Rem.here _ _) | (with_reducible apply Rem.there) | fail)); done) (Ent.exs (Lr.useL G (L.getD i 0)) ?_); rw [show ((i + 1 : Nat) : Int) = (i : Int) + 1 from rfl]; exact en)
        · intro rb
          rw [hx]
          simp only [List.cons_append, List.nil_append]
          refine TK.exs (f := fun G : List Nat => [obj b12 3 [.int .i64 (L.length : Nat)], LruAt p G, obj b5 64 [.pointer (some ⟨p, 0, none⟩)], obj b11 3 [.int .i64 (t : Nat)], obj b6 33 [.slice qa L.length qc], obj b3 5 [.int .u8 k], RoS 1 qa L.length qc (u32s L)]) (by (repeat (first | (with_reducible exact Rem.here _ _) | (with_reducible apply Rem.there) | fail)); done) fun G => ?_
          simp only [List.cons_append, List.nil_append]
          by_cases h1 : t = 1
          all_goals (repeat' (first | refine stx ?_ | refine And.intro ?_ ?_ | (intro e; exfalso; omega) | (intro e; subst e) | intro _))
          all_goals (rename_i b2; refine TK.markC (rb := rb) (rbs := rbs) ?_; rw [show ((t : Int) + 1) = ((t + 1 : Nat) : Int) from rfl]; exact againD hK2 ⟨(t + 1, b2, G, rb :: rbs), by omega⟩)
        · intro rb i c
          simp only [List.cons_append, List.nil_append]
          refine TC.exs (f := fun G : List Nat => [fact (c = .exit 4 ∧ t = 0), obj b12 3 [.int .i64 (i + 1 : Nat)], LruAt p G, obj b5 64 [.pointer (some ⟨p, 0, none⟩)], obj b11 3 [.int .i64 (t : Nat)], obj b6 33 [.slice qa L.length qc], obj b3 5 [.int .u8 k], RoS 1 qa L.length qc (u32s L)]) (by (repeat (first | (with_reducible exact Rem.here _ _) | (with_reducible apply Rem.there) | fail)); done) fun G => ?_
          simp only [List.cons_append, List.nil_append]
          refine tc_factR (by (repeat (first | (with_reducible exact Rem.here _ _) | (with_reducible apply Rem.there) | fail)); done) ?_
          rintro ⟨rfl, h1⟩
          repeat' (first | refine stx ?_ | refine And.intro ?_ ?_ | (intro e; exfalso; omega) | (intro e; subst e) | intro _)
          all_goals (rename_i b2; refine TK.markC (rb := rb) (rbs := rbs) ?_; rw [show ((t : Int) + 1) = ((t + 1 : Nat) : Int) from rfl]; exact againD hK2 ⟨(t + 1, b2, G, rb :: rbs), by omega⟩)
      · repeat' (first | refine stx ?_ | refine And.intro ?_ ?_ | (intro e; exfalso; omega) | (intro e; subst e) | intro _)
        obtain rfl : t = 2 := by omega
        exact rmvM () rfl
end Go.Proofs.Ytbdiabakcgafgaa
