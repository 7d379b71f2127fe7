/- The laws of links, walked: an iterator in a loop that stops early, and then again, while nodes are removed and added. -/
import Derived.Test.YtgmccdicncocdaaLkL2
import Derived.Test.YtgmccdicncocdaaSlLoop
namespace Go.Proofs.Ytgmccdicncocdaa
open Go.Sl Go.Lk
attribute [local irreducible] TK TL TC Th Bk Nx fnPost WA TQ OpQ OpN SpecH Rd Ent IterH RoundH Rb Rp fnPostM
attribute [local irreducible] Fld.addE Fld.addF Fld.befE Fld.befF Fld.inE Fld.remF Fld.first Fld.last Fld.next Fld.prev Fld.ofR Fld.listOf Fld.joinE Fld.joinF renE renG Fld.at Fld.set Fld.place
set_option maxRecDepth 20000 in
set_option maxHeartbeats 8000000 in
theorem iterates_spec (nodes : Int) (a : Option Addr) (cap : Nat) (l : List Nat) (k : Nat) (hl : ∀ x ∈ l, x < 4294967296) (hk : k ≤ 255) : SpecH Try.prog 3 #[.int .i64 nodes, .slice a l.length cap, .int .u8 (k : Int)] [RoS 1 a l.length cap (u32s l)] (fun _ : Unit => .bool true) (fun _ => []) := by
  refine spec_of_m Try.func3 rfl Try.ntmps3 rfl [(0, _), (1, _), (2, _)] rfl ?_; intro base F l0 hl0; (try simp only [List.cons_append] at hl0); (try simp only [List.nil_append] at hl0); subst hl0
  by_cases hk : nodes < 1 ∨ 60 < nodes ∨ 60 < (l.length : Int)
  · repeat' (first | refine st ?_ | refine And.intro ?_ ?_ | (intro e; exfalso; omega) | (intro e; subst e) | intro _)
    all_goals exact rmv1 () rfl
  · obtain ⟨N, rfl⟩ : ∃ N : Nat, nodes = N := ⟨nodes.toNat, by omega⟩
    repeat' (first | refine st ?_ | refine And.intro ?_ ?_ | (intro e; exfalso; omega) | (intro e; subst e) | intro _)
    rename_i b5 b6 p b7 qa qc b9
    refine tc_lp (ι := {x : Nat × Fld × Option Addr × Nat // x.1 ≤ l.length ∧ Wf x.2.1 ∧ x.2.1.N = N ∧ x.2.1.L.length = 2}) [11] (fun e x => (11, .int .i64 (x.1.1 : Nat)) :: e)
      (fun x => [obj b9 30 [.int .i64 N, .slice x.1.2.2.1 2 x.1.2.2.2], RF (.agg #[.int .i64 N, .slice x.1.2.2.1 2 x.1.2.2.2]) x.1.2.1, obj b7 24 [.pointer (some ⟨p, 0, none⟩)], FieldAt p x.1.2.1, obj b6 4 [.bool false], obj b5 5 [.int .u8 k], RoS 1 a l.length cap (u32s l), F])
      (fun x => l.length - x.1.1) ⟨(0, ⟨N, List.replicate 2 []⟩, qa, qc), by simp, Wf.new (by omega) (by omega) (by omega) (by omega), rfl, rfl⟩ ?_
    rintro K ⟨⟨i, f, qa, qc⟩, hi, w, hN, hM⟩ hK
    dsimp only at hi w hN hM ⊢
    have B := w.bnd
    have hln := w.len_le 0
    by_cases hc : i < l.length
    · have hx : l.getD i 0 < 4294967296 := hl _ (by rw [List.getD_eq_getElem?_getD, List.getElem?_eq_getElem hc]; exact List.getElem_mem hc)
      repeat' (first | refine st ?_ | refine And.intro ?_ ?_ | (intro e; exfalso; omega) | (intro e; subst e) | intro _)
      refine drx [] ?_
      refine tks [0, 1, 2, 3, 4] 7 ?_; repeat' (first | refine st ?_ | refine And.intro ?_ ?_ | (intro e; subst e) | intro _)
      refine hv2 5 9 (fun q => ?_) (fun b12 => ?_)
      · refine tks [6, 7, 8] 3 ?_; repeat' (first | refine st ?_ | refine And.intro ?_ ?_ | (intro e; subst e) | intro _)
        refine hv 9 fun b12 => ?_
        refine hv0 10 fun _ => ?_
        refine tks [11] 0 ?_; repeat' (first | ((fail_if_success (refine atD ?_)); refine st ?_) | refine And.intro ?_ ?_ | (intro e; exfalso; omega) | (intro e; subst e) | intro _)
        refine drx [FieldAt p f] ?_
        refine tks [0, 1, 2, 6, 3, 4] 2 ?_; repeat' (first | refine st ?_ | refine And.intro ?_ ?_ | (intro e; subst e) | intro _)
        refine hv 5 fun _ => ?_
        refine tks [7] 0 ?_; repeat' (first | refine st ?_ | refine And.intro ?_ ?_ | (intro e; exfalso; omega) | (intro e; subst e) | intro _)
        simp only [hN, hM]
        exact again hK ⟨(i + 1, f.addF 0 (l.getD i 0) false, q.1, q.2), by omega, w.addF _ _ _, Fld.addF_N.trans hN, Fld.addF_len.trans hM⟩
      · refine hv 5 fun q => ?_
        refine tks [6, 7, 8] 2 ?_; repeat' (first | refine st ?_ | refine And.intro ?_ ?_ | (intro e; subst e) | intro _)
        refine hv0 10 fun _ => ?_
        refine tks [11] 0 ?_; repeat' (first | ((fail_if_success (refine atD ?_)); refine st ?_) | refine And.intro ?_ ?_ | (intro e; exfalso; omega) | (intro e; subst e) | intro _)
        refine drx [FieldAt p f] ?_
        refine tks [0, 1, 2, 6, 3, 4] 2 ?_; repeat' (first | refine st ?_ | refine And.intro ?_ ?_ | (intro e; subst e) | intro _)
        refine hv 5 fun _ => ?_
        refine tks [7] 0 ?_; repeat' (first | refine st ?_ | refine And.intro ?_ ?_ | (intro e; exfalso; omega) | (intro e; subst e) | intro _)
        simp only [hN, hM]
        exact again hK ⟨(i + 1, f.addF 0 (l.getD i 0) false, q.1, q.2), by omega, w.addF _ _ _, Fld.addF_N.trans hN, Fld.addF_len.trans hM⟩
    · repeat' (first | refine st ?_ | refine And.intro ?_ ?_ | (intro e; exfalso; omega) | (intro e; subst e) | intro _)
      rename_i c b15
      refine RF.openC (by (repeat (first | (with_reducible exact Rem.here _ _) | (with_reducible apply Rem.there) | fail)); done) fun qa2 qc2 vs hv hvl => ?_
      refine RF.rowC (h := 0) (by (repeat (first | (with_reducible exact Rem.here _ _) | (with_reducible apply Rem.there) | fail)); done) (by omega) hvl fun a0 c0 hv0 => ?_
      obtain ⟨rfl, rfl⟩ : qa = qa2 ∧ qc = qc2 := by simp at hv; exact ⟨hv.2.1, hv.2.2.2⟩
      have hl0 : f.listOf 0 = f.at 0 := listOf_nat f 0
      rw [hl0, hM]
      refine TC.marks0 ?_
      refine tc_lpD (ι := {x : Nat × Nat × Fld × List Nat // x.1 ≤ 2}) [15] (fun e x => (15, .pointer (some ⟨x.1.2.1, 0, none⟩)) :: e) (fun x => x.1.2.2.2.map coll)
        (fun x => [obj x.1.2.1 3 [.int .i64 (x.1.1 : Nat)], FieldAt p x.1.2.2.1, Marks x.1.2.2.2, RoS 1 a0 (f.at 0).length c0 (u32s (f.at 0)), RoS 1 qa 2 qc vs, SeqC c (f.at 0), obj b9 30 [.int .i64 N, .slice qa 2 qc], obj b7 24 [.pointer (some ⟨p, 0, none⟩)], obj b6 4 [.bool false], obj b5 5 [.int .u8 k], F]) (fun x => 2 - x.1.1) ⟨(0, b15, f, []), by simp⟩ ?_ (hl := by dsimp only; rw [Int.natCast_zero]; exact en)
      rintro K2 ⟨⟨t, b15, g, rbs⟩, ht⟩ hK2
      dsimp only at ht ⊢
      by_cases htc : t < 2
      · repeat' (first | refine st ?_ | refine And.intro ?_ ?_ | (intro e; exfalso; omega) | (intro e; subst e) | intro _)
        rename_i b16
        have hx : (u32a (f.at 0)).length = (f.at 0).length := by simp [u32a]
        refine tc_rangeFunc (xs := u32a (f.at 0)) (own := [SeqC c (f.at 0)]) (R := [Marks rbs, obj b6 4 [.bool false], RoS 1 a0 (f.at 0).length c0 (u32s (f.at 0)), RoS 1 qa 2 qc vs, SeqC c (f.at 0), F])
          (fun i => Exs (ι := Fld) fun g => [obj b16 3 [.int .i64 (i : Nat)], FieldAt p g, obj b7 24 [.pointer (some ⟨p, 0, none⟩)], obj b15 3 [.int .i64 (t : Nat)], obj b9 30 [.int .i64 N, .slice qa 2 qc], obj b5 5 [.int .u8 k], RoS 1 a0 (f.at 0).length c0 (u32s (f.at 0)), RoS 1 qa 2 qc vs])
          (fun i c => Exs (ι := Fld) fun g => [fact (c = .exit 4 ∧ t = 0), obj b16 3 [.int .i64 (i + 1 : Nat)], FieldAt p g, obj b7 24 [.pointer (some ⟨p, 0, none⟩)], obj b15 3 [.int .i64 (t : Nat)], obj b9 30 [.int .i64 N, .slice qa 2 qc], obj b5 5 [.int .u8 k], RoS 1 a0 (f.at 0).length c0 (u32s (f.at 0)), RoS 1 qa 2 qc vs])
          (seq_iter c _) rfl (by decide) (by intro a ha; simp only [u32a, List.mem_map] at ha; obtain ⟨_, _, rfl⟩ := ha; rfl) ?_ ?_ ?_ ?_
        · refine Ent.trans ?_ (Ent.exs g (Ent.refl _))
          simp only [List.cons_append, List.nil_append]
          rw [Int.natCast_zero]
          exact en
        · intro lp rec i x hst hpe ha base F
          have hi : i < (f.at 0).length := by rw [← hx]; exact (List.getElem?_eq_some_iff.1 ha).1
          obtain rfl : x = [.int .u32 ((f.at 0).getD i 0 : Nat)] := by rw [u32a_get hi] at ha; exact (Option.some.inj ha).symm
          have hlt : (f.at 0).getD i 0 < 4294967296 := by
            rw [List.getD_eq_getElem?_getD, List.getElem?_eq_getElem hi]
            have := w.lt (h := 0) (by omega) (List.getElem_mem hi)
            simp only [Option.getD_some]; omega
          refine TC.exs (f := fun g : Fld => [obj b16 3 [.int .i64 (i : Nat)], FieldAt p g, obj b7 24 [.pointer (some ⟨p, 0, none⟩)], obj b15 3 [.int .i64 (t : Nat)], obj b9 30 [.int .i64 N, .slice qa 2 qc], obj b5 5 [.int .u8 k], RoS 1 a0 (f.at 0).length c0 (u32s (f.at 0)), RoS 1 qa 2 qc vs]) (by (repeat (first | (with_reducible exact Rem.here _ _) | (with_reducible apply Rem.there) | fail)); done) fun g => ?_
          simp only [List.cons_append, List.nil_append, putsE]
          repeat' (first | refine st ?_ | refine And.intro ?_ ?_ | (intro e; exfalso; omega) | (intro e; subst e) | intro _)
          refine rb hst ?_
          repeat' (first | refine st ?_ | refine And.intro ?_ ?_ | (intro e; exfalso; omega) | (intro e; subst e) | intro _)
          all_goals first
            | (refine rp hst hpe ?_; refine Ent.cons (by (repeat (first | (with_reducible exact Rem.here _ _) | (with_reducible apply Rem.there) | fail)); done) (Ent.exs ((g.remF ((f.at 0).getD i 0)).addF 1 ((f.at 0).getD i 0) true) ?_); rw [show ((i + 1 : Nat) : Int) = (i : Int) + 1 from rfl]; exact en)
            | (have hq : (True ∧ t = 0) := ⟨trivial, by omega⟩
               refine rx ?_; refine Ent.cons (by (repeat (first | (with_reducible exact Rem.here _ _) | (with_reducible apply Rem.there) | fail)); done) (Ent.exs ((g.remF ((f.at 0).getD i 0)).addF 1 ((f.at 0).getD i 0) true) ?_); rw [show ((i + 1 : Nat) : Int) = (i : Int) + 1 from rfl]; exact en)
        · intro rb
          rw [hx]
          simp only [List.cons_append, List.nil_append]
          refine TK.exs (f := fun g : Fld => [obj b16 3 [.int .i64 ((f.at 0).length : Nat)], FieldAt p g, obj b7 24 [.pointer (some ⟨p, 0, none⟩)], obj b15 3 [.int .i64 (t : Nat)], obj b9 30 [.int .i64 N, .slice qa 2 qc], obj b5 5 [.int .u8 k], RoS 1 a0 (f.at 0).length c0 (u32s (f.at 0)), RoS 1 qa 2 qc vs]) (by (repeat (first | (with_reducible exact Rem.here _ _) | (with_reducible apply Rem.there) | fail)); done) fun g => ?_
          simp only [List.cons_append, List.nil_append]
          by_cases h1 : t = 1
          all_goals (repeat' (first | refine st ?_ | refine And.intro ?_ ?_ | (intro e; exfalso; omega) | (intro e; subst e) | intro _))
          all_goals (rename_i b2; refine TK.markC (rb := rb) (rbs := rbs) ?_; rw [show ((t : Int) + 1) = ((t + 1 : Nat) : Int) from rfl]; exact againD hK2 ⟨(t + 1, b2, g, rb :: rbs), by omega⟩)
        · intro rb i c
          simp only [List.cons_append, List.nil_append]
          refine TC.exs (f := fun g : Fld => [fact (c = .exit 4 ∧ t = 0), obj b16 3 [.int .i64 (i + 1 : Nat)], FieldAt p g, obj b7 24 [.pointer (some ⟨p, 0, none⟩)], obj b15 3 [.int .i64 (t : Nat)], obj b9 30 [.int .i64 N, .slice qa 2 qc], obj b5 5 [.int .u8 k], RoS 1 a0 (f.at 0).length c0 (u32s (f.at 0)), RoS 1 qa 2 qc vs]) (by (repeat (first | (with_reducible exact Rem.here _ _) | (with_reducible apply Rem.there) | fail)); done) fun g => ?_
          simp only [List.cons_append, List.nil_append]
          refine tc_factR (by (repeat (first | (with_reducible exact Rem.here _ _) | (with_reducible apply Rem.there) | fail)); done) ?_
          rintro ⟨rfl, h1⟩
          repeat' (first | refine st ?_ | refine And.intro ?_ ?_ | (intro e; exfalso; omega) | (intro e; subst e) | intro _)
          all_goals (rename_i b2; refine TK.markC (rb := rb) (rbs := rbs) ?_; rw [show ((t : Int) + 1) = ((t + 1 : Nat) : Int) from rfl]; exact againD hK2 ⟨(t + 1, b2, g, rb :: rbs), by omega⟩)
      · repeat' (first | refine st ?_ | refine And.intro ?_ ?_ | (intro e; exfalso; omega) | (intro e; subst e) | intro _)
        obtain rfl : t = 2 := by omega
        exact rmvM () rfl
end Go.Proofs.Ytgmccdicncocdaa
