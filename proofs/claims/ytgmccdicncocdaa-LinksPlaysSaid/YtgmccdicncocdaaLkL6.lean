/- The laws of links, walked: a call on a field and on its reference. -/
import Derived.Test.YtgmccdicncocdaaLkL2
import Derived.Test.YtgmccdicncocdaaLkStep
import Derived.Test.YtgmccdicncocdaaSlFrame
namespace Go.Proofs.Ytgmccdicncocdaa
open Go.Sl Go.Lk
attribute [local irreducible] TK TL TC Th Bk Nx fnPost WA TQ OpQ OpN SpecH Rd Ent IterH RoundH Rb Rp fnPostM
attribute [local irreducible] Fld.addE Fld.addF Fld.befE Fld.befF Fld.inE Fld.remF Fld.first Fld.last Fld.next Fld.prev Fld.ofR Fld.listOf Fld.joinE Fld.joinF renE renG Fld.at Fld.set Fld.place
attribute [local irreducible] stepF
set_option maxRecDepth 20000 in
set_option maxHeartbeats 8000000 in
theorem step_spec (p : Nat) (f : Fld) (a : Option Addr) (c : Nat) (A : LAct) (ta : Option Addr) (tc : Nat) (w : Wf f) (hn : A.node < 4294967296) (hb : A.beside < 4294967296) (hto : ∀ x ∈ A.to, x < 4294967296) (htl : A.to.length ≤ 200) :
    SpecH Try.prog 32 #[.pointer (some ⟨p, 0, none⟩), .agg #[.int .i64 f.N, .slice a f.L.length c], .agg #[.int .i64 A.what, .int .i64 A.head, .int .i64 A.other, .int .u32 A.node, .int .u32 A.beside, .slice ta A.to.length tc]] [FieldAt p f, RF (.agg #[.int .i64 f.N, .slice a f.L.length c]) f, RU (.slice ta A.to.length tc) A.to]
      (fun q : Nat × Option Addr × Nat => .tuple #[.pointer (some ⟨q.1, 0, none⟩), .agg #[.int .i64 (stepF f A).N, .slice q.2.1 (stepF f A).L.length q.2.2], .bool true]) (fun q => [FieldAt q.1 (stepF f A), RF (.agg #[.int .i64 (stepF f A).N, .slice q.2.1 (stepF f A).L.length q.2.2]) (stepF f A)]) := by
  refine spec_of Try.func32 rfl Try.ntmps32 rfl [(0, _), (1, _), (2, _)] rfl ?_; intro base F l0 hl0; (try simp only [List.cons_append] at hl0); (try simp only [List.nil_append] at hl0); subst hl0
  have B := w.bnd
  by_cases c0 : A.what = 0
  · have hs : stepF f A = f.addF A.head A.node true := by unfold stepF;  rw [if_pos c0]
    simp only [hs, Fld.addF_keeps.1, Fld.addF_keeps.2]
    repeat' (first | ((fail_if_success (refine atD ?_)); refine st ?_) | refine And.intro ?_ ?_ | (intro e; exfalso; omega) | (intro e; subst e) | intro _)

    rename_i b7 qa qc b9
    (refine drx [FieldAt p f, obj b7 30 [.int .i64 0, .slice none 0 0]] ?_; refine tks [0, 1, 2, 3, 5, 8, 4, 6] 5 ?_; (repeat' (first | refine st ?_ | refine And.intro ?_ ?_ | (intro e; subst e) | intro _)); refine hv 7 fun _ => ?_; refine tks [9, 10] 2 ?_; (repeat' (first | refine st ?_ | refine And.intro ?_ ?_ | (intro e; subst e) | intro _)); refine hv0 11 fun _ => ?_; refine tks [12] 0 ?_; (repeat' (first | refine st ?_ | refine And.intro ?_ ?_ | (intro e; exfalso; omega) | (intro e; subst e) | intro _)))
    exact ram (p, qa, qc) rfl
  by_cases c1 : A.what = 1
  · have hs : stepF f A = f.addF A.head A.node false := by unfold stepF; rw [if_neg (by omega)]; rw [if_pos c1]
    simp only [hs, Fld.addF_keeps.1, Fld.addF_keeps.2]
    repeat' (first | ((fail_if_success (refine atD ?_)); refine st ?_) | refine And.intro ?_ ?_ | (intro e; exfalso; omega) | (intro e; subst e) | intro _)
    rename_i b7 qa qc b9
    (refine drx [FieldAt p f, obj b7 30 [.int .i64 0, .slice none 0 0]] ?_; refine tks [0, 1, 2, 3, 5, 8, 4, 6] 5 ?_; (repeat' (first | refine st ?_ | refine And.intro ?_ ?_ | (intro e; subst e) | intro _)); refine hv 7 fun _ => ?_; refine tks [9, 10] 2 ?_; (repeat' (first | refine st ?_ | refine And.intro ?_ ?_ | (intro e; subst e) | intro _)); refine hv0 11 fun _ => ?_; refine tks [12] 0 ?_; (repeat' (first | refine st ?_ | refine And.intro ?_ ?_ | (intro e; exfalso; omega) | (intro e; subst e) | intro _)))
    exact ram (p, qa, qc) rfl
  by_cases c2 : A.what = 2
  · have hs : stepF f A = f.befF A.node A.beside := by unfold stepF; rw [if_neg (by omega)]; rw [if_neg (by omega)]; rw [if_pos c2]
    simp only [hs, Fld.befF_keeps.1, Fld.befF_keeps.2]
    repeat' (first | ((fail_if_success (refine atD ?_)); refine st ?_) | refine And.intro ?_ ?_ | (intro e; exfalso; omega) | (intro e; subst e) | intro _)
    rename_i b7 qa qc b9
    (refine drx [FieldAt p f, obj b7 30 [.int .i64 0, .slice none 0 0]] ?_; refine tks [0, 1, 2, 3, 5, 8, 4, 6] 5 ?_; (repeat' (first | refine st ?_ | refine And.intro ?_ ?_ | (intro e; subst e) | intro _)); refine hv 7 fun _ => ?_; refine tks [9, 10] 2 ?_; (repeat' (first | refine st ?_ | refine And.intro ?_ ?_ | (intro e; subst e) | intro _)); refine hv0 11 fun _ => ?_; refine tks [12] 0 ?_; (repeat' (first | refine st ?_ | refine And.intro ?_ ?_ | (intro e; exfalso; omega) | (intro e; subst e) | intro _)))
    exact ram (p, qa, qc) rfl
  by_cases c3 : A.what = 3
  · have hs : stepF f A = f.remF A.node := by unfold stepF; rw [if_neg (by omega)]; rw [if_neg (by omega)]; rw [if_neg (by omega)]; rw [if_pos c3]
    simp only [hs, Fld.remF_keeps.1, Fld.remF_keeps.2]
    repeat' (first | ((fail_if_success (refine atD ?_)); refine st ?_) | refine And.intro ?_ ?_ | (intro e; exfalso; omega) | (intro e; subst e) | intro _)
    rename_i b7 qa qc b9
    (refine drx [FieldAt p f, obj b7 30 [.int .i64 0, .slice none 0 0]] ?_; refine tks [0, 1, 2, 3, 6, 4] 5 ?_; (repeat' (first | refine st ?_ | refine And.intro ?_ ?_ | (intro e; subst e) | intro _)); refine hv 5 fun _ => ?_; refine tks [7, 8] 2 ?_; (repeat' (first | refine st ?_ | refine And.intro ?_ ?_ | (intro e; subst e) | intro _)); refine hv0 9 fun _ => ?_; refine tks [10] 0 ?_; (repeat' (first | refine st ?_ | refine And.intro ?_ ?_ | (intro e; exfalso; omega) | (intro e; subst e) | intro _)))
    exact ram (p, qa, qc) rfl
  by_cases c4 : A.what = 4
  · have hs : stepF f A = f.joinF A.head A.other := by unfold stepF; rw [if_neg (by omega)]; rw [if_neg (by omega)]; rw [if_neg (by omega)]; rw [if_neg (by omega)]; rw [if_pos c4]
    simp only [hs, Fld.joinF_keeps.1, Fld.joinF_keeps.2]
    repeat' (first | ((fail_if_success (refine atD ?_)); refine st ?_) | refine And.intro ?_ ?_ | (intro e; exfalso; omega) | (intro e; subst e) | intro _)
    rename_i b7 qa qc b9
    (refine drx [FieldAt p f, obj b7 30 [.int .i64 0, .slice none 0 0]] ?_; refine tks [0, 1, 2, 3, 5, 8, 4, 6] 5 ?_; (repeat' (first | refine st ?_ | refine And.intro ?_ ?_ | (intro e; subst e) | intro _)); refine hv 7 fun _ => ?_; refine tks [9, 10] 2 ?_; (repeat' (first | refine st ?_ | refine And.intro ?_ ?_ | (intro e; subst e) | intro _)); refine hv0 11 fun _ => ?_; refine tks [12] 0 ?_; (repeat' (first | refine st ?_ | refine And.intro ?_ ?_ | (intro e; exfalso; omega) | (intro e; subst e) | intro _)))
    exact ram (p, qa, qc) rfl
  by_cases c5 : A.what = 5
  · by_cases c6 : 300 < A.other ∧ A.other ≤ 4194304
    · have hs : stepF f A = f := by unfold stepF; rw [if_neg (by omega)]; rw [if_neg (by omega)]; rw [if_neg (by omega)]; rw [if_neg (by omega)]; rw [if_neg (by omega)]; rw [if_pos c5]; rw [if_pos c6]
      simp only [hs]
      repeat' (first | ((fail_if_success (refine atD ?_)); refine st ?_) | refine And.intro ?_ ?_ | (intro e; exfalso; omega) | (intro e; subst e) | intro _)
      rename_i b7
      refine drx [obj b7 30 [.int .i64 0, .slice none 0 0]] ?_
      refine tks [0, 1, 2] 2 ?_; repeat' (first | refine st ?_ | refine And.intro ?_ ?_ | (intro e; subst e) | intro _)
      refine hv0 3 fun _ => ?_
      refine tks [4] 0 ?_; repeat' (first | refine st ?_ | refine And.intro ?_ ?_ | (intro e; exfalso; omega) | (intro e; subst e) | intro _)
      exact ram (p, a, c) rfl
    · have hs : stepF f A = renG f A.to A.other := by unfold stepF; rw [if_neg (by omega)]; rw [if_neg (by omega)]; rw [if_neg (by omega)]; rw [if_neg (by omega)]; rw [if_neg (by omega)]; rw [if_pos c5]; rw [if_neg c6]
      have hk := (renG_keeps (f := f) (to := A.to) (nodes := A.other)).1
      simp only [hs, hk]
      refine RU.openC (by (repeat (first | (with_reducible exact Rem.here _ _) | (with_reducible apply Rem.there) | fail)); done) fun a3 q3 e3 => ?_
      obtain ⟨rfl, rfl⟩ : ta = a3 ∧ tc = q3 := by simp at e3; exact e3
      have htl4 : A.to.length ≤ 4194304 := by omega
      repeat' (first | ((fail_if_success (refine atCall 28 ?_)); refine st ?_) | refine And.intro ?_ ?_ | (intro e; exfalso; omega) | (intro e; subst e) | intro _)
      all_goals
        rename_i b7 _ q1 q2 b19 oa oc
        refine call (spec_vecRo (E := 35) (ref_same.out oa ta A.to.length A.to.length oc tc (u32s A.to) (u32s A.to) A.to A.to ⟨rfl⟩ ⟨rfl⟩ rfl rfl htl4 htl4)) ?_
        repeat' (first | refine st ?_ | refine And.intro ?_ ?_ | (intro e; exfalso; omega) | (intro e; subst e) | intro _)
        obtain ⟨zs, hz, hzl⟩ : ∃ zs : List Int, u32s A.to = intsV .u32 zs ∧ zs.length = A.to.length := ⟨A.to.map fun n : Nat => (n : Int), by unfold u32s intsV; rw [List.map_map]; rfl, by simp⟩
        rw [hz]
        refine tc_lp (ι := {x : Nat × List Int // x.1 ≤ A.to.length ∧ x.2.length = A.to.length}) [23] (fun e x => (23, .int .i64 (x.1.1 : Nat)) :: e)
          (fun x => [Vec 35 1 oa A.to.length oc (intsV .u32 x.1.2), FieldAt p (renG f A.to A.other), obj b19 30 [.int .i64 (renG f A.to A.other).N, .slice q1 f.L.length q2], RF (.agg #[.int .i64 (renG f A.to A.other).N, .slice q1 f.L.length q2]) (renG f A.to A.other), obj b7 30 [.int .i64 0, .slice none 0 0], F]) (fun x => A.to.length - x.1.1) ⟨(0, zs), by simp, hzl⟩ ?_
        rintro K ⟨⟨i, ys⟩, hi, hy⟩ hK
        dsimp only at hi hy ⊢
        by_cases hc : i < A.to.length
        · repeat' (first | refine st ?_ | refine And.intro ?_ ?_ | (intro e; exfalso; omega) | (intro e; subst e) | intro _)
          exact again hK ⟨(i + 1, ys.set i (IntKind.u32.wrap (ys.getD i 0 + 1))), by omega, by simpa using hy⟩
        · repeat' (first | ((fail_if_success (refine atD ?_)); refine st ?_) | refine And.intro ?_ ?_ | (intro e; exfalso; omega) | (intro e; subst e) | intro _)
          refine drx [obj b7 30 [.int .i64 0, .slice none 0 0]] ?_
          refine tks [0, 1, 2, 3] 2 ?_; repeat' (first | refine st ?_ | refine And.intro ?_ ?_ | (intro e; subst e) | intro _)
          refine hv0 4 fun _ => ?_
          refine tks [5] 0 ?_; repeat' (first | refine st ?_ | refine And.intro ?_ ?_ | (intro e; exfalso; omega) | (intro e; subst e) | intro _)
          refine ram (v3 := .bool (decide (A.to = A.to))) (p, q1, q2) ?_
          rw [decide_eq_true (rfl : A.to = A.to)]
  · have hs : stepF f A = f := by unfold stepF; rw [if_neg (by omega)]; rw [if_neg (by omega)]; rw [if_neg (by omega)]; rw [if_neg (by omega)]; rw [if_neg (by omega)]; rw [if_neg (by omega)]
    simp only [hs]
    repeat' (first | ((fail_if_success (refine atD ?_)); refine st ?_) | refine And.intro ?_ ?_ | (intro e; exfalso; omega) | (intro e; subst e) | intro _)
    rename_i b7 b24
    refine drx [obj b7 30 [.int .i64 0, .slice none 0 0]] ?_
    refine tks [0, 1, 2, 3, 4] 2 ?_; repeat' (first | refine st ?_ | refine And.intro ?_ ?_ | (intro e; subst e) | intro _)
    refine hv0 5 fun _ => ?_
    refine tks [6] 0 ?_; repeat' (first | refine st ?_ | refine And.intro ?_ ?_ | (intro e; exfalso; omega) | (intro e; subst e) | intro _)
    exact ram (b24, a, c) rfl
end Go.Proofs.Ytgmccdicncocdaa
