/- segment, walked: slots that are demoted. -/
import Derived.Test.YtbkpojlbclehaaaSgW2
import Derived.Test.YtbkpojlbclehaaaSlCv
namespace Go.Sg
open Go.Sl
theorem drop_cons {T : List It} {i : Nat} {L : Int} (h : need L (T.drop i)) : ∃ k c R, T.drop i = (k, c) :: R ∧ T.drop (i + 1) = R ∧ T.take (i + 1) = T.take i ++ [(k, c)] := by
  have h1 : i < T.length := by
    refine Nat.lt_of_not_le fun h2 => h.1 (List.drop_eq_nil_of_le h2)
  refine ⟨T[i].1, T[i].2, T.drop (i + 1), List.drop_eq_getElem_cons h1, rfl, ?_⟩
  rw [List.take_succ_eq_append_getElem h1]
theorem rm_head {R : List It} {k c : Nat} (h : k ∉ sl R) : rm ((k, c) :: R) k = R := by
  unfold rm
  rw [List.filter_cons_of_neg (by simp)]
  exact rm_none h
theorem u32s_snocS {A : List Nat} {x : Nat} : Lk.u32s (A ++ [x]) = Lk.u32s A ++ [.int .u32 (x : Nat)] := by simp [Lk.u32s]
end Go.Sg
namespace Go.Proofs.Ytbkpojlbclehaaa
open Go.Lk Go.Sl Go.Lr Go.Sg
attribute [local irreducible] TK TL TC Th Bk Nx fnPost WA TQ OpQ OpN SpecH Rd Ent IterH RoundH Rb Rp fnPostM
attribute [local irreducible] Fld.addE Fld.addF Fld.befE Fld.befF Fld.inE Fld.remF Fld.first Fld.last Fld.next Fld.prev Fld.ofR Fld.listOf Fld.joinE Fld.joinF renE renG Fld.at Fld.set Fld.place
attribute [local irreducible] Lr.addL Lr.addE Lr.useL Lr.remE Sg.sm Sg.sl Sg.rm Sg.demN
set_option maxHeartbeats 4000000 in
theorem sg_needed (b p : Nat) (P T : List It) (L : Int) (q : Bool) (hq : decide (need L T) = q) : SpecH Try.prog 90 #[.pointer (some ⟨b, 0, none⟩)] [obj b 22 [.pointer (some ⟨p, 0, none⟩)], SegX p P T L] (fun _ : Unit => .bool q) (fun _ => [obj b 22 [.pointer (some ⟨p, 0, none⟩)], SegX p P T L]) := by
  refine spec_of Try.func90 rfl Try.ntmps90 rfl [(0, _)] rfl ?_; intro base F l0 hl0; (try simp only [List.cons_append] at hl0); (try simp only [List.nil_append] at hl0); subst hl0
  refine SegX.openC fun l0 l1 m kv iv cm => ?_
  obtain ⟨s1, s2⟩ := iv.sums
  have hl := sl_len (l := T)
  have hlim := iv.lim
  dsimp only at hlim
  by_cases h0 : T = []
  · subst h0
    rw [decide_eq_false (fun h => h.1 rfl)] at hq
    subst hq
    rw [List.length_nil] at hl
    repeat' (first | ((fail_if_success (refine atD ?_)); refine stw ?_) | refine And.intro ?_ ?_ | (intro e; exfalso; omega) | (intro e; subst e) | intro _)
    refine drx [LruAt l1 (sl [])] ?_
    refine tks [0, 1, 2, 3, 4] 22 ?_; repeat' (first | refine stw ?_ | refine And.intro ?_ ?_ | (intro e; exfalso; omega) | (intro e; subst e) | intro _)
    refine hv 5 fun x5 => ?_
    refine tks [6, 7, 8, 9, 10, 11, 12, 13, 14, 19, 15, 20, 16, 21, 17, 22, 18, 23, 24, 25, 26] 0 ?_; repeat' (first | refine stw ?_ | refine And.intro ?_ ?_ | (intro e; exfalso; omega) | (intro e; subst e) | intro _)
    all_goals exact rt1 () rfl (he := (en2 (SegX.shut iv cm)).trans en)
  · have hpos := List.length_pos_iff.2 h0
    by_cases h1 : L = -1
    · have hd : need L T := ⟨h0, .inl h1⟩
      rw [decide_eq_true hd] at hq
      subst hq
      repeat' (first | ((fail_if_success (refine atD ?_)); refine stw ?_) | refine And.intro ?_ ?_ | (intro e; exfalso; omega) | (intro e; subst e) | intro _)
      refine drx [LruAt l1 (sl T)] ?_
      refine tks [0, 1, 2, 3, 4] 22 ?_; repeat' (first | refine stw ?_ | refine And.intro ?_ ?_ | (intro e; exfalso; omega) | (intro e; subst e) | intro _)
      refine hv 5 fun x5 => ?_
      refine tks [6, 7, 8, 9, 10, 11, 12, 13, 14, 19, 15, 20, 16, 21, 17, 22, 18, 23, 24, 25, 26] 0 ?_; repeat' (first | refine stw ?_ | refine And.intro ?_ ?_ | (intro e; exfalso; omega) | (intro e; subst e) | intro _)
      all_goals exact rt1 () rfl (he := (en2 (SegX.shut iv cm)).trans en)
    · by_cases h2 : L < (sm T : Nat)
      · have hd : need L T := ⟨h0, .inr h2⟩
        rw [decide_eq_true hd] at hq
        subst hq
        repeat' (first | ((fail_if_success (refine atD ?_)); refine stw ?_) | refine And.intro ?_ ?_ | (intro e; exfalso; omega) | (intro e; subst e) | intro _)
        refine drx [LruAt l1 (sl T)] ?_
        refine tks [0, 1, 2, 3, 4] 22 ?_; repeat' (first | refine stw ?_ | refine And.intro ?_ ?_ | (intro e; exfalso; omega) | (intro e; subst e) | intro _)
        refine hv 5 fun x5 => ?_
        refine tks [6, 7, 8, 9, 10, 11, 12, 13, 14, 19, 15, 20, 16, 21, 17, 22, 18, 23, 24, 25, 26] 0 ?_; repeat' (first | refine stw ?_ | refine And.intro ?_ ?_ | (intro e; exfalso; omega) | (intro e; subst e) | intro _)
        all_goals exact rt1 () rfl (he := (en2 (SegX.shut iv cm)).trans en)
      · rw [decide_eq_false (fun h : need L T => h.2.elim h1 h2)] at hq
        subst hq
        repeat' (first | ((fail_if_success (refine atD ?_)); refine stw ?_) | refine And.intro ?_ ?_ | (intro e; exfalso; omega) | (intro e; subst e) | intro _)
        refine drx [LruAt l1 (sl T)] ?_
        refine tks [0, 1, 2, 3, 4] 22 ?_; repeat' (first | refine stw ?_ | refine And.intro ?_ ?_ | (intro e; exfalso; omega) | (intro e; subst e) | intro _)
        refine hv 5 fun x5 => ?_
        refine tks [6, 7, 8, 9, 10, 11, 12, 13, 14, 19, 15, 20, 16, 21, 17, 22, 18, 23, 24, 25, 26] 0 ?_; repeat' (first | refine stw ?_ | refine And.intro ?_ ?_ | (intro e; exfalso; omega) | (intro e; subst e) | intro _)
        all_goals exact rt1 () rfl (he := (en2 (SegX.shut iv cm)).trans en)
set_option maxHeartbeats 8000000 in
instance sg_demote : Known Try.prog 59 (∀ (p : Nat) (P T : List It) (L : Int), SpecH Try.prog 59 #[.pointer (some ⟨p, 0, none⟩)] [SegX p P T L] (fun q : Option Addr × Nat => .slice q.1 (demN L T) q.2) (fun q => [SegX p (P ++ T.take (demN L T)) (T.drop (demN L T)) L, RoS 1 q.1 (demN L T) q.2 (u32s (sl (T.take (demN L T))))])) := ⟨fun p P T L => by
  refine spec_of Try.func59 rfl Try.ntmps59 rfl [(0, _)] rfl ?_; intro base F l0 hl0; (try simp only [List.cons_append] at hl0); (try simp only [List.nil_append] at hl0); subst hl0
  refine SegX.factsC fun iv0 hP hT => ?_
  have hd := demN_le (L := L) (T := T)
  repeat' (first | refine stw ?_ | refine And.intro ?_ ?_ | (intro e; exfalso; omega) | (intro e; subst e) | intro _)
  rename_i b
  refine tc_lp (ι := {x : Nat × Option Addr × Nat // x.1 ≤ demN L T}) [4] (fun e x => (4, .slice x.1.2.1 x.1.1 x.1.2.2) :: e)
    (fun x => [obj b 22 [.pointer (some ⟨p, 0, none⟩)], SegX p (P ++ T.take x.1.1) (T.drop x.1.1) L, Vec 34 1 x.1.2.1 x.1.1 x.1.2.2 (u32s (sl (T.take x.1.1))), F]) (fun x => demN L T - x.1.1) ⟨(0, none, 0), by omega⟩ ?_
    (hl := by dsimp only; rw [List.take_zero, List.drop_zero, List.append_nil, sl_nil]; show Ent _ [obj b 22 [.pointer (some ⟨p, 0, none⟩)], SegX p P T L, Vec 34 1 none 0 0 [], F]; exact en)
  rintro K ⟨⟨i, a, c⟩, hi⟩ hK
  dsimp only at hi ⊢
  have hn := demN_need (L := L) (T := T) hi
  by_cases hc : i < demN L T
  · have hneed := hn.2 hc
    obtain ⟨k, w, R, hR, hR2, hR3⟩ := drop_cons hneed
    have hsp := sg_needed b p (P ++ T.take i) (T.drop i) L true (decide_eq_true hneed)
    repeat' (first | refine stw ?_ | refine And.intro ?_ ?_ | (intro e; exfalso; omega) | (intro e; subst e) | intro _)
    refine callV hsp ?_
    repeat' (first | refine stw ?_ | refine And.intro ?_ ?_ | (intro e; exfalso; omega) | (intro e; subst e) | intro _)
    rw [hR]
    refine SegX.openL fun l0 l1 m kv iv cm => ?_
    have hm := cm.yes (k := k) (c := w) (.inr (by simp))
    obtain ⟨n1, n2, n3⟩ := iv.parts
    obtain ⟨hk, hw⟩ := iv.lt (k, w) (.inr (by simp))
    have nP : k ∉ sl (P ++ T.take i) := fun h => n3 k h (by rw [sl_cons]; simp)
    have nR : k ∉ sl R := by rw [sl_cons, List.nodup_cons] at n2; exact n2.1
    haveI : Known Try.prog 48 (∀ q : Nat, SpecH Try.prog 48 #[.pointer (some ⟨q, 0, none⟩)] [LruAt q (sl ((k, w) :: R))] (fun _ : Unit => .tuple #[.int .u32 (k : Nat), .int .i64 0]) (fun _ => [LruAt q (sl ((k, w) :: R))])) := ⟨fun q => by
      have h := lr_oldest.out q (sl ((k, w) :: R))
      rw [if_neg (by rw [sl_cons]; simp)] at h
      have e : (sl ((k, w) :: R)).headD 0 = k := by rw [sl_cons]; rfl
      rwa [e] at h⟩
    have hin : InS (P ++ T.take i) ((k, w) :: R) k true := ⟨decide_eq_true (.inr (by rw [sl_cons]; simp))⟩
    have hput : PutTo 0 (P ++ T.take i) R k w (P ++ T.take (i + 1)) R := ⟨.inl ⟨rfl, by rw [hR3, List.append_assoc], rfl⟩, nP, nR⟩
    repeat' (first | ((fail_if_success (refine atCall 58 ?_)); refine stw ?_) | refine And.intro ?_ ?_ | (intro e; exfalso; omega) | (intro e; subst e) | intro _)
    refine TL.ent (en2 (SegX.shut iv cm)) ?_
    repeat' (first | ((fail_if_success (refine atCall 57 ?_)); refine stw ?_) | refine And.intro ?_ ?_ | (intro e; exfalso; omega) | (intro e; subst e) | intro _)
    rw [rm_none nP, rm_head nR]
    repeat' (first | refine stw ?_ | refine And.intro ?_ ?_ | (intro e; exfalso; omega) | (intro e; subst e) | intro _)
    rename_i _ a2 c2
    have e1 : sl (T.take (i + 1)) = sl (T.take i) ++ [k] := by rw [hR3, sl_append, sl_one]
    rw [← u32s_snocS, ← e1, ← hR2]
    exact again hK ⟨(i + 1, a2, c2), by omega⟩
  · have hsp := sg_needed b p (P ++ T.take i) (T.drop i) L false (decide_eq_false (fun h => hc (hn.1 h)))
    obtain rfl : i = demN L T := by omega
    repeat' (first | refine stw ?_ | refine And.intro ?_ ?_ | (intro e; exfalso; omega) | (intro e; subst e) | intro _)
    refine callV hsp ?_
    repeat' (first | refine stw ?_ | refine And.intro ?_ ?_ | (intro e; exfalso; omega) | (intro e; subst e) | intro _)
    refine frz a ?_
    exact rt1 (a, c) rfl⟩
end Go.Proofs.Ytbkpojlbclehaaa
