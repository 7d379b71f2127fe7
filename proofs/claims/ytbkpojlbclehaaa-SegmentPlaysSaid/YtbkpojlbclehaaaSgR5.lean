/- The reference of segment, walked: Add, Remove, Use, Set. -/
import Derived.Test.YtbkpojlbclehaaaSgR4
import Derived.Test.YtbkpojlbclehaaaSgL5
import Derived.Test.YtbkpojlbclehaaaSlEnd2
namespace Go.Sg
open Go.Sl
theorem cut_rm {X : List It} {k m : Nat} (hn : (sl X).Nodup) (hm : m < X.length) (he : (X.getD m (0, 0)).1 = k) : X.take m ++ X.drop (m + 1) = rm X k := by
  have e1 : X = X.take m ++ X.getD m (0, 0) :: X.drop (m + 1) := by
    rw [List.getD_eq_getElem?_getD, List.getElem?_eq_getElem hm, Option.getD_some, ← List.drop_eq_getElem_cons hm, List.take_append_drop]
  have h2 := hn
  rw [e1, sl_append, sl_cons, he, List.nodup_append, List.nodup_cons] at h2
  obtain ⟨_, ⟨h3, _⟩, h4⟩ := h2
  have h5 : k ∉ sl (X.take m) := fun h => h4 k h k (by simp) rfl
  have e2 : rm X k = rm (X.take m) k ++ rm (X.getD m (0, 0) :: X.drop (m + 1)) k := by
    unfold rm
    rw [← List.filter_append, ← e1]
  rw [e2, rm_none h5]
  have e3 : rm (X.getD m (0, 0) :: X.drop (m + 1)) k = rm (X.drop (m + 1)) k := by
    unfold rm
    rw [List.filter_cons_of_neg (by simpa using he)]
  rw [e3, rm_none h3]
section
variable {P T P' T' : List It} {L L' z e : Int} {k : Nat} {G : List Nat}
/-- Where a slot is, and the order without it. -/
theorem find_case (iv : Inv ⟨P, T, L⟩) (k : Nat) : (¬ isIn ⟨P, T, L⟩ k ∧ FindR P T k (-1) (-1)) ∨ (isIn ⟨P, T, L⟩ k ∧ ∃ g i : Int, 0 ≤ g ∧ g ≤ 1 ∧ FindR P T k g i ∧ OOut g i P T (rm P k) (rm T k)) := by
  obtain ⟨n1, n2, n3⟩ := iv.parts
  by_cases hp : k ∈ sl P
  · obtain ⟨m, m1, m2, m3⟩ := first_at hp
    exact .inr ⟨.inl hp, 0, m, by omega, by omega, ⟨.inr (.inl ⟨rfl, m, rfl, m1, m2, m3⟩)⟩, ⟨m, rfl, .inl ⟨rfl, m1, (cut_rm n1 m1 m2).symm, rm_none (n3 k hp)⟩⟩⟩
  by_cases ht : k ∈ sl T
  · obtain ⟨m, m1, m2, m3⟩ := first_at ht
    exact .inr ⟨.inr ht, 1, m, by omega, by omega, ⟨.inr (.inr ⟨rfl, hp, m, rfl, m1, m2, m3⟩)⟩, ⟨m, rfl, .inr ⟨rfl, m1, rm_none hp, (cut_rm n2 m1 m2).symm⟩⟩⟩
  · exact .inl ⟨fun h => h.elim hp ht, ⟨.inl ⟨rfl, rfl, hp, ht⟩⟩⟩
theorem AddTo.bad (u : AddTo P T L k z P' T' e) (h : ¬ fair k z) : P' = P ∧ T' = T ∧ e = 2 :=
  ⟨u.p.symm.trans (by unfold addS; rw [if_neg (fun x => h x.1)]), u.t.symm.trans (by unfold addS; rw [if_neg (fun x => h x.1)]), u.e.symm.trans (if_pos h)⟩
theorem AddTo.busy (u : AddTo P T L k z P' T' e) (h : fair k z) (h2 : isIn ⟨P, T, L⟩ k) : P' = P ∧ T' = T ∧ e = 11 :=
  ⟨u.p.symm.trans (by unfold addS; rw [if_neg (fun x => x.2 h2)]), u.t.symm.trans (by unfold addS; rw [if_neg (fun x => x.2 h2)]), u.e.symm.trans (by unfold addE; rw [if_neg (fun x => x h), if_pos h2])⟩
theorem AddTo.ok (u : AddTo P T L k z P' T' e) (h : fair k z) (h2 : ¬ isIn ⟨P, T, L⟩ k) : P' = P ++ [(k, z.toNat)] ∧ T' = T ∧ e = 0 :=
  ⟨u.p.symm.trans (by unfold addS; rw [if_pos ⟨h, h2⟩]), u.t.symm.trans (by unfold addS; rw [if_pos ⟨h, h2⟩]), u.e.symm.trans (by unfold addE; rw [if_neg (fun x => x h), if_neg h2])⟩
theorem UseTo.bad (u : UseTo P T L k z P' T' G e) (h : ¬ fair k z) : P' = P ∧ T' = T ∧ G = [] ∧ e = 2 :=
  ⟨u.p.symm.trans (by unfold useS; rw [if_neg (fun x => h x.1)]), u.t.symm.trans (by unfold useS; rw [if_neg (fun x => h x.1)]), u.g.symm.trans (by unfold useG; rw [if_neg (fun x => h x.1)]), u.e.symm.trans (if_pos h)⟩
theorem UseTo.none (u : UseTo P T L k z P' T' G e) (h : fair k z) (h2 : ¬ isIn ⟨P, T, L⟩ k) : P' = P ∧ T' = T ∧ G = [] ∧ e = 9 :=
  ⟨u.p.symm.trans (by unfold useS; rw [if_neg (fun x => h2 x.2)]), u.t.symm.trans (by unfold useS; rw [if_neg (fun x => h2 x.2)]), u.g.symm.trans (by unfold useG; rw [if_neg (fun x => h2 x.2)]), u.e.symm.trans (by unfold useE; rw [if_neg (fun x => x h), if_neg h2])⟩
theorem UseTo.ok0 (u : UseTo P T L k z P' T' G e) (h : fair k z) (h2 : isIn ⟨P, T, L⟩ k) (hL : L = -1) (st : Still ⟨P, T, L⟩) : P' = rm P k ++ [(k, z.toNat)] ∧ T' = rm T k ∧ G = [] ∧ e = 0 := by
  have hT : T = [] := Classical.byContradiction fun x => st ⟨x, .inl hL⟩
  have em : midS ⟨P, T, L⟩ k z = ⟨rm P k ++ [(k, z.toNat)], rm T k, L⟩ := if_pos hL
  have e0 : demN L (rm T k) = 0 := by rw [hT]; rfl
  refine ⟨u.p.symm.trans ?_, u.t.symm.trans ?_, u.g.symm.trans ?_, u.e.symm.trans (by unfold useE; rw [if_neg (fun x => x h), if_pos h2])⟩
  · unfold useS; rw [if_pos ⟨h, h2⟩, em]; unfold demS; dsimp only; rw [e0, List.take_zero, List.append_nil]
  · unfold useS; rw [if_pos ⟨h, h2⟩, em]; unfold demS; dsimp only; rw [e0, List.drop_zero]
  · unfold useG; rw [if_pos ⟨h, h2⟩, em]; unfold demG; dsimp only; rw [e0, List.take_zero]; rfl
theorem UseTo.ok1 (u : UseTo P T L k z P' T' G e) (h : fair k z) (h2 : isIn ⟨P, T, L⟩ k) (hL : L ≠ -1) {Y : List It} (hY : Y = rm T k ++ [(k, z.toNat)]) : P' = rm P k ++ Y.take (demN L Y) ∧ T' = Y.drop (demN L Y) ∧ G = sl (Y.take (demN L Y)) ∧ G.length = demN L Y ∧ e = 0 := by
  subst hY
  have em : midS ⟨P, T, L⟩ k z = ⟨rm P k, rm T k ++ [(k, z.toNat)], L⟩ := if_neg hL
  have hG : G = sl ((rm T k ++ [(k, z.toNat)]).take (demN L (rm T k ++ [(k, z.toNat)]))) := by
    refine u.g.symm.trans ?_
    unfold useG; rw [if_pos ⟨h, h2⟩, em]; unfold demG; rfl
  refine ⟨u.p.symm.trans ?_, u.t.symm.trans ?_, hG, ?_, u.e.symm.trans (by unfold useE; rw [if_neg (fun x => x h), if_pos h2])⟩
  · unfold useS; rw [if_pos ⟨h, h2⟩, em]; unfold demS; rfl
  · unfold useS; rw [if_pos ⟨h, h2⟩, em]; unfold demS; rfl
  · rw [hG, sl_len, List.length_take]
    have := demN_le (L := L) (T := rm T k ++ [(k, z.toNat)])
    omega
theorem LimTo.bad (u : LimTo P T L z P' T' L' G e) (h : z < -1 ∨ 1099511627776 < z) : P' = P ∧ T' = T ∧ L' = L ∧ G = [] ∧ e = 2 :=
  ⟨u.p.symm.trans (by unfold limS; rw [if_pos h]), u.t.symm.trans (by unfold limS; rw [if_pos h]), u.l.symm.trans (by unfold limS; rw [if_pos h]), u.g.symm.trans (by unfold limG; rw [if_pos h]), u.e.symm.trans (if_pos h)⟩
theorem LimTo.ok (u : LimTo P T L z P' T' L' G e) (h : ¬ (z < -1 ∨ 1099511627776 < z)) : P' = P ++ T.take (demN z T) ∧ T' = T.drop (demN z T) ∧ L' = z ∧ G = sl (T.take (demN z T)) ∧ G.length = demN z T ∧ e = 0 := by
  have hG : G = sl (T.take (demN z T)) := u.g.symm.trans (by unfold limG; rw [if_neg h]; rfl)
  refine ⟨u.p.symm.trans (by unfold limS; rw [if_neg h]; rfl), u.t.symm.trans (by unfold limS; rw [if_neg h]; rfl), u.l.symm.trans (by unfold limS; rw [if_neg h]; rfl), hG, ?_, u.e.symm.trans (if_neg h)⟩
  rw [hG, sl_len, List.length_take]
  have := demN_le (L := z) (T := T)
  omega
theorem rm_lenle {X : List It} : (rm X k).length ≤ X.length := by unfold rm; exact List.length_filter_le _ _
theorem mem_rm' {X : List It} {x : It} (h : x ∈ rm X k) : x ∈ X := (mem_rm.1 h).1
end
end Go.Sg
namespace Go.Proofs.Ytbkpojlbclehaaa
open Go.Lk Go.Sl Go.Lr Go.Sg
attribute [local irreducible] TK TL TC Th Bk Nx fnPost WA TQ OpQ OpN SpecH Rd Ent IterH RoundH Rb Rp fnPostM
attribute [local irreducible] Sg.sm Sg.sl Sg.demN Sg.rm Sg.addS Sg.addE Sg.useS Sg.useE Sg.useG Sg.limS Sg.limG Sg.limE
set_option maxHeartbeats 4000000 in
instance sgr_add : Known Try.prog 68 (∀ (a0 a1 : Option Addr) (c0 c1 : Nat) (P T : List It) (L : Int) (xk : Int) (k : Nat) [NatI xk k] (z : Int) (P' T' : List It) (e : Int), AddTo P T L k z P' T' e → Inv ⟨P, T, L⟩ → P.length ≤ 1000000 → T.length ≤ 1000000 → SpecH Try.prog 68 #[.agg #[.slice a0 P.length c0, .slice a1 T.length c1, .int .i64 L], .int .u32 xk, .int .i64 z] [RoS 2 a0 P.length c0 (wc P), RoS 2 a1 T.length c1 (wc T)] (fun q : S2 => .tuple #[.agg #[.slice q.1.1 P'.length q.1.2, .slice q.2.1 T'.length q.2.2, .int .i64 L], .int .i64 e]) (fun q => [RoS 2 q.1.1 P'.length q.1.2 (wc P'), RoS 2 q.2.1 T'.length q.2.2 (wc T')])) := ⟨fun a0 a1 c0 c1 P T L xk k _ z P' T' e u iv hp ht => by
  obtain rfl : xk = (k : Int) := NatI.out
  refine spec_of Try.func68 rfl Try.ntmps68 rfl [(0, _), (1, _), (2, _)] rfl ?_; intro base F l0 hl0; (try simp only [List.cons_append] at hl0); (try simp only [List.nil_append] at hl0); subst hl0
  by_cases hf : fair k z
  · have hb : FairB k z true := ⟨decide_eq_true hf⟩
    rcases find_case iv k with ⟨hi, hr⟩ | ⟨hi, g, i, hg0, hg1, hr, ho⟩
    · obtain ⟨rfl, rfl, rfl⟩ := u.ok hf hi
      obtain ⟨c, rfl⟩ : ∃ c : Nat, z = c := ⟨z.toNat, by have := hf.2.1; omega⟩
      have hq : OPut 0 P T' k c (P ++ [(k, c)]) T' := ⟨.inl ⟨rfl, rfl, rfl⟩⟩
      rw [show ((c : Int)).toNat = c from Int.toNat_natCast c]
      repeat' (first | refine stw ?_ | refine And.intro ?_ ?_ | (intro e; exfalso; omega) | (intro e; subst e) | intro _)
      rename_i qa qb
      exact ra2 (qa, qb) rfl
    · obtain ⟨rfl, rfl, rfl⟩ := u.busy hf hi
      repeat' (first | refine stw ?_ | refine And.intro ?_ ?_ | (intro e; exfalso; omega) | (intro e; subst e) | intro _)
      exact ra2 ((a0, c0), a1, c1) rfl
  · have hb : FairB k z false := ⟨decide_eq_false hf⟩
    obtain ⟨rfl, rfl, rfl⟩ := u.bad hf
    repeat' (first | refine stw ?_ | refine And.intro ?_ ?_ | (intro e; exfalso; omega) | (intro e; subst e) | intro _)
    exact ra2 ((a0, c0), a1, c1) rfl⟩
set_option maxHeartbeats 4000000 in
instance sgr_remove : Known Try.prog 70 (∀ (a0 a1 : Option Addr) (c0 c1 : Nat) (P T : List It) (L : Int) (xk : Int) (k : Nat) [NatI xk k] (P' T' : List It) (e : Int), RemTo P T L k P' T' e → Inv ⟨P, T, L⟩ → P.length ≤ 1000000 → T.length ≤ 1000000 → SpecH Try.prog 70 #[.agg #[.slice a0 P.length c0, .slice a1 T.length c1, .int .i64 L], .int .u32 xk] [RoS 2 a0 P.length c0 (wc P), RoS 2 a1 T.length c1 (wc T)] (fun q : S2 => .tuple #[.agg #[.slice q.1.1 P'.length q.1.2, .slice q.2.1 T'.length q.2.2, .int .i64 L], .int .i64 e]) (fun q => [RoS 2 q.1.1 P'.length q.1.2 (wc P'), RoS 2 q.2.1 T'.length q.2.2 (wc T')])) := ⟨fun a0 a1 c0 c1 P T L xk k _ P' T' e u iv hp ht => by
  obtain rfl : xk = (k : Int) := NatI.out
  refine spec_of Try.func70 rfl Try.ntmps70 rfl [(0, _), (1, _)] rfl ?_; intro base F l0 hl0; (try simp only [List.cons_append] at hl0); (try simp only [List.nil_append] at hl0); subst hl0
  obtain ⟨up, ut, ue⟩ := u
  have up : rm P k = P' := up
  have ut : rm T k = T' := ut
  have ue : (if 4194304 ≤ k then (2 : Int) else if isIn ⟨P, T, L⟩ k then 0 else 9) = e := by rw [← ue]; unfold Sg.remE; rfl
  subst up ut
  by_cases hf : k < 4194304
  · have hb : FairB k 0 true := ⟨decide_eq_true ⟨hf, by omega, by omega⟩⟩
    rw [if_neg (by omega)] at ue
    rcases find_case iv k with ⟨hi, hr⟩ | ⟨hi, g, i, hg0, hg1, hr, ho⟩
    · rw [if_neg hi] at ue
      subst ue
      rw [rm_none (fun h => hi (.inl h)), rm_none (fun h => hi (.inr h))]
      repeat' (first | refine stw ?_ | refine And.intro ?_ ?_ | (intro e; exfalso; omega) | (intro e; subst e) | intro _)
      exact ra2 ((a0, c0), a1, c1) rfl
    · rw [if_pos hi] at ue
      subst ue
      repeat' (first | refine stw ?_ | refine And.intro ?_ ?_ | (intro e; exfalso; omega) | (intro e; subst e) | intro _)
      rename_i qa qb
      exact ra2 (qa, qb) rfl
  · have hb : FairB k 0 false := ⟨decide_eq_false fun h => hf h.1⟩
    rw [if_pos (by omega)] at ue
    subst ue
    rw [rm_none (fun h => hf (iv.pslot k h)), rm_none (fun h => hf (iv.tslot k h))]
    repeat' (first | refine stw ?_ | refine And.intro ?_ ?_ | (intro e; exfalso; omega) | (intro e; subst e) | intro _)
    exact ra2 ((a0, c0), a1, c1) rfl⟩
--E
set_option maxHeartbeats 8000000 in
instance sgr_use : Known Try.prog 69 (∀ (a0 a1 : Option Addr) (c0 c1 : Nat) (P T : List It) (L : Int) (xk : Int) (k : Nat) [NatI xk k] (z : Int) (P' T' : List It) (G : List Nat) (e : Int), UseTo P T L k z P' T' G e → Inv ⟨P, T, L⟩ → Still ⟨P, T, L⟩ → P.length ≤ 1000000 → T.length ≤ 1000000 → SpecH Try.prog 69 #[.agg #[.slice a0 P.length c0, .slice a1 T.length c1, .int .i64 L], .int .u32 xk, .int .i64 z] [RoS 2 a0 P.length c0 (wc P), RoS 2 a1 T.length c1 (wc T)] (fun q : S2 × Option Addr × Nat => .tuple #[.agg #[.slice q.1.1.1 P'.length q.1.1.2, .slice q.1.2.1 T'.length q.1.2.2, .int .i64 L], .slice q.2.1 G.length q.2.2, .int .i64 e]) (fun q => [RoS 2 q.1.1.1 P'.length q.1.1.2 (wc P'), RoS 2 q.1.2.1 T'.length q.1.2.2 (wc T'), RoS 1 q.2.1 G.length q.2.2 (u32s G)])) := ⟨fun a0 a1 c0 c1 P T L xk k _ z P' T' G e u iv st hp ht => by
  obtain rfl : xk = (k : Int) := NatI.out
  refine spec_of Try.func69 rfl Try.ntmps69 rfl [(0, _), (1, _), (2, _)] rfl ?_; intro base F l0 hl0; (try simp only [List.cons_append] at hl0); (try simp only [List.nil_append] at hl0); subst hl0
  have hlim := iv.lim
  dsimp only at hlim
  by_cases hf : fair k z
  · have hb : FairB k z true := ⟨decide_eq_true hf⟩
    rcases find_case iv k with ⟨hi, hr⟩ | ⟨hi, g, i, hg0, hg1, hr, ho⟩
    · obtain ⟨rfl, rfl, rfl, rfl⟩ := u.none hf hi
      repeat' (first | refine stw ?_ | refine And.intro ?_ ?_ | (intro e; exfalso; omega) | (intro e; subst e) | intro _)
      exact ra3 (((a0, c0), a1, c1), none, 0) rfl
    · have hl1 := rm_lenle (k := k) (X := P)
      have hl2 := rm_lenle (k := k) (X := T)
      have hz := hf.2
      obtain ⟨c, rfl⟩ : ∃ c : Nat, z = c := ⟨z.toNat, by omega⟩
      have hzn : ((c : Int)).toNat = c := Int.toNat_natCast c
      by_cases hL : L = -1
      · obtain ⟨rfl, rfl, rfl, rfl⟩ := u.ok0 hf hi hL st
        rw [hzn]
        have hq : OPut 0 (Sg.rm P k) (Sg.rm T k) k c (Sg.rm P k ++ [(k, c)]) (Sg.rm T k) := ⟨.inl ⟨rfl, rfl, rfl⟩⟩
        have hL0 : L < 0 := by omega
        repeat' (first | ((fail_if_success (refine atD ?_)); refine stw ?_) | refine And.intro ?_ ?_ | (intro e; exfalso; omega) | (intro e; subst e) | intro _)
        rename_i b3 b6 b11
        refine drx [obj b6 29 [.slice none 0 0, .slice none 0 0, .int .i64 0]] ?_
        refine tks [0, 1, 2, 4] 5 ?_; repeat' (first | refine stw ?_ | refine And.intro ?_ ?_ | (intro e; exfalso; omega) | (intro e; subst e) | intro _)
        refine hv 3 fun x3 => ?_
        refine hv 5 fun x5 => ?_
        refine hv0 6 fun x6 => ?_
        refine tks [7, 8] 0 ?_; repeat' (first | refine stw ?_ | refine And.intro ?_ ?_ | (intro e; exfalso; omega) | (intro e; subst e) | intro _)
        exact ra3 (x5, none, 0) rfl
      · have hL0 : ¬ L < 0 := by omega
        obtain ⟨Y, hY⟩ : ∃ Y, Sg.rm T k ++ [(k, c)] = Y := ⟨_, rfl⟩
        obtain ⟨rfl, rfl, hG, hGl, rfl⟩ := u.ok1 (Y := Y) hf hi hL (by rw [← hY, hzn])
        rw [hGl, hG]
        have hq : OPut 1 (Sg.rm P k) (Sg.rm T k) k c (Sg.rm P k) Y := ⟨.inr ⟨rfl, rfl, hY.symm⟩⟩
        have hYl : Y.length ≤ 2097152 := by rw [← hY, List.length_append, List.length_singleton]; omega
        have hYc : ∀ x, x ∈ Sg.rm P k ∨ x ∈ Y → x.2 ≤ 1099511627776 := fun x hx => by
          rcases hx with hx | hx
          · exact (iv.lt x (.inl (mem_rm' hx))).2
          · rw [← hY] at hx
            rcases List.mem_append.1 hx with hx | hx
            · exact (iv.lt x (.inr (mem_rm' hx))).2
            · obtain rfl := List.mem_singleton.1 hx
              dsimp only; omega
        have hPl : (Sg.rm P k).length ≤ 2097152 := by omega
        have hL1 := hlim.1
        clear hY
        repeat' (first | ((fail_if_success (refine atD ?_)); refine stw ?_) | refine And.intro ?_ ?_ | (intro e; exfalso; omega) | (intro e; subst e) | intro _)
        rename_i b3 b6 b11
        refine drx [] ?_
        refine tks [0, 1, 2, 4] 9 ?_; repeat' (first | refine stw ?_ | refine And.intro ?_ ?_ | (intro e; exfalso; omega) | (intro e; subst e) | intro _)
        refine hvB 3 10 (fun x3 => ?_) (fun x10 => ?_)
        · refine hvB 5 10 (fun x5 => ?_) (fun x10 => ?_)
          · refine hvB 6 10 (fun x6 => ?_) (fun x10 => ?_)
            · refine tks [7, 8, 9] 3 ?_; repeat' (first | refine stw ?_ | refine And.intro ?_ ?_ | (intro e; exfalso; omega) | (intro e; subst e) | intro _)
              refine hv 10 fun x10 => ?_
              refine hv0 11 fun x11 => ?_; refine tks [12] 0 ?_; (repeat' (first | refine stw ?_ | refine And.intro ?_ ?_ | (intro e; exfalso; omega) | (intro e; subst e) | intro _)); exact ra3 x6 rfl
            · refine hv 6 fun x6 => ?_
              refine tks [7, 8, 9] 2 ?_; repeat' (first | refine stw ?_ | refine And.intro ?_ ?_ | (intro e; exfalso; omega) | (intro e; subst e) | intro _)
              refine hv0 11 fun x11 => ?_; refine tks [12] 0 ?_; (repeat' (first | refine stw ?_ | refine And.intro ?_ ?_ | (intro e; exfalso; omega) | (intro e; subst e) | intro _)); exact ra3 x6 rfl
          · refine hv 5 fun x5 => ?_
            refine hv 6 fun x6 => ?_
            refine tks [7, 8, 9] 2 ?_; repeat' (first | refine stw ?_ | refine And.intro ?_ ?_ | (intro e; exfalso; omega) | (intro e; subst e) | intro _)
            refine hv0 11 fun x11 => ?_; refine tks [12] 0 ?_; (repeat' (first | refine stw ?_ | refine And.intro ?_ ?_ | (intro e; exfalso; omega) | (intro e; subst e) | intro _)); exact ra3 x6 rfl
        · refine hv 3 fun x3 => ?_
          refine hv 5 fun x5 => ?_
          refine hv 6 fun x6 => ?_
          refine tks [7, 8, 9] 2 ?_; repeat' (first | refine stw ?_ | refine And.intro ?_ ?_ | (intro e; exfalso; omega) | (intro e; subst e) | intro _)
          refine hv0 11 fun x11 => ?_; refine tks [12] 0 ?_; (repeat' (first | refine stw ?_ | refine And.intro ?_ ?_ | (intro e; exfalso; omega) | (intro e; subst e) | intro _)); exact ra3 x6 rfl
  · have hb : FairB k z false := ⟨decide_eq_false hf⟩
    obtain ⟨rfl, rfl, rfl, rfl⟩ := u.bad hf
    repeat' (first | refine stw ?_ | refine And.intro ?_ ?_ | (intro e; exfalso; omega) | (intro e; subst e) | intro _)
    exact ra3 (((a0, c0), a1, c1), none, 0) rfl⟩
set_option maxHeartbeats 8000000 in
instance sgr_set : Known Try.prog 71 (∀ (a0 a1 : Option Addr) (c0 c1 : Nat) (P T : List It) (L z : Int) (P' T' : List It) (L' : Int) (G : List Nat) (e : Int), LimTo P T L z P' T' L' G e → Inv ⟨P, T, L⟩ → P.length ≤ 1000000 → T.length ≤ 1000000 → SpecH Try.prog 71 #[.agg #[.slice a0 P.length c0, .slice a1 T.length c1, .int .i64 L], .int .i64 z] [RoS 2 a0 P.length c0 (wc P), RoS 2 a1 T.length c1 (wc T)] (fun q : S2 × Option Addr × Nat => .tuple #[.agg #[.slice q.1.1.1 P'.length q.1.1.2, .slice q.1.2.1 T'.length q.1.2.2, .int .i64 L'], .slice q.2.1 G.length q.2.2, .int .i64 e]) (fun q => [RoS 2 q.1.1.1 P'.length q.1.1.2 (wc P'), RoS 2 q.1.2.1 T'.length q.1.2.2 (wc T'), RoS 1 q.2.1 G.length q.2.2 (u32s G)])) := ⟨fun a0 a1 c0 c1 P T L z P' T' L' G e u iv hp ht => by
  refine spec_of Try.func71 rfl Try.ntmps71 rfl [(0, _), (1, _)] rfl ?_; intro base F l0 hl0; (try simp only [List.cons_append] at hl0); (try simp only [List.nil_append] at hl0); subst hl0
  by_cases hf : z < -1 ∨ 1099511627776 < z
  · obtain ⟨rfl, rfl, rfl, rfl, rfl⟩ := u.bad hf
    rcases hf with hf | hf
    · repeat' (first | refine stw ?_ | refine And.intro ?_ ?_ | (intro e; exfalso; omega) | (intro e; subst e) | intro _)
      exact ra3 (((a0, c0), a1, c1), none, 0) rfl
    · repeat' (first | refine stw ?_ | refine And.intro ?_ ?_ | (intro e; exfalso; omega) | (intro e; subst e) | intro _)
      exact ra3 (((a0, c0), a1, c1), none, 0) rfl
  · obtain ⟨rfl, rfl, rfl, hG, hGl, rfl⟩ := u.ok hf
    rw [hGl, hG]
    have h1 : -1 ≤ L' := by omega
    have h2 : L' ≤ 1099511627776 := by omega
    clear hf
    have hc : ∀ x, x ∈ P ∨ x ∈ T → x.2 ≤ 1099511627776 := fun x h => (iv.lt x h).2
    repeat' (first | refine stw ?_ | refine And.intro ?_ ?_ | (intro e; exfalso; omega) | (intro e; subst e) | intro _)
    rename_i qa qb b7
    exact ra3 (qa, qb) rfl⟩
end Go.Proofs.Ytbkpojlbclehaaa
