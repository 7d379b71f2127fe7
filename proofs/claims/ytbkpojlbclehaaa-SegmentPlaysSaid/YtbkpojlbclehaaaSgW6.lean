/- segment, walked: where a slot is; the slots of a segment. -/
import Derived.Test.YtbkpojlbclehaaaSgW5
import Derived.Test.YtbkpojlbclehaaaSlRev
namespace Go.Sg
open Go.Sl
/-- Where a slot is. -/
structure OfR (P T : List It) (k g c : Nat) (e : Int) : Prop where
  out : (e = 2 ∧ 4194304 ≤ k ∧ g = 0 ∧ c = 0) ∨ (e = 9 ∧ k < 4194304 ∧ (k ∉ sl P ∧ k ∉ sl T) ∧ g = 0 ∧ c = 0) ∨ (e = 0 ∧ k < 4194304 ∧ ((g = 1 ∧ (k, c) ∈ T) ∨ (g = 0 ∧ (k, c) ∈ P)))
theorem sl_getD {X : List It} {i : Nat} (h : i < X.length) : (sl X).getD i 0 = (X.getD i (0, 0)).1 := by
  unfold sl
  rw [List.getD_eq_getElem?_getD, List.getElem?_map, List.getD_eq_getElem?_getD, List.getElem?_eq_getElem h]; rfl
theorem getD_inS {X : List It} {i : Nat} (h : i < X.length) : ((X.getD i (0, 0)).1, (X.getD i (0, 0)).2) ∈ X := by
  rw [List.getD_eq_getElem?_getD, List.getElem?_eq_getElem h]; exact List.getElem_mem h
theorem take_snocS {X : List It} {i : Nat} (h : i < X.length) : X.take (i + 1) = X.take i ++ [((X.getD i (0, 0)).1, (X.getD i (0, 0)).2)] := by
  rw [List.take_succ_eq_append_getElem h, List.getD_eq_getElem?_getD, List.getElem?_eq_getElem h]; rfl
end Go.Sg
namespace Go.Proofs.Ytbkpojlbclehaaa
open Go.Lk Go.Sl Go.Lr Go.Sg
attribute [local irreducible] TK TL TC Th Bk Nx fnPost WA TQ OpQ OpN SpecH Rd Ent IterH RoundH Rb Rp fnPostM
attribute [local irreducible] Fld.addE Fld.addF Fld.befE Fld.befF Fld.inE Fld.remF Fld.first Fld.last Fld.next Fld.prev Fld.ofR Fld.listOf Fld.joinE Fld.joinF renE renG Fld.at Fld.set Fld.place
attribute [local irreducible] Lr.addL Lr.addE Lr.useL Lr.remE Sg.sm Sg.sl Sg.rm Sg.demN
set_option maxHeartbeats 4000000 in
instance sg_Of : Known Try.prog 73 (∀ (p : Nat) (P T : List It) (L : Int) (xk : Int) (k : Nat) [NatI xk k] (g c : Nat) (e : Int), OfR P T k g c e → SpecH Try.prog 73 #[.pointer (some ⟨p, 0, none⟩), .int .u32 xk] [SegAt p P T L] (fun _ : Unit => .tuple #[.int .i64 (g : Nat), .int .i64 (c : Nat), .int .i64 e]) (fun _ => [SegAt p P T L])) := ⟨fun p P T L xk k _ g c e ho => by
  obtain rfl : xk = (k : Int) := NatI.out
  refine spec_of Try.func73 rfl Try.ntmps73 rfl [(0, _), (1, _)] rfl ?_; intro base F l0 hl0; (try simp only [List.cons_append] at hl0); (try simp only [List.nil_append] at hl0); subst hl0
  haveI := sg_of0
  refine SegAt.openC fun st => ?_
  refine SegX.factsC fun iv0 hP hT => ?_
  obtain ⟨n1, n2, n3⟩ := iv0.parts
  rcases ho.out with ⟨rfl, hk, rfl, rfl⟩ | ⟨rfl, hk, ⟨np, nt⟩, rfl, rfl⟩ | ⟨rfl, hk, h⟩
  · have hc : Chk k 0 2 := chk_no fun h => by have := h.1; omega
    repeat' (first | refine stw ?_ | refine And.intro ?_ ?_ | (intro e; exfalso; omega) | (intro e; subst e) | intro _)
    exact rt3 () rfl (he := en2 (SegAt.shut st))
  · have hc : Chk k 0 0 := chk_yes ⟨hk, by omega, by omega⟩
    repeat' (first | refine stw ?_ | refine And.intro ?_ ?_ | (intro e; exfalso; omega) | (intro e; subst e) | intro _)
    refine SegX.openL fun l0 l1 m kv iv cm => ?_
    have hm := cm.none_iff.2 ⟨np, nt⟩
    repeat' (first | refine stw ?_ | refine And.intro ?_ ?_ | (intro e; exfalso; omega) | (intro e; subst e) | intro _)
    exact rt3 () rfl (he := (en2 (SegX.shut iv cm)).trans (en2 (SegAt.shut st)))
  · have hc : Chk k 0 0 := chk_yes ⟨hk, by omega, by omega⟩
    rcases h with ⟨rfl, h⟩ | ⟨rfl, h⟩
    · have hin : k ∈ sl T := mem_sl.2 ⟨c, h⟩
      have hof : OfS T k 1 := ⟨if_pos hin⟩
      repeat' (first | refine stw ?_ | refine And.intro ?_ ?_ | (intro e; exfalso; omega) | (intro e; subst e) | intro _)
      refine SegX.openL fun l0 l1 m kv iv cm => ?_
      have hm := cm.yes (.inr h)
      repeat' (first | refine stw ?_ | refine And.intro ?_ ?_ | (intro e; exfalso; omega) | (intro e; subst e) | intro _)
      exact rt3 () rfl (he := (en2 (SegX.shut iv cm)).trans (en2 (SegAt.shut st)))
    · have hin : k ∉ sl T := fun x => n3 k (mem_sl.2 ⟨c, h⟩) x
      have hof : OfS T k 0 := ⟨if_neg hin⟩
      repeat' (first | refine stw ?_ | refine And.intro ?_ ?_ | (intro e; exfalso; omega) | (intro e; subst e) | intro _)
      refine SegX.openL fun l0 l1 m kv iv cm => ?_
      have hm := cm.yes (.inl h)
      repeat' (first | refine stw ?_ | refine And.intro ?_ ?_ | (intro e; exfalso; omega) | (intro e; subst e) | intro _)
      exact rt3 () rfl (he := (en2 (SegX.shut iv cm)).trans (en2 (SegAt.shut st)))⟩
set_option maxHeartbeats 8000000 in
instance sg_list : Known Try.prog 23 (∀ (p : Nat) (P T : List It) (L g : Int) (X : List It), ListG g P T X → SpecH Try.prog 23 #[.pointer (some ⟨p, 0, none⟩), .int .i64 g] [SegAt p P T L] (fun q : Option Addr × Nat => .slice q.1 X.length q.2) (fun q => [SegAt p P T L, RoS 2 q.1 X.length q.2 (wc X)])) := ⟨fun p P T L g X hg => by
  refine spec_of_m Try.func23 rfl Try.ntmps23 rfl [(0, _), (1, _)] rfl ?_; intro base F l0 hl0; (try simp only [List.cons_append] at hl0); (try simp only [List.nil_append] at hl0); subst hl0
  refine SegAt.openC fun st => ?_
  rcases hg.out with ⟨rfl, rfl⟩ | ⟨rfl, rfl⟩ | ⟨h, rfl⟩
  · have hb : HasG 0 true := ⟨rfl⟩
    repeat' (first | refine stw ?_ | refine And.intro ?_ ?_ | (intro e; exfalso; omega) | (intro e; subst e) | intro _)
    refine SegX.openL fun l0 l1 m kv iv cm => ?_
    repeat' (first | refine stw ?_ | refine And.intro ?_ ?_ | (intro e; exfalso; omega) | (intro e; subst e) | intro _)
    rename_i b2 bo c2
    have hXl : X.length ≤ 4194304 := by
      obtain ⟨n1, n2, n3⟩ := iv.parts
      rw [← sl_len]
      exact nodup_bound n1 iv.pslot
    have hx : (u32a (sl X)).length = X.length := by simp [u32a, sl_len]
    refine tc_rangeFunc (xs := u32a (sl X)) (own := [SeqC c2 (sl X)]) (R := [LruAt l0 (sl X), LruAt l1 (sl T), F]) (fun i => Exs (ι := Option Addr × Nat) fun q => [obj bo 26 [.slice q.1 i q.2], Vec 50 2 q.1 i q.2 (wc (X.take i)), obj b2 22 [.pointer (some ⟨p, 0, none⟩)], obj p 68 [.pointer (some ⟨l0, 0, none⟩), .pointer (some ⟨l1, 0, none⟩), .int .i64 (sm X : Nat), .int .i64 (sm T : Nat), .map (some m), .int .i64 L], MapA .u32 (fun z : Int => .int .i64 z) m kv]) (fun _ _ => fact False) (seq_iter c2 _) rfl (by decide) (by intro a ha; simp only [u32a, List.mem_map] at ha; obtain ⟨_, _, rfl⟩ := ha; rfl) ?_ ?_ ?_ ?_
    · refine Ent.trans ?_ (Ent.exs (none, 0) (Ent.refl _))
      show Ent _ [obj bo 26 [.slice none 0 0], Vec 50 2 none 0 0 [], obj b2 22 [.pointer (some ⟨p, 0, none⟩)], obj p 68 [.pointer (some ⟨l0, 0, none⟩), .pointer (some ⟨l1, 0, none⟩), .int .i64 (sm X : Nat), .int .i64 (sm T : Nat), .map (some m), .int .i64 L], MapA .u32 (fun z : Int => .int .i64 z) m kv, SeqC c2 (sl X), LruAt l0 (sl X), LruAt l1 (sl T), F]
      exact en
    · intro lp rec i a hst hpe ha base F
      have hi : i < X.length := by rw [← hx]; exact (List.getElem?_eq_some_iff.1 ha).1
      obtain rfl : a = [.int .u32 ((sl X).getD i 0 : Nat)] := by rw [u32a_get (by rw [sl_len]; exact hi)] at ha; exact (Option.some.inj ha).symm
      rw [sl_getD hi]
      have hin := getD_inS hi
      have hm := cm.yes (.inl hin)
      obtain ⟨hk, hw⟩ := iv.lt _ (.inl hin)
      dsimp only at hk hw
      have hsn := take_snocS hi
      generalize (X.getD i (0, 0)).1 = k at hm hk hsn ⊢
      generalize (X.getD i (0, 0)).2 = w at hm hw hsn
      refine TC.exs (f := fun q : Option Addr × Nat => [obj bo 26 [.slice q.1 i q.2], Vec 50 2 q.1 i q.2 (wc (X.take i)), obj b2 22 [.pointer (some ⟨p, 0, none⟩)], obj p 68 [.pointer (some ⟨l0, 0, none⟩), .pointer (some ⟨l1, 0, none⟩), .int .i64 (sm X : Nat), .int .i64 (sm T : Nat), .map (some m), .int .i64 L], MapA .u32 (fun z : Int => .int .i64 z) m kv]) (by (repeat (first | (with_reducible exact Rem.here _ _) | (with_reducible apply Rem.there) | fail)); done) fun ⟨q1, q2⟩ => ?_
      simp only [List.cons_append, List.nil_append, putsE]
      repeat' (first | refine stw ?_ | refine And.intro ?_ ?_ | (intro e; exfalso; omega) | (intro e; subst e) | intro _)
      refine rb hst ?_
      repeat' (first | ((fail_if_success (refine atD ?_)); refine stw ?_) | refine And.intro ?_ ?_ | (intro e; exfalso; omega) | (intro e; subst e) | intro _)
      refine drx [obj bo 26 [.slice q1 i q2], Vec 50 2 q1 i q2 (wc (X.take i))] ?_
      refine tks [1, 2, 6, 3, 4, 5] 6 ?_; repeat' (first | refine stw ?_ | refine And.intro ?_ ?_ | (intro e; exfalso; omega) | (intro e; subst e) | intro _)
      refine hvB 0 7 (fun _ => ?_) (fun x7 => ?_)
      · refine hvr 7 ?_
        refine tks [8] 3 ?_; repeat' (first | refine stw ?_ | refine And.intro ?_ ?_ | (intro e; exfalso; omega) | (intro e; subst e) | intro _)
        refine hv 9 (fun x9 => ?_) (hq := by (try simp only [List.cons_append, List.nil_append]); ((apply opn_buildSliceN; (focus ((first | exact want_none rfl | exact want_yes rfl rfl rfl rfl rfl | fail))); (focus ((repeat (first | exact Evs.nil | (apply Evs.cons; exact rfl) | fail)); done)); exact rfl; (focus ((repeat (first | exact CsL.nil | (apply CsL.cons; (focus ((first | exact IsCells.one rfl | exact IsCells.agg _ rfl | fail))); exact rfl) | fail)); done)); exact rfl; exact rfl; (focus (simp only [List.append_nil]; exact rfl)))))
        refine hv 10 fun x10 => ?_
        refine hv0 11 fun x11 => ?_
        repeat' (first | refine stw ?_ | refine And.intro ?_ ?_ | (intro e; exfalso; omega) | (intro e; subst e) | intro _)
        refine rp hst hpe ?_
        refine Ent.trans ?_ (b := Exs (ι := Option Addr × Nat) (fun q => [obj bo 26 [.slice q.1 (i + 1) q.2], Vec 50 2 q.1 (i + 1) q.2 (wc (X.take (i + 1))), obj b2 22 [.pointer (some ⟨p, 0, none⟩)], obj p 68 [.pointer (some ⟨l0, 0, none⟩), .pointer (some ⟨l1, 0, none⟩), .int .i64 (sm X : Nat), .int .i64 (sm T : Nat), .map (some m), .int .i64 L], MapA .u32 (fun z : Int => .int .i64 z) m kv]) :: blk lp (.loop rec) :: [F]) en
        refine Ent.exs (x10.1, x10.2) ?_
        rw [hsn, wc_snoc]
        exact en
      · refine tks [8] 4 ?_; repeat' (first | refine stw ?_ | refine And.intro ?_ ?_ | (intro e; exfalso; omega) | (intro e; subst e) | intro _)
        refine hvq 0 9 (fun x9 => ?_) (hq2 := by (try simp only [List.cons_append, List.nil_append]); ((apply opn_buildSliceN; (focus ((first | exact want_none rfl | exact want_yes rfl rfl rfl rfl rfl | fail))); (focus ((repeat (first | exact Evs.nil | (apply Evs.cons; exact rfl) | fail)); done)); exact rfl; (focus ((repeat (first | exact CsL.nil | (apply CsL.cons; (focus ((first | exact IsCells.one rfl | exact IsCells.agg _ rfl | fail))); exact rfl) | fail)); done)); exact rfl; exact rfl; (focus (simp only [List.append_nil]; exact rfl))))) (hq3 := by (try simp only [List.cons_append, List.nil_append]); ((apply opn_buildSliceN; (focus ((first | exact want_none rfl | exact want_yes rfl rfl rfl rfl rfl | fail))); (focus ((repeat (first | exact Evs.nil | (apply Evs.cons; exact rfl) | fail)); done)); all_goals (first | exact rfl | (focus ((repeat (first | exact CsL.nil | (apply CsL.cons; (focus ((first | exact IsCells.one rfl | exact IsCells.agg _ rfl | fail))); exact rfl) | fail)); done)) | (simp only [List.cons_append, List.nil_append, List.append_nil]; exact rfl)))))
        refine hv 10 fun x10 => ?_
        refine hv0 11 fun x11 => ?_
        repeat' (first | refine stw ?_ | refine And.intro ?_ ?_ | (intro e; exfalso; omega) | (intro e; subst e) | intro _)
        refine rp hst hpe ?_
        refine Ent.trans ?_ (b := Exs (ι := Option Addr × Nat) (fun q => [obj bo 26 [.slice q.1 (i + 1) q.2], Vec 50 2 q.1 (i + 1) q.2 (wc (X.take (i + 1))), obj b2 22 [.pointer (some ⟨p, 0, none⟩)], obj p 68 [.pointer (some ⟨l0, 0, none⟩), .pointer (some ⟨l1, 0, none⟩), .int .i64 (sm X : Nat), .int .i64 (sm T : Nat), .map (some m), .int .i64 L], MapA .u32 (fun z : Int => .int .i64 z) m kv]) :: blk lp (.loop rec) :: [F]) en
        refine Ent.exs (x10.1, x10.2) ?_
        rw [hsn, wc_snoc]
        exact en
    · intro rb
      rw [hx, List.take_length]
      simp only [List.cons_append, List.nil_append]
      refine TK.exs (f := fun q : Option Addr × Nat => [obj bo 26 [.slice q.1 X.length q.2], Vec 50 2 q.1 X.length q.2 (wc X), obj b2 22 [.pointer (some ⟨p, 0, none⟩)], obj p 68 [.pointer (some ⟨l0, 0, none⟩), .pointer (some ⟨l1, 0, none⟩), .int .i64 (sm X : Nat), .int .i64 (sm T : Nat), .map (some m), .int .i64 L], MapA .u32 (fun z : Int => .int .i64 z) m kv]) (by (repeat (first | (with_reducible exact Rem.here _ _) | (with_reducible apply Rem.there) | fail)); done) fun ⟨q1, q2⟩ => ?_
      simp only [List.cons_append, List.nil_append]
      repeat' (first | refine stw ?_ | refine And.intro ?_ ?_ | (intro e; exfalso; omega) | (intro e; subst e) | intro _)
      refine frz q1 ?_
      exact rm1 (q1, q2) rfl (he := ((en2 (SegX.shut iv cm)).trans (en2 (SegAt.shut st))).trans en)
    · intro rb i c
      exact tc_factF
  · have hb : HasG 1 true := ⟨rfl⟩
    repeat' (first | refine stw ?_ | refine And.intro ?_ ?_ | (intro e; exfalso; omega) | (intro e; subst e) | intro _)
    refine SegX.openL fun l0 l1 m kv iv cm => ?_
    repeat' (first | refine stw ?_ | refine And.intro ?_ ?_ | (intro e; exfalso; omega) | (intro e; subst e) | intro _)
    rename_i b2 bo c2
    have hXl : X.length ≤ 4194304 := by
      obtain ⟨n1, n2, n3⟩ := iv.parts
      rw [← sl_len]
      exact nodup_bound n2 iv.tslot
    have hx : (u32a (sl X)).length = X.length := by simp [u32a, sl_len]
    refine tc_rangeFunc (xs := u32a (sl X)) (own := [SeqC c2 (sl X)]) (R := [LruAt l1 (sl X), LruAt l0 (sl P), F]) (fun i => Exs (ι := Option Addr × Nat) fun q => [obj bo 26 [.slice q.1 i q.2], Vec 50 2 q.1 i q.2 (wc (X.take i)), obj b2 22 [.pointer (some ⟨p, 0, none⟩)], obj p 68 [.pointer (some ⟨l0, 0, none⟩), .pointer (some ⟨l1, 0, none⟩), .int .i64 (sm P : Nat), .int .i64 (sm X : Nat), .map (some m), .int .i64 L], MapA .u32 (fun z : Int => .int .i64 z) m kv]) (fun _ _ => fact False) (seq_iter c2 _) rfl (by decide) (by intro a ha; simp only [u32a, List.mem_map] at ha; obtain ⟨_, _, rfl⟩ := ha; rfl) ?_ ?_ ?_ ?_
    · refine Ent.trans ?_ (Ent.exs (none, 0) (Ent.refl _))
      show Ent _ [obj bo 26 [.slice none 0 0], Vec 50 2 none 0 0 [], obj b2 22 [.pointer (some ⟨p, 0, none⟩)], obj p 68 [.pointer (some ⟨l0, 0, none⟩), .pointer (some ⟨l1, 0, none⟩), .int .i64 (sm P : Nat), .int .i64 (sm X : Nat), .map (some m), .int .i64 L], MapA .u32 (fun z : Int => .int .i64 z) m kv, SeqC c2 (sl X), LruAt l1 (sl X), LruAt l0 (sl P), F]
      exact en
    · intro lp rec i a hst hpe ha base F
      have hi : i < X.length := by rw [← hx]; exact (List.getElem?_eq_some_iff.1 ha).1
      obtain rfl : a = [.int .u32 ((sl X).getD i 0 : Nat)] := by rw [u32a_get (by rw [sl_len]; exact hi)] at ha; exact (Option.some.inj ha).symm
      rw [sl_getD hi]
      have hin := getD_inS hi
      have hm := cm.yes (.inr hin)
      obtain ⟨hk, hw⟩ := iv.lt _ (.inr hin)
      dsimp only at hk hw
      have hsn := take_snocS hi
      generalize (X.getD i (0, 0)).1 = k at hm hk hsn ⊢
      generalize (X.getD i (0, 0)).2 = w at hm hw hsn
      refine TC.exs (f := fun q : Option Addr × Nat => [obj bo 26 [.slice q.1 i q.2], Vec 50 2 q.1 i q.2 (wc (X.take i)), obj b2 22 [.pointer (some ⟨p, 0, none⟩)], obj p 68 [.pointer (some ⟨l0, 0, none⟩), .pointer (some ⟨l1, 0, none⟩), .int .i64 (sm P : Nat), .int .i64 (sm X : Nat), .map (some m), .int .i64 L], MapA .u32 (fun z : Int => .int .i64 z) m kv]) (by (repeat (first | (with_reducible exact Rem.here _ _) | (with_reducible apply Rem.there) | fail)); done) fun ⟨q1, q2⟩ => ?_
      simp only [List.cons_append, List.nil_append, putsE]
      repeat' (first | refine stw ?_ | refine And.intro ?_ ?_ | (intro e; exfalso; omega) | (intro e; subst e) | intro _)
      refine rb hst ?_
      repeat' (first | ((fail_if_success (refine atD ?_)); refine stw ?_) | refine And.intro ?_ ?_ | (intro e; exfalso; omega) | (intro e; subst e) | intro _)
      refine drx [obj bo 26 [.slice q1 i q2], Vec 50 2 q1 i q2 (wc (X.take i))] ?_
      refine tks [1, 2, 6, 3, 4, 5] 6 ?_; repeat' (first | refine stw ?_ | refine And.intro ?_ ?_ | (intro e; exfalso; omega) | (intro e; subst e) | intro _)
      refine hvB 0 7 (fun _ => ?_) (fun x7 => ?_)
      · refine hvr 7 ?_
        refine tks [8] 3 ?_; repeat' (first | refine stw ?_ | refine And.intro ?_ ?_ | (intro e; exfalso; omega) | (intro e; subst e) | intro _)
        refine hv 9 (fun x9 => ?_) (hq := by (try simp only [List.cons_append, List.nil_append]); ((apply opn_buildSliceN; (focus ((first | exact want_none rfl | exact want_yes rfl rfl rfl rfl rfl | fail))); (focus ((repeat (first | exact Evs.nil | (apply Evs.cons; exact rfl) | fail)); done)); exact rfl; (focus ((repeat (first | exact CsL.nil | (apply CsL.cons; (focus ((first | exact IsCells.one rfl | exact IsCells.agg _ rfl | fail))); exact rfl) | fail)); done)); exact rfl; exact rfl; (focus (simp only [List.append_nil]; exact rfl)))))
        refine hv 10 fun x10 => ?_
        refine hv0 11 fun x11 => ?_
        repeat' (first | refine stw ?_ | refine And.intro ?_ ?_ | (intro e; exfalso; omega) | (intro e; subst e) | intro _)
        refine rp hst hpe ?_
        refine Ent.trans ?_ (b := Exs (ι := Option Addr × Nat) (fun q => [obj bo 26 [.slice q.1 (i + 1) q.2], Vec 50 2 q.1 (i + 1) q.2 (wc (X.take (i + 1))), obj b2 22 [.pointer (some ⟨p, 0, none⟩)], obj p 68 [.pointer (some ⟨l0, 0, none⟩), .pointer (some ⟨l1, 0, none⟩), .int .i64 (sm P : Nat), .int .i64 (sm X : Nat), .map (some m), .int .i64 L], MapA .u32 (fun z : Int => .int .i64 z) m kv]) :: blk lp (.loop rec) :: [F]) en
        refine Ent.exs (x10.1, x10.2) ?_
        rw [hsn, wc_snoc]
        exact en
      · refine tks [8] 4 ?_; repeat' (first | refine stw ?_ | refine And.intro ?_ ?_ | (intro e; exfalso; omega) | (intro e; subst e) | intro _)
        refine hvq 0 9 (fun x9 => ?_) (hq2 := by (try simp only [List.cons_append, List.nil_append]); ((apply opn_buildSliceN; (focus ((first | exact want_none rfl | exact want_yes rfl rfl rfl rfl rfl | fail))); (focus ((repeat (first | exact Evs.nil | (apply Evs.cons; exact rfl) | fail)); done)); exact rfl; (focus ((repeat (first | exact CsL.nil | (apply CsL.cons; (focus ((first | exact IsCells.one rfl | exact IsCells.agg _ rfl | fail))); exact rfl) | fail)); done)); exact rfl; exact rfl; (focus (simp only [List.append_nil]; exact rfl))))) (hq3 := by (try simp only [List.cons_append, List.nil_append]); ((apply opn_buildSliceN; (focus ((first | exact want_none rfl | exact want_yes rfl rfl rfl rfl rfl | fail))); (focus ((repeat (first | exact Evs.nil | (apply Evs.cons; exact rfl) | fail)); done)); all_goals (first | exact rfl | (focus ((repeat (first | exact CsL.nil | (apply CsL.cons; (focus ((first | exact IsCells.one rfl | exact IsCells.agg _ rfl | fail))); exact rfl) | fail)); done)) | (simp only [List.cons_append, List.nil_append, List.append_nil]; exact rfl)))))
        refine hv 10 fun x10 => ?_
        refine hv0 11 fun x11 => ?_
        repeat' (first | refine stw ?_ | refine And.intro ?_ ?_ | (intro e; exfalso; omega) | (intro e; subst e) | intro _)
        refine rp hst hpe ?_
        refine Ent.trans ?_ (b := Exs (ι := Option Addr × Nat) (fun q => [obj bo 26 [.slice q.1 (i + 1) q.2], Vec 50 2 q.1 (i + 1) q.2 (wc (X.take (i + 1))), obj b2 22 [.pointer (some ⟨p, 0, none⟩)], obj p 68 [.pointer (some ⟨l0, 0, none⟩), .pointer (some ⟨l1, 0, none⟩), .int .i64 (sm P : Nat), .int .i64 (sm X : Nat), .map (some m), .int .i64 L], MapA .u32 (fun z : Int => .int .i64 z) m kv]) :: blk lp (.loop rec) :: [F]) en
        refine Ent.exs (x10.1, x10.2) ?_
        rw [hsn, wc_snoc]
        exact en
    · intro rb
      rw [hx, List.take_length]
      simp only [List.cons_append, List.nil_append]
      refine TK.exs (f := fun q : Option Addr × Nat => [obj bo 26 [.slice q.1 X.length q.2], Vec 50 2 q.1 X.length q.2 (wc X), obj b2 22 [.pointer (some ⟨p, 0, none⟩)], obj p 68 [.pointer (some ⟨l0, 0, none⟩), .pointer (some ⟨l1, 0, none⟩), .int .i64 (sm P : Nat), .int .i64 (sm X : Nat), .map (some m), .int .i64 L], MapA .u32 (fun z : Int => .int .i64 z) m kv]) (by (repeat (first | (with_reducible exact Rem.here _ _) | (with_reducible apply Rem.there) | fail)); done) fun ⟨q1, q2⟩ => ?_
      simp only [List.cons_append, List.nil_append]
      repeat' (first | refine stw ?_ | refine And.intro ?_ ?_ | (intro e; exfalso; omega) | (intro e; subst e) | intro _)
      refine frz q1 ?_
      exact rm1 (q1, q2) rfl (he := ((en2 (SegX.shut iv cm)).trans (en2 (SegAt.shut st))).trans en)
    · intro rb i c
      exact tc_factF
  · have hb : HasG g false := ⟨decide_eq_false (fun x => by omega)⟩
    repeat' (first | refine stw ?_ | refine And.intro ?_ ?_ | (intro e; exfalso; omega) | (intro e; subst e) | intro _)
    exact rm1 (none, 0) rfl (he := (en2 (SegAt.shut st)).trans en)⟩
end Go.Proofs.Ytbkpojlbclehaaa
