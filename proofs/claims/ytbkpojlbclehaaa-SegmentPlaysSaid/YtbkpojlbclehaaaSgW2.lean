/- segment, walked: slots that are put and taken. -/
import Derived.Test.YtbkpojlbclehaaaSgW1
import Derived.Test.YtbkpojlbclehaaaSlEnd2
namespace Go.Sg
open Go.Sl
/-- What check answers. -/
structure Chk (k : Nat) (z e : Int) : Prop where
  out : (if k < 4194304 ∧ 0 ≤ z ∧ z ≤ 1099511627776 then (0 : Int) else 2) = e
/-- A slot is put into a segment. -/
structure PutTo (g : Nat) (P T : List It) (k c : Nat) (P' T' : List It) : Prop where
  g : (g = 0 ∧ P' = P ++ [(k, c)] ∧ T' = T) ∨ (g = 1 ∧ P' = P ∧ T' = T ++ [(k, c)])
  np : k ∉ sl P
  nt : k ∉ sl T
/-- Whether a slot is there. -/
structure InS (P T : List It) (k : Nat) (b : Bool) : Prop where
  out : decide (k ∈ sl P ∨ k ∈ sl T) = b
/-- The segment of a slot. -/
structure OfS (T : List It) (k g : Nat) : Prop where
  out : (if k ∈ sl T then 1 else 0) = g
theorem lru_newS {L : List Nat} {z : Nat} (h : z ∉ L) (h2 : z < 4194304) : Lr.addL L z = L ++ [z] := by
  have h3 : Lr.addE L z = 0 := by unfold Lr.addE; rw [if_neg (by omega), if_neg h]
  exact Lr.addL_ok h3
theorem Inv.sums {P T : List It} {L : Int} (h : Inv ⟨P, T, L⟩) : sm P ≤ 4611686018427387904 ∧ sm T ≤ 4611686018427387904 := by
  obtain ⟨n1, n2, n3⟩ := h.parts
  have h1 := nodup_bound n1 h.pslot
  have h2 := nodup_bound n2 h.tslot
  rw [sl_len] at h1 h2
  have h3 := sm_le (l := P) fun x hx => (h.lt x (.inl hx)).2
  have h4 := sm_le (l := T) fun x hx => (h.lt x (.inr hx)).2
  omega
end Go.Sg
namespace Go.Proofs.Ytbkpojlbclehaaa
open Go.Lk Go.Sl Go.Lr Go.Sg
attribute [local irreducible] TK TL TC Th Bk Nx fnPost WA TQ OpQ OpN SpecH Rd Ent IterH RoundH Rb Rp fnPostM
attribute [local irreducible] Fld.addE Fld.addF Fld.befE Fld.befF Fld.inE Fld.remF Fld.first Fld.last Fld.next Fld.prev Fld.ofR Fld.listOf Fld.joinE Fld.joinF renE renG Fld.at Fld.set Fld.place
attribute [local irreducible] Lr.addL Lr.addE Lr.useL Lr.remE Sg.sm Sg.sl Sg.rm Sg.demN
instance sg_check : Known Try.prog 56 (∀ (p : Nat) (P T : List It) (L : Int) (xk : Int) (k : Nat) [NatI xk k] (z e : Int), Chk k z e → SpecH Try.prog 56 #[.pointer (some ⟨p, 0, none⟩), .int .u32 xk, .int .i64 z] [SegX p P T L] (fun _ : Unit => .int .i64 e) (fun _ => [SegX p P T L])) := ⟨fun p P T L xk k _ z e hc => by
  obtain rfl : xk = (k : Int) := NatI.out
  have hc := hc.out
  refine spec_of Try.func56 rfl Try.ntmps56 rfl [(0, _), (1, _), (2, _)] rfl ?_; intro base F l0 hl0; (try simp only [List.cons_append] at hl0); (try simp only [List.nil_append] at hl0); subst hl0
  refine SegX.openC fun l0 l1 m kv iv cm => ?_
  by_cases h : k < 4194304 ∧ 0 ≤ z ∧ z ≤ 1099511627776
  · rw [if_pos h] at hc
    subst hc
    obtain ⟨h1, h2, h3⟩ := h
    repeat' (first | refine stw ?_ | refine And.intro ?_ ?_ | (intro e; exfalso; omega) | (intro e; subst e) | intro _)
    exact rt1 () rfl (he := en2 (SegX.shut iv cm))
  · rw [if_neg h] at hc
    subst hc
    rcases Nat.lt_or_ge k 4194304 with h1 | h1
    · rcases Classical.em (z < 0) with h2 | h2
      · repeat' (first | refine stw ?_ | refine And.intro ?_ ?_ | (intro e; exfalso; omega) | (intro e; subst e) | intro _)
        exact rt1 () rfl (he := en2 (SegX.shut iv cm))
      · have h3 : 1099511627776 < z := by omega
        repeat' (first | refine stw ?_ | refine And.intro ?_ ?_ | (intro e; exfalso; omega) | (intro e; subst e) | intro _)
        exact rt1 () rfl (he := en2 (SegX.shut iv cm))
    · repeat' (first | refine stw ?_ | refine And.intro ?_ ?_ | (intro e; exfalso; omega) | (intro e; subst e) | intro _)
      exact rt1 () rfl (he := en2 (SegX.shut iv cm))⟩
theorem sg_new_bad (z : Int) (h : z < -1 ∨ 1099511627776 < z) : SpecH Try.prog 13 #[.int .i64 z] [] (fun _ : Unit => .tuple #[.pointer none, .int .i64 2]) (fun _ => []) := by
  refine spec_of Try.func13 rfl Try.ntmps13 rfl [(0, _)] rfl ?_; intro base F l0 hl0; (try simp only [List.cons_append] at hl0); (try simp only [List.nil_append] at hl0); subst hl0
  rcases h with h | h
  · repeat' (first | refine stw ?_ | refine And.intro ?_ ?_ | (intro e; exfalso; omega) | (intro e; subst e) | intro _)
    exact rt2 () rfl
  · repeat' (first | refine stw ?_ | refine And.intro ?_ ?_ | (intro e; exfalso; omega) | (intro e; subst e) | intro _)
    exact rt2 () rfl
instance sg_new : Known Try.prog 13 (∀ (z : Int), -1 ≤ z → z ≤ 1099511627776 → SpecH Try.prog 13 #[.int .i64 z] [] (fun p : Nat => .tuple #[.pointer (some ⟨p, 0, none⟩), .int .i64 0]) (fun p => [SegAt p [] [] z])) := ⟨fun z h1 h2 => by
  refine spec_of Try.func13 rfl Try.ntmps13 rfl [(0, _)] rfl ?_; intro base F l0 hl0; (try simp only [List.cons_append] at hl0); (try simp only [List.nil_append] at hl0); subst hl0
  repeat' (first | refine stw ?_ | refine And.intro ?_ ?_ | (intro e; exfalso; omega) | (intro e; subst e) | intro _)
  rename_i l0 l1 m p
  have iv : Inv ⟨[], [], z⟩ := ⟨by rw [sl_nil]; exact List.nodup_nil, fun x h => h.elim (fun h => (by cases h)) (fun h => (by cases h)), h1, h2⟩
  have st : Still ⟨[], [], z⟩ := fun h => h.1 rfl
  exact rt2 p rfl (he := (en2 (SegX.shutN (z0 := 0) (z1 := 0) (q0 := []) (q1 := []) iv CM.nil (by rw [sm_nil]; rfl) (by rw [sm_nil]; rfl) sl_nil.symm sl_nil.symm)).trans (en2 (SegAt.shut st)))⟩
set_option maxHeartbeats 4000000 in
instance sg_put : Known Try.prog 57 (∀ (p : Nat) (P T : List It) (L : Int) (xg : Int) (g : Nat) [NatI xg g] (xk : Int) (k : Nat) [NatI xk k] (xc : Int) (c : Nat) [NatI xc c] (P' T' : List It), PutTo g P T k c P' T' → k < 4194304 → c ≤ 1099511627776 → SpecH Try.prog 57 #[.pointer (some ⟨p, 0, none⟩), .int .i64 xg, .int .u32 xk, .int .i64 xc] [SegX p P T L] (fun _ : Unit => .tuple #[]) (fun _ => [SegX p P' T' L])) := ⟨fun p P T L xg g _ xk k _ xc c _ P' T' hp hk hc => by
  obtain rfl : xg = (g : Int) := NatI.out
  obtain rfl : xk = (k : Int) := NatI.out
  obtain rfl : xc = (c : Int) := NatI.out
  obtain ⟨hg, hnp, hnt⟩ := hp
  refine spec_of Try.func57 rfl Try.ntmps57 rfl [(0, _), (1, _), (2, _), (3, _)] rfl ?_; intro base F l0 hl0; (try simp only [List.cons_append] at hl0); (try simp only [List.nil_append] at hl0); subst hl0
  refine SegX.openC fun l0 l1 m kv iv cm => ?_
  obtain ⟨s1, s2⟩ := iv.sums
  rcases hg with ⟨rfl, rfl, rfl⟩ | ⟨rfl, rfl, rfl⟩
  · have e := lru_newS hnp hk
    have iv2 := iv.putP hnp hnt hk hc
    have cm2 := cm.putP (c := c) hnp hnt
    have e2 := sl_append (l := P) (m := [(k, c)])
    have e3 := sm_append (l := P) (m := [(k, c)])
    rw [sl_one] at e2
    rw [sm_one] at e3
    repeat' (first | ((fail_if_success (refine atD ?_)); refine stw ?_) | refine And.intro ?_ ?_ | (intro e; exfalso; omega) | (intro e; subst e) | intro _)
    refine tail 10 ?_
    repeat' (first | refine stw ?_ | refine And.intro ?_ ?_ | (intro e; exfalso; omega) | (intro e; subst e) | intro _)
    rw [show Lr.addL (sl P) k = sl (P ++ [(k, c)]) by rw [e, e2], show ((sm P : Nat) : Int) + (c : Int) = ((sm (P ++ [(k, c)]) : Nat) : Int) by rw [e3]; rfl]
    exact re0 () rfl (he := en2 (SegX.shut iv2 cm2))
  · have e := lru_newS hnt hk
    have iv2 := iv.putT hnp hnt hk hc
    have cm2 := cm.putT (c := c) hnp hnt
    have e2 := sl_append (l := T) (m := [(k, c)])
    have e3 := sm_append (l := T) (m := [(k, c)])
    rw [sl_one] at e2
    rw [sm_one] at e3
    repeat' (first | ((fail_if_success (refine atD ?_)); refine stw ?_) | refine And.intro ?_ ?_ | (intro e; exfalso; omega) | (intro e; subst e) | intro _)
    refine tail 10 ?_
    repeat' (first | refine stw ?_ | refine And.intro ?_ ?_ | (intro e; exfalso; omega) | (intro e; subst e) | intro _)
    rw [show Lr.addL (sl T) k = sl (T ++ [(k, c)]) by rw [e, e2], show ((sm T : Nat) : Int) + (c : Int) = ((sm (T ++ [(k, c)]) : Nat) : Int) by rw [e3]; rfl]
    exact re0 () rfl (he := en2 (SegX.shut iv2 cm2))⟩
theorem sg_of0 : Known Try.prog 89 (∀ (p l0 l1 m : Nat) (P T : List It) (L : Int) (xk : Int) (k : Nat) [NatI xk k] (g : Nat), OfS T k g → k < 4194304 → SpecH Try.prog 89 #[.pointer (some ⟨p, 0, none⟩), .int .u32 xk] [obj p 68 [.pointer (some ⟨l0, 0, none⟩), .pointer (some ⟨l1, 0, none⟩), .int .i64 (sm P : Nat), .int .i64 (sm T : Nat), .map (some m), .int .i64 L], LruAt l1 (sl T)] (fun _ : Unit => .int .i64 (g : Nat)) (fun _ => [obj p 68 [.pointer (some ⟨l0, 0, none⟩), .pointer (some ⟨l1, 0, none⟩), .int .i64 (sm P : Nat), .int .i64 (sm T : Nat), .map (some m), .int .i64 L], LruAt l1 (sl T)])) := ⟨fun p l0 l1 m P T L xk k _ g hg hk => by
  obtain rfl : xk = (k : Int) := NatI.out
  refine spec_of Try.func89 rfl Try.ntmps89 rfl [(0, _), (1, _)] rfl ?_; intro base F l0 hl0; (try simp only [List.cons_append] at hl0); (try simp only [List.nil_append] at hl0); subst hl0
  have hg := hg.out
  by_cases h : k ∈ sl T
  · rw [if_pos h] at hg
    subst hg
    haveI : Known Try.prog 26 (SpecH Try.prog 26 #[.pointer (some ⟨l1, 0, none⟩), .int .u32 (k : Nat)] [LruAt l1 (sl T)] (fun _ : Unit => .bool true) (fun _ => [LruAt l1 (sl T)])) := ⟨by
      have := lr_has.out l1 (sl T) (k : Nat) k (by omega)
      rwa [decide_eq_true h] at this⟩
    repeat' (first | refine stw ?_ | refine And.intro ?_ ?_ | (intro e; exfalso; omega) | (intro e; subst e) | intro _)
    exact rt1 () rfl
  · rw [if_neg h] at hg
    subst hg
    haveI : Known Try.prog 26 (SpecH Try.prog 26 #[.pointer (some ⟨l1, 0, none⟩), .int .u32 (k : Nat)] [LruAt l1 (sl T)] (fun _ : Unit => .bool false) (fun _ => [LruAt l1 (sl T)])) := ⟨by
      have := lr_has.out l1 (sl T) (k : Nat) k (by omega)
      rwa [decide_eq_false h] at this⟩
    repeat' (first | refine stw ?_ | refine And.intro ?_ ?_ | (intro e; exfalso; omega) | (intro e; subst e) | intro _)
    exact rt1 () rfl⟩
set_option maxHeartbeats 4000000 in
instance sg_take : Known Try.prog 58 (∀ (p : Nat) (P T : List It) (L : Int) (xk : Int) (k : Nat) [NatI xk k] (b : Bool), InS P T k b → k < 4194304 → SpecH Try.prog 58 #[.pointer (some ⟨p, 0, none⟩), .int .u32 xk] [SegX p P T L] (fun _ : Unit => .bool b) (fun _ => [SegX p (rm P k) (rm T k) L])) := ⟨fun p P T L xk k _ b hb hk => by
  obtain rfl : xk = (k : Int) := NatI.out
  have hb := hb.out
  refine spec_of Try.func58 rfl Try.ntmps58 rfl [(0, _), (1, _)] rfl ?_; intro base F l0 hl0; (try simp only [List.cons_append] at hl0); (try simp only [List.nil_append] at hl0); subst hl0
  haveI := sg_of0
  refine SegX.openC fun l0 l1 m kv iv cm => ?_
  obtain ⟨s1, s2⟩ := iv.sums
  obtain ⟨n1, n2, n3⟩ := iv.parts
  rcases cm.case k with ⟨hm, np, nt⟩ | ⟨c, hm, hc⟩
  · rw [decide_eq_false (fun h => h.elim np nt)] at hb
    subst hb
    rw [rm_none np, rm_none nt]
    repeat' (first | refine stw ?_ | refine And.intro ?_ ?_ | (intro e; exfalso; omega) | (intro e; subst e) | intro _)
    exact rt1 () rfl (he := en2 (SegX.shut iv cm))
  · have hin : k ∈ sl P ∨ k ∈ sl T := hc.imp (fun x => mem_sl.2 ⟨c, x⟩) (fun x => mem_sl.2 ⟨c, x⟩)
    rw [decide_eq_true hin] at hb
    subst hb
    have iv2 := iv.rm (k := k)
    have cm2 := cm.del (k := k)
    have e0 := rm_sl (k := k) n1
    have e1 := rm_sl (k := k) n2
    by_cases ht : k ∈ sl T
    · have np : k ∉ sl P := fun h => n3 k h ht
      have hc2 : (k, c) ∈ T := hc.resolve_left fun x => np (mem_sl.2 ⟨c, x⟩)
      have es := rm_sm n2 hc2
      have hof : OfS T k 1 := ⟨if_pos ht⟩
      rw [rm_none np] at iv2 cm2 ⊢
      repeat' (first | ((fail_if_success (refine atD ?_)); refine stw ?_) | refine And.intro ?_ ?_ | (intro e; exfalso; omega) | (intro e; subst e) | intro _)
      refine tail 10 ?_
      repeat' (first | refine stw ?_ | refine And.intro ?_ ?_ | (intro e; exfalso; omega) | (intro e; subst e) | intro _)
      rw [← e1, show ((sm T : Nat) : Int) - (c : Int) = ((sm (rm T k) : Nat) : Int) by omega]
      exact rt1 () rfl (he := en2 (SegX.shut iv2 cm2))
    · have hp := hin.resolve_right ht
      have hc2 : (k, c) ∈ P := hc.resolve_right fun x => ht (mem_sl.2 ⟨c, x⟩)
      have es := rm_sm n1 hc2
      have hof : OfS T k 0 := ⟨if_neg ht⟩
      rw [rm_none ht] at iv2 cm2 ⊢
      repeat' (first | ((fail_if_success (refine atD ?_)); refine stw ?_) | refine And.intro ?_ ?_ | (intro e; exfalso; omega) | (intro e; subst e) | intro _)
      refine tail 10 ?_
      repeat' (first | refine stw ?_ | refine And.intro ?_ ?_ | (intro e; exfalso; omega) | (intro e; subst e) | intro _)
      rw [← e0, show ((sm P : Nat) : Int) - (c : Int) = ((sm (rm P k) : Nat) : Int) by omega]
      exact rt1 () rfl (he := en2 (SegX.shut iv2 cm2))⟩
end Go.Proofs.Ytbkpojlbclehaaa
