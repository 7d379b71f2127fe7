/- segment, walked: the calls. -/
import Derived.Test.YtbkpojlbclehaaaSgW3
namespace Go.Proofs.Ytbkpojlbclehaaa
open Go.Lk Go.Sl Go.Lr Go.Sg
attribute [local irreducible] TK TL TC Th Bk Nx fnPost WA TQ OpQ OpN SpecH Rd Ent IterH RoundH Rb Rp fnPostM
attribute [local irreducible] Fld.addE Fld.addF Fld.befE Fld.befF Fld.inE Fld.remF Fld.first Fld.last Fld.next Fld.prev Fld.ofR Fld.listOf Fld.joinE Fld.joinF renE renG Fld.at Fld.set Fld.place
attribute [local irreducible] Lr.addL Lr.addE Lr.useL Lr.remE Sg.sm Sg.sl Sg.rm Sg.demN
theorem chk_yes {k : Nat} {z : Int} (h : fair k z) : Chk k z 0 := ⟨if_pos h⟩
theorem chk_no {k : Nat} {z : Int} (h : ¬ fair k z) : Chk k z 2 := ⟨if_neg h⟩
set_option maxHeartbeats 4000000 in
instance sg_add : Known Try.prog 19 (∀ (p : Nat) (P T : List It) (L : Int) (xk : Int) (k : Nat) [NatI xk k] (z : Int), SpecH Try.prog 19 #[.pointer (some ⟨p, 0, none⟩), .int .u32 xk, .int .i64 z] [SegAt p P T L] (fun _ : Unit => .int .i64 (Sg.addE (⟨P, T, L⟩ : St) k z)) (fun _ => [SegAt p (Sg.addS (⟨P, T, L⟩ : St) k z).P (Sg.addS (⟨P, T, L⟩ : St) k z).T L])) := ⟨fun p P T L xk k _ z => by
  obtain rfl : xk = (k : Int) := NatI.out
  refine spec_of Try.func19 rfl Try.ntmps19 rfl [(0, _), (1, _), (2, _)] rfl ?_; intro base F l0 hl0; (try simp only [List.cons_append] at hl0); (try simp only [List.nil_append] at hl0); subst hl0
  refine SegAt.openC fun st => ?_
  refine SegX.factsC fun iv0 hP hT => ?_
  by_cases hf : fair k z
  · have hc := chk_yes hf
    obtain ⟨hk, hz1, hz2⟩ := hf
    obtain ⟨c, rfl⟩ : ∃ c : Nat, z = c := ⟨z.toNat, by omega⟩
    by_cases hin : isIn (⟨P, T, L⟩ : St) k
    · rw [show Sg.addE (⟨P, T, L⟩ : St) k c = 11 by unfold Sg.addE; rw [if_neg (fun h => h ⟨hk, hz1, hz2⟩), if_pos hin], show Sg.addS (⟨P, T, L⟩ : St) k c = (⟨P, T, L⟩ : St) by unfold Sg.addS; rw [if_neg (fun h => h.2 hin)]]
      repeat' (first | refine stw ?_ | refine And.intro ?_ ?_ | (intro e; exfalso; omega) | (intro e; subst e) | intro _)
      refine SegX.openL fun l0 l1 m kv iv cm => ?_
      rcases cm.case k with ⟨hm, np, nt⟩ | ⟨w, hm, hw⟩
      · exact absurd hin (fun h => h.elim np nt)
      · repeat' (first | refine stw ?_ | refine And.intro ?_ ?_ | (intro e; exfalso; omega) | (intro e; subst e) | intro _)
        exact rt1 () rfl (he := (en2 (SegX.shut iv cm)).trans (en2 (SegAt.shut st)))
    · have nP : k ∉ sl P := fun h => hin (.inl h)
      have nT : k ∉ sl T := fun h => hin (.inr h)
      rw [show Sg.addE (⟨P, T, L⟩ : St) k c = 0 by unfold Sg.addE; rw [if_neg (fun h => h ⟨hk, hz1, hz2⟩), if_neg hin], show Sg.addS (⟨P, T, L⟩ : St) k c = ⟨P ++ [(k, c)], T, L⟩ by unfold Sg.addS; rw [if_pos ⟨⟨hk, hz1, hz2⟩, hin⟩]; rfl]
      have hput : PutTo 0 P T k c (P ++ [(k, c)]) T := ⟨.inl ⟨rfl, rfl, rfl⟩, nP, nT⟩
      have st2 : Still ⟨P ++ [(k, c)], T, L⟩ := st
      repeat' (first | refine stw ?_ | refine And.intro ?_ ?_ | (intro e; exfalso; omega) | (intro e; subst e) | intro _)
      refine SegX.openL fun l0 l1 m kv iv cm => ?_
      have hm := cm.none_iff.2 ⟨nP, nT⟩
      repeat' (first | ((fail_if_success (refine atCall 57 ?_)); refine stw ?_) | refine And.intro ?_ ?_ | (intro e; exfalso; omega) | (intro e; subst e) | intro _)
      refine TL.ent (en2 (SegX.shut iv cm)) ?_
      repeat' (first | refine stw ?_ | refine And.intro ?_ ?_ | (intro e; exfalso; omega) | (intro e; subst e) | intro _)
      exact rt1 () rfl (he := en2 (SegAt.shut st2))
  · have hc := chk_no hf
    rw [show Sg.addE (⟨P, T, L⟩ : St) k z = 2 by unfold Sg.addE; rw [if_pos hf], show Sg.addS (⟨P, T, L⟩ : St) k z = (⟨P, T, L⟩ : St) by unfold Sg.addS; rw [if_neg (fun h => hf h.1)]]
    repeat' (first | refine stw ?_ | refine And.intro ?_ ?_ | (intro e; exfalso; omega) | (intro e; subst e) | intro _)
    exact rt1 () rfl (he := en2 (SegAt.shut st))⟩
set_option maxHeartbeats 4000000 in
instance sg_remove : Known Try.prog 21 (∀ (p : Nat) (P T : List It) (L : Int) (xk : Int) (k : Nat) [NatI xk k], SpecH Try.prog 21 #[.pointer (some ⟨p, 0, none⟩), .int .u32 xk] [SegAt p P T L] (fun _ : Unit => .int .i64 (Sg.remE (⟨P, T, L⟩ : St) k)) (fun _ => [SegAt p (remS (⟨P, T, L⟩ : St) k).P (remS (⟨P, T, L⟩ : St) k).T L])) := ⟨fun p P T L xk k _ => by
  obtain rfl : xk = (k : Int) := NatI.out
  refine spec_of Try.func21 rfl Try.ntmps21 rfl [(0, _), (1, _)] rfl ?_; intro base F l0 hl0; (try simp only [List.cons_append] at hl0); (try simp only [List.nil_append] at hl0); subst hl0
  refine SegAt.openC fun st => ?_
  refine SegX.factsC fun iv0 hP hT => ?_
  obtain ⟨n1, n2, n3⟩ := iv0.parts
  have st2 := rm_still (k := k) st n2
  rw [show remS (⟨P, T, L⟩ : St) k = ⟨rm P k, rm T k, L⟩ from rfl]
  by_cases hf : k < 4194304
  · have hc : Chk k 0 0 := chk_yes ⟨hf, by omega, by omega⟩
    by_cases hin : isIn (⟨P, T, L⟩ : St) k
    · have hi : InS P T k true := ⟨decide_eq_true hin⟩
      rw [show Sg.remE (⟨P, T, L⟩ : St) k = 0 by unfold Sg.remE; rw [if_neg (by omega), if_pos hin]]
      repeat' (first | refine stw ?_ | refine And.intro ?_ ?_ | (intro e; exfalso; omega) | (intro e; subst e) | intro _)
      exact rt1 () rfl (he := en2 (SegAt.shut st2))
    · have hi : InS P T k false := ⟨decide_eq_false hin⟩
      rw [show Sg.remE (⟨P, T, L⟩ : St) k = 9 by unfold Sg.remE; rw [if_neg (by omega), if_neg hin]]
      repeat' (first | refine stw ?_ | refine And.intro ?_ ?_ | (intro e; exfalso; omega) | (intro e; subst e) | intro _)
      exact rt1 () rfl (he := en2 (SegAt.shut st2))
  · have hc : Chk k 0 2 := chk_no fun h => hf h.1
    rw [rm_none (fun h => hf (iv0.pslot k h)), rm_none (fun h => hf (iv0.tslot k h))]
    rw [show Sg.remE (⟨P, T, L⟩ : St) k = 2 by unfold Sg.remE; rw [if_pos (by omega)]]
    repeat' (first | refine stw ?_ | refine And.intro ?_ ?_ | (intro e; exfalso; omega) | (intro e; subst e) | intro _)
    exact rt1 () rfl (he := en2 (SegAt.shut st))⟩
set_option maxHeartbeats 8000000 in
instance sg_use : Known Try.prog 20 (∀ (p : Nat) (P T : List It) (L : Int) (xk : Int) (k : Nat) [NatI xk k] (z : Int), SpecH Try.prog 20 #[.pointer (some ⟨p, 0, none⟩), .int .u32 xk, .int .i64 z] [SegAt p P T L] (fun q : Option Addr × Nat => .tuple #[.slice q.1 (Sg.useG (⟨P, T, L⟩ : St) k z).length q.2, .int .i64 (Sg.useE (⟨P, T, L⟩ : St) k z)]) (fun q => [SegAt p (Sg.useS (⟨P, T, L⟩ : St) k z).P (Sg.useS (⟨P, T, L⟩ : St) k z).T L, RoS 1 q.1 (Sg.useG (⟨P, T, L⟩ : St) k z).length q.2 (u32s (Sg.useG (⟨P, T, L⟩ : St) k z))])) := ⟨fun p P T L xk k _ z => by
  obtain rfl : xk = (k : Int) := NatI.out
  refine spec_of Try.func20 rfl Try.ntmps20 rfl [(0, _), (1, _), (2, _)] rfl ?_; intro base F l0 hl0; (try simp only [List.cons_append] at hl0); (try simp only [List.nil_append] at hl0); subst hl0
  refine SegAt.openC fun st => ?_
  refine SegX.factsC fun iv0 hP hT => ?_
  by_cases hf : fair k z
  · have hc := chk_yes hf
    have hmid := midS_ok iv0 hf
    obtain ⟨hk, hz1, hz2⟩ := hf
    obtain ⟨c, rfl⟩ : ∃ c : Nat, z = c := ⟨z.toNat, by omega⟩
    by_cases hin : isIn (⟨P, T, L⟩ : St) k
    · have hi : InS P T k true := ⟨decide_eq_true hin⟩
      obtain ⟨q1, q2⟩ := not_rm (k := k) iv0
      obtain ⟨_, st3⟩ := demS_inv hmid
      rw [show Sg.useE (⟨P, T, L⟩ : St) k c = 0 by unfold Sg.useE; rw [if_neg (fun h => h ⟨hk, hz1, hz2⟩), if_pos hin], show Sg.useS (⟨P, T, L⟩ : St) k c = demS (midS (⟨P, T, L⟩ : St) k c) by unfold Sg.useS; rw [if_pos ⟨⟨hk, hz1, hz2⟩, hin⟩], show Sg.useG (⟨P, T, L⟩ : St) k c = demG (midS (⟨P, T, L⟩ : St) k c) by unfold Sg.useG; rw [if_pos ⟨⟨hk, hz1, hz2⟩, hin⟩]]
      have hgl := demG_len (s := midS (⟨P, T, L⟩ : St) k c)
      rw [hgl]
      by_cases hL : L = -1
      · have em : midS (⟨P, T, L⟩ : St) k c = ⟨rm P k ++ [(k, c)], rm T k, L⟩ := if_pos hL
        rw [em] at st3 ⊢
        unfold demS at st3 ⊢
        unfold demG
        dsimp only at st3 ⊢
        have hput : PutTo 0 (rm P k) (rm T k) k c (rm P k ++ [(k, c)]) (rm T k) := ⟨.inl ⟨rfl, rfl, rfl⟩, q1, q2⟩
        repeat' (first | refine stw ?_ | refine And.intro ?_ ?_ | (intro e; exfalso; omega) | (intro e; subst e) | intro _)
        refine SegX.openL fun l0 l1 m kv iv cm => ?_
        repeat' (first | ((fail_if_success (refine atCall 57 ?_)); refine stw ?_) | refine And.intro ?_ ?_ | (intro e; exfalso; omega) | (intro e; subst e) | intro _)
        refine TL.ent (en2 (SegX.shut iv cm)) ?_
        repeat' (first | refine stw ?_ | refine And.intro ?_ ?_ | (intro e; exfalso; omega) | (intro e; subst e) | intro _)
        rename_i a1 c1
        exact rt2 (a1, c1) rfl (he := (en2 (SegAt.shut st3)).trans en)
      · have em : midS (⟨P, T, L⟩ : St) k c = ⟨rm P k, rm T k ++ [(k, c)], L⟩ := if_neg hL
        rw [em] at st3 ⊢
        unfold demS at st3 ⊢
        unfold demG
        dsimp only at st3 ⊢
        have hput : PutTo 1 (rm P k) (rm T k) k c (rm P k) (rm T k ++ [(k, c)]) := ⟨.inr ⟨rfl, rfl, rfl⟩, q1, q2⟩
        repeat' (first | refine stw ?_ | refine And.intro ?_ ?_ | (intro e; exfalso; omega) | (intro e; subst e) | intro _)
        refine SegX.openL fun l0 l1 m kv iv cm => ?_
        repeat' (first | ((fail_if_success (refine atCall 57 ?_)); refine stw ?_) | refine And.intro ?_ ?_ | (intro e; exfalso; omega) | (intro e; subst e) | intro _)
        refine TL.ent (en2 (SegX.shut iv cm)) ?_
        repeat' (first | refine stw ?_ | refine And.intro ?_ ?_ | (intro e; exfalso; omega) | (intro e; subst e) | intro _)
        rename_i a1 c1
        exact rt2 (a1, c1) rfl (he := (en2 (SegAt.shut st3)).trans en)
    · have hi : InS P T k false := ⟨decide_eq_false hin⟩
      have np : k ∉ sl P := fun h => hin (.inl h)
      have nt : k ∉ sl T := fun h => hin (.inr h)
      rw [show Sg.useE (⟨P, T, L⟩ : St) k c = 9 by unfold Sg.useE; rw [if_neg (fun h => h ⟨hk, hz1, hz2⟩), if_neg hin], show Sg.useS (⟨P, T, L⟩ : St) k c = (⟨P, T, L⟩ : St) by unfold Sg.useS; rw [if_neg (fun h => hin h.2)], show Sg.useG (⟨P, T, L⟩ : St) k c = [] by unfold Sg.useG; rw [if_neg (fun h => hin h.2)]]
      repeat' (first | refine stw ?_ | refine And.intro ?_ ?_ | (intro e; exfalso; omega) | (intro e; subst e) | intro _)
      rw [rm_none np, rm_none nt]
      exact rt2 (none, 0) rfl (he := (en2 (SegAt.shut st)).trans en)
  · have hc := chk_no hf
    rw [show Sg.useE (⟨P, T, L⟩ : St) k z = 2 by unfold Sg.useE; rw [if_pos hf], show Sg.useS (⟨P, T, L⟩ : St) k z = (⟨P, T, L⟩ : St) by unfold Sg.useS; rw [if_neg (fun h => hf h.1)], show Sg.useG (⟨P, T, L⟩ : St) k z = [] by unfold Sg.useG; rw [if_neg (fun h => hf h.1)]]
    repeat' (first | refine stw ?_ | refine And.intro ?_ ?_ | (intro e; exfalso; omega) | (intro e; subst e) | intro _)
    exact rt2 (none, 0) rfl (he := (en2 (SegAt.shut st)).trans en)⟩
set_option maxHeartbeats 4000000 in
instance sg_limit : Known Try.prog 22 (∀ (p : Nat) (P T : List It) (L z : Int), SpecH Try.prog 22 #[.pointer (some ⟨p, 0, none⟩), .int .i64 z] [SegAt p P T L] (fun q : Option Addr × Nat => .tuple #[.slice q.1 (Sg.limG (⟨P, T, L⟩ : St) z).length q.2, .int .i64 (Sg.limE z)]) (fun q => [SegAt p (Sg.limS (⟨P, T, L⟩ : St) z).P (Sg.limS (⟨P, T, L⟩ : St) z).T (Sg.limS (⟨P, T, L⟩ : St) z).L, RoS 1 q.1 (Sg.limG (⟨P, T, L⟩ : St) z).length q.2 (u32s (Sg.limG (⟨P, T, L⟩ : St) z))])) := ⟨fun p P T L z => by
  refine spec_of Try.func22 rfl Try.ntmps22 rfl [(0, _), (1, _)] rfl ?_; intro base F l0 hl0; (try simp only [List.cons_append] at hl0); (try simp only [List.nil_append] at hl0); subst hl0
  refine SegAt.openC fun st => ?_
  refine SegX.factsC fun iv0 hP hT => ?_
  have hc : Chk 0 0 0 := ⟨rfl⟩
  by_cases hf : z < -1 ∨ 1099511627776 < z
  · rw [show Sg.limE z = 2 from if_pos hf, show Sg.limS (⟨P, T, L⟩ : St) z = (⟨P, T, L⟩ : St) from if_pos hf, show Sg.limG (⟨P, T, L⟩ : St) z = [] from if_pos hf]
    rcases hf with hf | hf
    · repeat' (first | refine stw ?_ | refine And.intro ?_ ?_ | (intro e; exfalso; omega) | (intro e; subst e) | intro _)
      exact rt2 (none, 0) rfl (he := (en2 (SegAt.shut st)).trans en)
    · repeat' (first | refine stw ?_ | refine And.intro ?_ ?_ | (intro e; exfalso; omega) | (intro e; subst e) | intro _)
      exact rt2 (none, 0) rfl (he := (en2 (SegAt.shut st)).trans en)
  · have hz : -1 ≤ z ∧ z ≤ 1099511627776 := by omega
    have iv1 := iv0.setL hz.1 hz.2
    obtain ⟨_, st3⟩ := demS_inv iv1
    have hgl := demG_len (s := ⟨P, T, z⟩)
    rw [show Sg.limE z = 0 from if_neg hf, show Sg.limS (⟨P, T, L⟩ : St) z = demS ⟨P, T, z⟩ from if_neg hf, show Sg.limG (⟨P, T, L⟩ : St) z = demG ⟨P, T, z⟩ from if_neg hf, hgl]
    unfold demS at st3 ⊢
    unfold demG
    dsimp only at st3 ⊢
    repeat' (first | refine stw ?_ | refine And.intro ?_ ?_ | (intro e; exfalso; omega) | (intro e; subst e) | intro _)
    refine SegX.openL fun l0 l1 m kv iv cm => ?_
    repeat' (first | ((fail_if_success (refine atCall 59 ?_)); refine stw ?_) | refine And.intro ?_ ?_ | (intro e; exfalso; omega) | (intro e; subst e) | intro _)
    refine TL.ent (en2 (SegX.shut iv1 cm)) ?_
    repeat' (first | refine stw ?_ | refine And.intro ?_ ?_ | (intro e; exfalso; omega) | (intro e; subst e) | intro _)
    rename_i a1 c1
    exact rt2 (a1, c1) rfl (he := (en2 (SegAt.shut st3)).trans en)⟩
end Go.Proofs.Ytbkpojlbclehaaa
