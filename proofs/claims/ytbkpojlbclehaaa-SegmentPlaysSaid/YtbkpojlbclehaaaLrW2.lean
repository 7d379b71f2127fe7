/- lru, walked: the calls. -/
import Derived.Test.YtbkpojlbclehaaaLrW1
namespace Go.Sl
/-- Here: a load of something of type 't'. -/
theorem atLoad (t : TypeId) {r : Option Nat} {P : Program} {base : World} {n : Nat} {ds : List Deferred} {Q : Exit → Act → World → Prop} {env : Env} {l : List HP} {all : Array Oper} {ro : List Oper} {dst : Option Tmp} {x : Operand} {ty : TypeId} {pos : String} {af : Array Edge} {g : Option (Nat × Bool)} (h : TL r P base n ds all (⟨dst, .load t x, ty, pos, af, g⟩ :: ro) Q env l) : TL r P base n ds all (⟨dst, .load t x, ty, pos, af, g⟩ :: ro) Q env l := h
end Go.Sl
namespace Go.Proofs.Ytbkpojlbclehaaa
open Go.Lk Go.Sl Go.Lr
attribute [local irreducible] TK TL TC Th Bk Nx fnPost WA TQ OpQ OpN SpecH Rd Ent IterH RoundH Rb Rp fnPostM
attribute [local irreducible] Fld.addE Fld.addF Fld.befE Fld.befF Fld.inE Fld.remF Fld.first Fld.last Fld.next Fld.prev Fld.ofR Fld.listOf Fld.joinE Fld.joinF renE renG Fld.at Fld.set Fld.place
set_option maxHeartbeats 4000000 in
instance lr_add : Known Try.prog 29 (∀ (p : Nat) (L : List Nat) (xs : Int) (s : Nat) [NatI xs s], s < 4294967296 → SpecH Try.prog 29 #[.pointer (some ⟨p, 0, none⟩), .int .u32 xs] [LruAt p L] (fun _ : Unit => .int .i64 (Lr.addE L s)) (fun _ => [LruAt p (Lr.addL L s)])) := ⟨fun p L xs s _ hs => by
  obtain rfl : xs = (s : Int) := NatI.out
  by_cases hb : (s : Int) < 4194304
  · refine spec_of Try.func29 rfl Try.ntmps29 rfl [(0, _), (1, _)] rfl ?_; intro base F l0 hl0; (try simp only [List.cons_append] at hl0); (try simp only [List.nil_append] at hl0); subst hl0
    refine LruAt.openC fun pl N w => ?_
    obtain ⟨w1, w2, w3, w4, w5⟩ := f1_wf w
    repeat' (first | refine stx ?_ | refine And.intro ?_ ?_ | (intro e; exfalso; omega) | (intro e; subst e) | intro _)
    rename_i M hM
    have hE : (F1 M L).addE 0 s = Lr.addE L s := by
      rw [f1_addE]; unfold Lr.addE
      simp only [show ¬ M ≤ s by have := hM.1; omega, show ¬ 4194304 ≤ s by omega, if_false]
    rw [hE]
    have hL : (F1 M L).addF 0 s false = F1 M (Lr.addL L s) := by
      unfold Lr.addL
      by_cases hm : s ∈ L
      · rw [if_pos (.inr hm), f1_addF_bad hm]
      · rw [if_neg (fun h => by rcases h with h | h; omega; exact hm h), f1_addF hM.1 hm]
    rw [hL]
    exact rt1 () rfl (en2 LruAt.shut)
  · haveI := lr_check_bad
    have e1 : Lr.addE L s = 2 := if_pos (by omega)
    have e2 : Lr.addL L s = L := if_pos (.inl (by omega))
    rw [e1, e2]
    refine spec_of Try.func29 rfl Try.ntmps29 rfl [(0, _), (1, _)] rfl ?_; intro base F l0 hl0; (try simp only [List.cons_append] at hl0); (try simp only [List.nil_append] at hl0); subst hl0
    refine LruAt.openC fun pl N w => ?_
    repeat' (first | refine stx ?_ | refine And.intro ?_ ?_ | (intro e; exfalso; omega) | (intro e; subst e) | intro _)
    exact rt1 () rfl (en2 LruAt.shut)⟩
theorem lr_checkL : Known Try.prog 61 (∀ (p : Nat) (L : List Nat) (s : Int), s < 4194304 → SpecH Try.prog 61 #[.pointer (some ⟨p, 0, none⟩), .int .u32 s] [LruAt p L] (fun _ : Unit => .int .i64 0) (fun _ => [LruAt p L])) := ⟨fun p L s hs => by
  refine spec_of Try.func61 rfl Try.ntmps61 rfl [(0, _), (1, _)] rfl ?_; intro base F l0 hl0; (try simp only [List.cons_append] at hl0); (try simp only [List.nil_append] at hl0); subst hl0
  refine LruAt.openC fun pl N w => ?_
  repeat' (first | refine stx ?_ | refine And.intro ?_ ?_ | (intro e; exfalso; omega) | (intro e; subst e) | intro _)
  exact rt1 () rfl (en2 LruAt.shut)⟩
theorem lr_checkL_bad : Known Try.prog 61 (∀ (p : Nat) (L : List Nat) (s : Int), ¬ s < 4194304 → SpecH Try.prog 61 #[.pointer (some ⟨p, 0, none⟩), .int .u32 s] [LruAt p L] (fun _ : Unit => .int .i64 2) (fun _ => [LruAt p L])) := ⟨fun p L s hs => by
  refine spec_of Try.func61 rfl Try.ntmps61 rfl [(0, _), (1, _)] rfl ?_; intro base F l0 hl0; (try simp only [List.cons_append] at hl0); (try simp only [List.nil_append] at hl0); subst hl0
  refine LruAt.openC fun pl N w => ?_
  repeat' (first | refine stx ?_ | refine And.intro ?_ ?_ | (intro e; exfalso; omega) | (intro e; subst e) | intro _)
  exact rt1 () rfl (en2 LruAt.shut)⟩
theorem lr_has0 : Known Try.prog 26 (∀ (p pl N : Nat) (L : List Nat) (s : Nat), s ∈ L → s < N → N ≤ 4194304 → SpecH Try.prog 26 #[.pointer (some ⟨p, 0, none⟩), .int .u32 (s : Nat)] [obj p 105 [.pointer (some ⟨pl, 0, none⟩)], FieldAt pl (F1 N L)] (fun _ : Unit => .bool true) (fun _ => [obj p 105 [.pointer (some ⟨pl, 0, none⟩)], FieldAt pl (F1 N L)])) := ⟨fun p pl N L s hm hN hN2 => by
  refine spec_of Try.func26 rfl Try.ntmps26 rfl [(0, _), (1, _)] rfl ?_; intro base F l0 hl0; (try simp only [List.cons_append] at hl0); (try simp only [List.nil_append] at hl0); subst hl0
  obtain ⟨o1, o2⟩ := f1_ofR (N := N) (L := L) (n := s)
  rw [if_neg (by omega), if_pos hm] at o2
  repeat' (first | refine stx ?_ | refine And.intro ?_ ?_ | (intro e; exfalso; omega) | (intro e; subst e) | intro _)
  exact rt1 () rfl⟩
theorem lr_remove0 : Known Try.prog 49 (∀ (p pl N : Nat) (L : List Nat) (s : Nat), s ∈ L → s < N → N ≤ 4194304 → SpecH Try.prog 49 #[.pointer (some ⟨p, 0, none⟩), .int .u32 (s : Nat)] [obj p 105 [.pointer (some ⟨pl, 0, none⟩)], FieldAt pl (F1 N L)] (fun _ : Unit => .int .i64 0) (fun _ => [obj p 105 [.pointer (some ⟨pl, 0, none⟩)], FieldAt pl (F1 N (L.erase s))])) := ⟨fun p pl N L s hm hN hN2 => by
  haveI := lr_has0
  refine spec_of Try.func49 rfl Try.ntmps49 rfl [(0, _), (1, _)] rfl ?_; intro base F l0 hl0; (try simp only [List.cons_append] at hl0); (try simp only [List.nil_append] at hl0); subst hl0
  have e1 := f1_remF hN hm
  have e2 : (F1 N L).inE s = 0 := by rw [f1_inE, if_neg (by omega), if_pos hm]
  repeat' (first | refine stx ?_ | refine And.intro ?_ ?_ | (intro e; exfalso; omega) | (intro e; subst e) | intro _)
  rw [e1, e2]
  exact rt1 () rfl⟩
instance lr_remove : Known Try.prog 49 (∀ (p : Nat) (L : List Nat) (xs : Int) (s : Nat) [NatI xs s], s < 4294967296 → SpecH Try.prog 49 #[.pointer (some ⟨p, 0, none⟩), .int .u32 xs] [LruAt p L] (fun _ : Unit => .int .i64 (Lr.remE L s)) (fun _ => [LruAt p (L.erase s)])) := ⟨fun p L xs s _ hs => by
  obtain rfl : xs = (s : Int) := NatI.out
  by_cases hm : s ∈ L
  · haveI := lr_has0
    refine spec_of Try.func49 rfl Try.ntmps49 rfl [(0, _), (1, _)] rfl ?_; intro base F l0 hl0; (try simp only [List.cons_append] at hl0); (try simp only [List.nil_append] at hl0); subst hl0
    refine LruAt.openC fun pl N w => ?_
    obtain ⟨w1, w2, w3, w4, w5⟩ := f1_wf w
    have hN := w2 s hm
    rw [show Lr.remE L s = 0 by unfold Lr.remE; rw [if_neg (by omega), if_pos hm]]
    have e1 := f1_remF hN hm
    have e2 : (F1 N L).inE s = 0 := by rw [f1_inE, if_neg (by omega), if_pos hm]
    repeat' (first | refine stx ?_ | refine And.intro ?_ ?_ | (intro e; exfalso; omega) | (intro e; subst e) | intro _)
    rw [e1, e2]
    exact rt1 () rfl (en2 LruAt.shut)
  · have hl : L.erase s = L := List.erase_of_not_mem hm
    rw [hl]
    haveI := lr_checkL
    by_cases hb : (s : Int) < 4194304
    · refine spec_of Try.func49 rfl Try.ntmps49 rfl [(0, _), (1, _)] rfl ?_; intro base F l0 hl0; (try simp only [List.cons_append] at hl0); (try simp only [List.nil_append] at hl0); subst hl0
      rw [show Lr.remE L s = 9 by unfold Lr.remE; rw [if_neg (by omega), if_neg hm]]
      repeat' (first | refine stx ?_ | refine And.intro ?_ ?_ | (intro e; exfalso; (first | omega | (apply e; assumption) | exact absurd e (by assumption) | fail)) | (intro e; subst e) | intro _)
      all_goals exact rt1 () rfl
    · haveI := lr_checkL_bad
      refine spec_of Try.func49 rfl Try.ntmps49 rfl [(0, _), (1, _)] rfl ?_; intro base F l0 hl0; (try simp only [List.cons_append] at hl0); (try simp only [List.nil_append] at hl0); subst hl0
      rw [show Lr.remE L s = 2 from if_pos (by omega)]
      repeat' (first | refine stx ?_ | refine And.intro ?_ ?_ | (intro e; exfalso; omega) | (intro e; subst e) | intro _)
      exact rt1 () rfl⟩
instance lr_use : Known Try.prog 27 (∀ (p : Nat) (L : List Nat) (xs : Int) (s : Nat) [NatI xs s], s < 4294967296 → SpecH Try.prog 27 #[.pointer (some ⟨p, 0, none⟩), .int .u32 xs] [LruAt p L] (fun _ : Unit => .int .i64 (Lr.remE L s)) (fun _ => [LruAt p (Lr.useL L s)])) := ⟨fun p L xs s _ hs => by
  obtain rfl : xs = (s : Int) := NatI.out
  by_cases hm : s ∈ L
  · haveI := lr_remove0
    refine spec_of Try.func27 rfl Try.ntmps27 rfl [(0, _), (1, _)] rfl ?_; intro base F l0 hl0; (try simp only [List.cons_append] at hl0); (try simp only [List.nil_append] at hl0); subst hl0
    refine LruAt.openC fun pl N w => ?_
    obtain ⟨w1, w2, w3, w4, w5⟩ := f1_wf w
    have hN := w2 s hm
    rw [show Lr.remE L s = 0 by unfold Lr.remE; rw [if_neg (by omega), if_pos hm], show Lr.useL L s = L.erase s ++ [s] from if_pos hm]
    have hm' : s ∉ L.erase s := fun h => by rw [w1.mem_erase_iff] at h; exact h.1 rfl
    have e1 : (F1 N (L.erase s)).addF 0 s false = F1 N (L.erase s ++ [s]) := f1_addF hN hm'
    have e2 : (F1 N (L.erase s)).addE 0 s = 0 := by rw [f1_addE, if_neg (by omega), if_neg hm']
    repeat' (first | refine stx ?_ | refine And.intro ?_ ?_ | (intro e; exfalso; omega) | (intro e; subst e) | intro _)
    rw [e1, e2]
    exact rt1 () rfl (en2 LruAt.shut)
  · have hE : Lr.remE L s ≠ 0 := by unfold Lr.remE; rw [if_neg hm]; split <;> decide
    have hl : L.erase s = L := List.erase_of_not_mem hm
    rw [show Lr.useL L s = L from if_neg hm]
    refine spec_of Try.func27 rfl Try.ntmps27 rfl [(0, _), (1, _)] rfl ?_; intro base F l0 hl0; (try simp only [List.cons_append] at hl0); (try simp only [List.nil_append] at hl0); subst hl0
    repeat' (first | refine stx ?_ | refine And.intro ?_ ?_ | (intro e; exfalso; omega) | (intro e; subst e) | intro _)
    rw [hl]
    exact rt1 () rfl⟩
instance lr_len : Known Try.prog 47 (∀ (p : Nat) (L : List Nat), SpecH Try.prog 47 #[.pointer (some ⟨p, 0, none⟩)] [LruAt p L] (fun _ : Unit => .int .i64 (L.length : Nat)) (fun _ => [LruAt p L])) := ⟨fun p L => by
  refine spec_of Try.func47 rfl Try.ntmps47 rfl [(0, _)] rfl ?_; intro base F l0 hl0; (try simp only [List.cons_append] at hl0); (try simp only [List.nil_append] at hl0); subst hl0
  refine LruAt.openC fun pl N w => ?_
  have e1 : (F1 N L).listOf 0 = L := f1_listOf
  repeat' (first | refine stx ?_ | refine And.intro ?_ ?_ | (intro e; exfalso; omega) | (intro e; subst e) | intro _)
  rw [e1]
  exact rt1 () rfl (en2 LruAt.shut)⟩
instance lr_copy : Known Try.prog 74 (∀ (p : Nat) (L : List Nat), SpecH Try.prog 74 #[.pointer (some ⟨p, 0, none⟩)] [LruAt p L] (fun c : Nat => .pointer (some ⟨c, 0, none⟩)) (fun c => [LruAt p L, LruAt c L])) := ⟨fun p L => by
  refine spec_of Try.func74 rfl Try.ntmps74 rfl [(0, _)] rfl ?_; intro base F l0 hl0; (try simp only [List.cons_append] at hl0); (try simp only [List.nil_append] at hl0); subst hl0
  refine LruAt.openC fun pl N w => ?_
  repeat' (first | refine stx ?_ | refine And.intro ?_ ?_ | (intro e; exfalso; omega) | (intro e; subst e) | intro _)
  rename_i pl2 p2
  refine rt1 p2 rfl ?_
  refine Ent.trans (b := obj p 105 [.pointer (some ⟨pl, 0, none⟩)] :: FieldAt pl (F1 N L) :: obj p2 105 [.pointer (some ⟨pl2, 0, none⟩)] :: FieldAt pl2 (F1 N L) :: [F]) en ?_
  exact LruAt.shut.trans (Ent.cons (.here _ _) LruAt.shut)⟩
instance lr_all : Known Try.prog 30 (∀ (p : Nat) (L : List Nat), SpecH Try.prog 30 #[.pointer (some ⟨p, 0, none⟩)] [LruAt p L] (fun c : Nat => .func (.func 98) #[] #[.pointer (some ⟨c, 0, none⟩)]) (fun c => [LruAt p L, SeqC c L])) := ⟨fun p L => by
  refine spec_of Try.func30 rfl Try.ntmps30 rfl [(0, _)] rfl ?_; intro base F l0 hl0; (try simp only [List.cons_append] at hl0); (try simp only [List.nil_append] at hl0); subst hl0
  refine LruAt.openC fun pl N w => ?_
  have e1 : (F1 N L).listOf 0 = L := f1_listOf
  repeat' (first | refine stx ?_ | refine And.intro ?_ ?_ | (intro e; exfalso; omega) | (intro e; subst e) | intro _)
  rename_i c
  rw [e1]
  exact rt1 c rfl (en2 LruAt.shut)⟩
end Go.Proofs.Ytbkpojlbclehaaa
