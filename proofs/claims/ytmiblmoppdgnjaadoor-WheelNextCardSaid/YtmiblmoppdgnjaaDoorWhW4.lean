/- wheel, walked: the bucket of a slot; a slot is taken out. -/
import Derived.Test.YtmiblmoppdgnjaaDoorWhW3
namespace Go.Wh
open Go.Lk Go.Sl Go.Lf Go.Proofs.YtmiblmoppdgnjaaDoor
section
variable {r0 : Option Nat} {P : Program} {base : World} {n : Nat} {ds : List Deferred} {Q : Exit → Act → World → Prop} {env : Env} {l r : List HP} {p : Nat} {m : List It} {all : Array Oper} {ro : List Oper}
theorem WheelAt.openL (h : ∀ (pl N : Nat) (f : Nat → BitVec 64), MO N m → MK f m → Wf (FW N m) → TL r0 P base n ds all ro Q env (obj p 63 [.pointer (some ⟨pl, 0, none⟩), .int .u64 ((f 0).toNat : Nat), .int .u64 ((f 1).toNat : Nat), .int .u64 ((f 2).toNat : Nat), .int .u64 ((f 3).toNat : Nat), .int .i64 (m.length : Nat)] :: FieldAt pl (FW N m) :: r)) (hr : Rem l (WheelAt p m) r := by (repeat (first | (with_reducible exact Rem.here _ _) | (with_reducible apply Rem.there) | fail)); done) : TL r0 P base n ds all ro Q env l := WheelAt.openK h hr
end
end Go.Wh
namespace Go.Proofs.YtmiblmoppdgnjaaDoor
open Go.Lk Go.Sl Go.Lf Go.Wh
attribute [local irreducible] TK TL TC Th Bk Nx fnPost WA TQ OpQ OpN SpecH Rd Ent IterH RoundH Rb Rp fnPostM
attribute [local irreducible] Fld.addE Fld.addF Fld.befE Fld.befF Fld.inE Fld.remF Fld.first Fld.last Fld.next Fld.prev Fld.ofR Fld.listOf Fld.joinE Fld.joinF renE renG Fld.at Fld.set Fld.place
attribute [local irreducible] Lf.wo Lf.cntOf Lf.grp
set_option maxHeartbeats 4000000 in
instance wh_bucket : Known Tryd.prog 42 (∀ (p : Nat) (m : List It) (xs : Int) (s : Nat) [NatI xs s], s < 4294967296 → SpecH Tryd.prog 42 #[.pointer (some ⟨p, 0, none⟩), .int .u32 xs] [WheelAt p m] (fun _ : Unit => .tuple #[.int .i64 (cntOf m s : Nat), .int .i64 (slotE m s)]) (fun _ => [WheelAt p m])) := ⟨fun p m xs s _ hs => by
  obtain rfl : xs = (s : Int) := NatI.out
  refine spec_of Tryd.func42 rfl Tryd.ntmps42 rfl [(0, _), (1, _)] rfl ?_; intro base F l0 hl0; (try simp only [List.cons_append] at hl0); (try simp only [List.nil_append] at hl0); subst hl0
  refine WheelAt.openC fun pl N f o mk w => ?_
  have hNb := w.bound.2.1
  change N ≤ 4194304 at hNb
  by_cases hbad : 4194304 ≤ s
  · have e1 : slotE m s = 2 := if_pos hbad
    have hm : s ∉ ks m := fun h => by
      obtain ⟨y, hy, rfl⟩ := List.mem_map.1 h
      have := o.lt y hy; omega
    rw [e1, cntOf_not hm]
    repeat' (first | ((fail_if_success (refine atCall 31 ?_)); refine stz ?_) | refine And.intro ?_ ?_ | (intro e; exfalso; omega) | (intro e; subst e) | intro _)
    refine call (wh_check_bad.out p pl f _ s 0 (by omega)) ?_
    repeat' (first | refine stz ?_ | refine And.intro ?_ ?_ | (intro e; exfalso; omega) | (intro e; subst e) | intro _)
    exact rt2 () rfl (he := en2 (WheelAt.shut o mk))
  · repeat' (first | ((fail_if_success (refine atCall 31 ?_)); refine stz ?_) | refine And.intro ?_ ?_ | (intro e; exfalso; omega) | (intro e; subst e) | intro _)
    refine call (wh_check.out p pl f _ s 0 (by omega) (by omega) (by omega)) ?_
    by_cases hm : s ∈ ks m
    · have e1 : slotE m s = 0 := by unfold slotE; rw [if_neg hbad, if_pos hm]
      have hn : s < N := by
        obtain ⟨y, hy, rfl⟩ := List.mem_map.1 hm
        exact o.lt y hy
      rw [e1]
      clear hbad e1
      haveI : Known Tryd.prog 56 (SpecH Tryd.prog 56 #[.pointer (some ⟨pl, 0, none⟩), .int .u32 (s : Nat)] [FieldAt pl (FW N m)] (fun _ : Unit => .tuple #[.int .i64 (cntOf m s : Nat), .int .i64 0]) (fun _ => [FieldAt pl (FW N m)])) := ⟨by
        have h := fOf.out pl (FW N m) (s : Nat) s hs
        rwa [((fw_of w o hn).1 hm).1] at h⟩
      repeat' (first | refine stz ?_ | refine And.intro ?_ ?_ | (intro e; exfalso; omega) | (intro e; subst e) | intro _)
      exact rt2 () rfl (he := en2 (WheelAt.shut o mk))
    · have e1 : slotE m s = 9 := by unfold slotE; rw [if_neg hbad, if_neg hm]
      rw [e1, cntOf_not hm]
      clear hbad e1
      haveI : Known Tryd.prog 56 (SpecH Tryd.prog 56 #[.pointer (some ⟨pl, 0, none⟩), .int .u32 (s : Nat)] [FieldAt pl (FW N m)] (fun _ : Unit => .tuple #[.int .i64 0, .int .i64 (if N ≤ s then 2 else 9)]) (fun _ => [FieldAt pl (FW N m)])) := ⟨by
        have h := fOf.out pl (FW N m) (s : Nat) s hs
        by_cases hn : N ≤ s
        · rw [fw_far hn] at h; rw [if_pos hn]; exact h
        · rw [(fw_of w o (by omega)).2 hm] at h; rw [if_neg hn]; exact h⟩
      by_cases hn : N ≤ s
      · rw [if_pos hn] at *
        repeat' (first | refine stz ?_ | refine And.intro ?_ ?_ | (intro e; exfalso; omega) | (intro e; subst e) | intro _)
        exact rt2 () rfl (he := en2 (WheelAt.shut o mk))
      · rw [if_neg hn] at *
        repeat' (first | refine stz ?_ | refine And.intro ?_ ?_ | (intro e; exfalso; omega) | (intro e; subst e) | intro _)
        exact rt2 () rfl (he := en2 (WheelAt.shut o mk))⟩
set_option maxHeartbeats 4000000 in
instance wh_remove : Known Tryd.prog 38 (∀ (p : Nat) (m : List It) (xs : Int) (s : Nat) [NatI xs s], s < 4294967296 → SpecH Tryd.prog 38 #[.pointer (some ⟨p, 0, none⟩), .int .u32 xs] [WheelAt p m] (fun _ : Unit => .tuple #[.int .i64 (cntOf m s : Nat), .int .i64 (slotE m s)]) (fun _ => [WheelAt p (wo m s)])) := ⟨fun p m xs s _ hs => by
  obtain rfl : xs = (s : Int) := NatI.out
  refine spec_of Tryd.func38 rfl Tryd.ntmps38 rfl [(0, _), (1, _)] rfl ?_; intro base F l0 hl0; (try simp only [List.cons_append] at hl0); (try simp only [List.nil_append] at hl0); subst hl0
  refine WheelAt.factsC (p := p) (m := m) (fun h0 => ?_) (by (repeat (first | (with_reducible exact Rem.here _ _) | (with_reducible apply Rem.there) | fail)); done)
  obtain ⟨N0, o0, hN0⟩ := h0
  by_cases hm : s ∈ ks m
  · have hs2 : s < 4194304 := by
      obtain ⟨y, hy, rfl⟩ := List.mem_map.1 hm
      have := o0.lt y hy; omega
    have e1 : slotE m s = 0 := by unfold slotE; rw [if_neg (by omega), if_pos hm]
    haveI : Known Tryd.prog 42 (SpecH Tryd.prog 42 #[.pointer (some ⟨p, 0, none⟩), .int .u32 (s : Nat)] [WheelAt p m] (fun _ : Unit => .tuple #[.int .i64 (cntOf m s : Nat), .int .i64 0]) (fun _ => [WheelAt p m])) := ⟨by
      have h := wh_bucket.out p m (s : Nat) s hs
      rwa [e1] at h⟩
    rw [e1]
    clear e1 hs2
    repeat' (first | refine stz ?_ | refine And.intro ?_ ?_ | (intro e; exfalso; omega) | (intro e; subst e) | intro _)
    refine WheelAt.openL fun pl N f o mk w => ?_
    obtain ⟨a1, a2, o2, hg⟩ := fw_rem w o hm
    obtain ⟨y, hy, hys⟩ := List.mem_map.1 hm
    have hc : cntOf m s < 256 := by
      have := o.bk y hy
      rwa [← hys, cntOf_mem o.nd (show (y.1, y.2) ∈ m from hy)]
    have hwl := Lf.wo_len o.nd hm
    haveI : Known Tryd.prog 49 (SpecH Tryd.prog 49 #[.pointer (some ⟨pl, 0, none⟩), .int .u32 (s : Nat)] [FieldAt pl (FW N m)] (fun _ : Unit => .int .i64 0) (fun _ => [FieldAt pl (FW N (wo m s))])) := ⟨by
      have h := fRemove.out pl (FW N m) (s : Nat) s hs
      rwa [a1, a2] at h⟩
    have hNb := w.bound.2.1
    change N ≤ 4194304 at hNb
    have hml := o.len
    have hLen : SpecH Tryd.prog 50 #[.pointer (some ⟨pl, 0, none⟩), .int .i64 (cntOf m s : Nat)] [FieldAt pl (FW N (wo m s))] (fun _ : Unit => .int .i64 ((grp (wo m s) (cntOf m s)).length : Nat)) (fun _ => [FieldAt pl (FW N (wo m s))]) := by
      have h := fLen.out pl (FW N (wo m s)) (cntOf m s : Nat)
      have e : (FW N (wo m s)).listOf (cntOf m s : Nat) = grp (wo m s) (cntOf m s) := by
        unfold Fld.listOf
        rw [if_pos (by omega), Int.toNat_natCast, fw_at, if_pos hc]
      rwa [e] at h
    by_cases he : (grp (wo m s) (cntOf m s)).length = 0
    · have mk2 := mk_clear (m' := wo m s) mk hc (fun c hne => by rw [hg, if_neg hne]) (List.length_eq_zero_iff.1 he)
      haveI : Known Tryd.prog 50 (SpecH Tryd.prog 50 #[.pointer (some ⟨pl, 0, none⟩), .int .i64 (cntOf m s : Nat)] [FieldAt pl (FW N (wo m s))] (fun _ : Unit => .int .i64 0) (fun _ => [FieldAt pl (FW N (wo m s))])) := ⟨by rw [he] at hLen; exact hLen⟩
      repeat' (first | refine stz ?_ | refine And.intro ?_ ?_ | (intro e; exfalso; omega) | (intro e; subst e) | intro _)
      refine rt2 () rfl (he := en2 (WheelAt.shutN o2 mk2 ?_))
      omega
    · have mk2 := mk_same (m' := wo m s) mk (fun c => by
        by_cases hcc : c = cntOf m s
        · subst hcc
          refine iff_of_false (fun h => he (by rw [h]; rfl)) (fun h => ?_)
          have h3 : (s, cntOf m s) ∈ m := by rw [← hys, cntOf_mem o.nd (show (y.1, y.2) ∈ m from hy)]; exact hy
          have := mem_grp.2 h3
          rw [h] at this; cases this
        · rw [hg, if_neg hcc])
      haveI : Known Tryd.prog 50 (SpecH Tryd.prog 50 #[.pointer (some ⟨pl, 0, none⟩), .int .i64 (cntOf m s : Nat)] [FieldAt pl (FW N (wo m s))] (fun _ : Unit => .int .i64 ((grp (wo m s) (cntOf m s)).length : Nat)) (fun _ => [FieldAt pl (FW N (wo m s))])) := ⟨hLen⟩
      repeat' (first | refine stz ?_ | refine And.intro ?_ ?_ | (intro e; exfalso; omega) | (intro e; subst e) | intro _)
      refine rt2 () rfl (he := en2 (WheelAt.shutN o2 mk2 ?_))
      omega
  · rw [wo_not hm]
    have e1 : slotE m s = 2 ∨ slotE m s = 9 := by
      unfold slotE
      rw [if_neg hm]
      split
      · exact .inl rfl
      · exact .inr rfl
    have e2 : cntOf m s = 0 := cntOf_not hm
    haveI : Known Tryd.prog 42 (SpecH Tryd.prog 42 #[.pointer (some ⟨p, 0, none⟩), .int .u32 (s : Nat)] [WheelAt p m] (fun _ : Unit => .tuple #[.int .i64 0, .int .i64 (slotE m s)]) (fun _ => [WheelAt p m])) := ⟨by
      have h := wh_bucket.out p m (s : Nat) s hs
      rwa [e2] at h⟩
    rw [e2]
    repeat' (first | refine stz ?_ | refine And.intro ?_ ?_ | (intro e; exfalso; omega) | (intro e; subst e) | intro _)
    exact rt2 () rfl⟩
end Go.Proofs.YtmiblmoppdgnjaaDoor
