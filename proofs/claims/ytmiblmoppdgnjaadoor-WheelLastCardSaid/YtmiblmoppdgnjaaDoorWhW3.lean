/- wheel, walked: slots that are put, removed, asked for; buckets. -/
import Derived.Test.YtmiblmoppdgnjaaDoorWhW2
namespace Go.Wh
open Go.Lk Go.Sl Go.Lf Go.Proofs.YtmiblmoppdgnjaaDoor
section
variable {r : List HP} {p : Nat} {m m' : List It}
/-- A wheel whose number of slots is spelt otherwise. -/
theorem WheelAt.shutN {pl N : Nat} {f : Nat → BitVec 64} {z : Int} (h1 : MO N m) (h2 : MK f m) (hz : z = (m.length : Nat)) : Ent (obj p 63 [.pointer (some ⟨pl, 0, none⟩), .int .u64 ((f 0).toNat : Nat), .int .u64 ((f 1).toNat : Nat), .int .u64 ((f 2).toNat : Nat), .int .u64 ((f 3).toNat : Nat), .int .i64 z] :: FieldAt pl (FW N m) :: r) (WheelAt p m :: r) := by
  subst hz; exact WheelAt.shut h1 h2
end
end Go.Wh
namespace Go.Proofs.YtmiblmoppdgnjaaDoor
open Go.Lk Go.Sl Go.Lf Go.Wh
attribute [local irreducible] TK TL TC Th Bk Nx fnPost WA TQ OpQ OpN SpecH Rd Ent IterH RoundH Rb Rp fnPostM
attribute [local irreducible] Fld.addE Fld.addF Fld.befE Fld.befF Fld.inE Fld.remF Fld.first Fld.last Fld.next Fld.prev Fld.ofR Fld.listOf Fld.joinE Fld.joinF renE renG Fld.at Fld.set Fld.place
attribute [local irreducible] Lf.wo Lf.cntOf Lf.grp
set_option maxHeartbeats 4000000 in
instance wh_put : Known Tryd.prog 11 (∀ (p : Nat) (m : List It) (xs : Int) (s : Nat) [NatI xs s] (b : Int), s < 4294967296 → SpecH Tryd.prog 11 #[.pointer (some ⟨p, 0, none⟩), .int .u32 xs, .int .i64 b] [WheelAt p m] (fun _ : Unit => .int .i64 (whE m s b)) (fun _ => [WheelAt p (whM m s b)])) := ⟨fun p m xs s _ b hs => by
  obtain rfl : xs = (s : Int) := NatI.out
  by_cases hbad : 4194304 ≤ s ∨ badB b
  · have e1 : whE m s b = 2 := if_pos hbad
    have e2 : whM m s b = m := if_pos (.inl hbad)
    rw [e1, e2]
    haveI := wh_check_bad
    have hb2 : (4194304 : Int) ≤ (s : Int) ∨ b < 0 ∨ 256 ≤ b := by
      rcases hbad with h | h | h
      · exact .inl (by omega)
      · exact .inr (.inl h)
      · exact .inr (.inr h)
    refine spec_of Tryd.func11 rfl Tryd.ntmps11 rfl [(0, _), (1, _), (2, _)] rfl ?_; intro base F l0 hl0; (try simp only [List.cons_append] at hl0); (try simp only [List.nil_append] at hl0); subst hl0
    refine WheelAt.openC fun pl N f o mk w => ?_
    repeat' (first | refine stz ?_ | refine And.intro ?_ ?_ | (intro e; exfalso; omega) | (intro e; subst e) | intro _)
    exact rt1 () rfl (he := en2 (WheelAt.shut o mk))
  · have hs2 : (s : Int) < 4194304 := by by_cases h : 4194304 ≤ s; exact absurd (.inl h) hbad; omega
    have hb0 : ¬ badB b := fun h => hbad (.inr h)
    unfold badB at hb0
    obtain ⟨B, rfl⟩ : ∃ B : Nat, b = B := ⟨b.toNat, by omega⟩
    have hB : B < 256 := by omega
    refine spec_of Tryd.func11 rfl Tryd.ntmps11 rfl [(0, _), (1, _), (2, _)] rfl ?_; intro base F l0 hl0; (try simp only [List.cons_append] at hl0); (try simp only [List.nil_append] at hl0); subst hl0
    refine WheelAt.openC fun pl N f o mk w => ?_
    have hml := o.len
    have hNb := w.bound.2.1
    change N ≤ 4194304 at hNb
    iterate 12 (refine stz ?_)
    refine call (wh_check.out p pl f _ s B (by omega) (by omega) (by omega)) ?_
    by_cases hm : s ∈ ks m
    · have e1 : whE m s B = 11 := by unfold whE; rw [if_neg hbad, if_pos hm]
      have e2 : whM m s B = m := if_pos (.inr hm)
      rw [e1, e2]
      clear hbad hb0 e1 e2
      repeat' (first | ((fail_if_success (refine atCall 32 ?_)); refine stz ?_) | refine And.intro ?_ ?_ | (intro e; exfalso; omega) | (intro e; subst e) | intro _)
      refine call (wh_room.out p pl N s m f _ (by omega) o) ?_
      intro M
      refine TL.fact fun hM => ?_
      have oM := o.up hM.2
      haveI : Known Tryd.prog 33 (SpecH Tryd.prog 33 #[.pointer (some ⟨pl, 0, none⟩), .int .i64 (B : Nat), .int .u32 (s : Nat)] [FieldAt pl (FW M m)] (fun _ : Unit => .int .i64 11) (fun _ => [FieldAt pl (FW M m)])) := ⟨by
        obtain ⟨a1, a2⟩ := fw_busy oM hB hm
        have h := fBack.out pl (FW M m) (B : Nat) (s : Nat) s hs
        rwa [a1, a2] at h⟩
      repeat' (first | refine stz ?_ | refine And.intro ?_ ?_ | (intro e; exfalso; omega) | (intro e; subst e) | intro _)
      exact rt1 () rfl (he := en2 (WheelAt.shut oM mk))
    · have e1 : whE m s B = 0 := by unfold whE; rw [if_neg hbad, if_neg hm]
      have e2 : whM m s B = m ++ [(s, B)] := by unfold whM; rw [if_neg (fun h => by rcases h with h | h; exact hbad h; exact hm h)]; rfl
      rw [e1, e2]
      clear hbad hb0 e1 e2
      repeat' (first | ((fail_if_success (refine atCall 32 ?_)); refine stz ?_) | refine And.intro ?_ ?_ | (intro e; exfalso; omega) | (intro e; subst e) | intro _)
      refine call (wh_room.out p pl N s m f _ (by omega) o) ?_
      intro M
      refine TL.fact fun hM => ?_
      have oM := o.up hM.2
      haveI : Known Tryd.prog 33 (SpecH Tryd.prog 33 #[.pointer (some ⟨pl, 0, none⟩), .int .i64 (B : Nat), .int .u32 (s : Nat)] [FieldAt pl (FW M m)] (fun _ : Unit => .int .i64 0) (fun _ => [FieldAt pl (FW M (m ++ [(s, B)]))])) := ⟨by
        obtain ⟨a1, a2, _⟩ := fw_add oM hB hM.1 hm
        have h := fBack.out pl (FW M m) (B : Nat) (s : Nat) s hs
        rwa [a1, a2] at h⟩
      have o2 := (fw_add oM hB hM.1 hm).2.2
      have mk2 := mk_set (m' := m ++ [(s, B)]) mk hB (fun c hc => by rw [grp_app]; simp [grp, Ne.symm hc]) (by rw [grp_app]; simp [grp])
      repeat' (first | refine stz ?_ | refine And.intro ?_ ?_ | (intro e; exfalso; omega) | (intro e; subst e) | intro _)
      refine rt1 () rfl (he := en2 (WheelAt.shutN o2 mk2 ?_))
      simp⟩
end Go.Proofs.YtmiblmoppdgnjaaDoor
