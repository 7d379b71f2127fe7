/- The laws of wheel, walked: the lowest bucket that is not empty. -/
import Derived.Test.YtmiblmoppdgnjaaDoorWhL5
namespace Go.Wh
open Go.Lk Go.Sl Go.Lf
/-- Slots from 0 on, in buckets. -/
def mB (zs : List Int) (i : Nat) : List It := (List.range i).map fun j => (j, (zs.getD j 0).toNat)
variable {zs : List Int} {i : Nat}
theorem mB_len : (mB zs i).length = i := by simp [mB]
theorem mB_ks : ks (mB zs i) = List.range i := by
  unfold ks mB
  rw [List.map_map]
  conv => rhs; rw [← List.map_id (List.range i)]
  rfl
theorem mB_succ : mB zs (i + 1) = mB zs i ++ [(i, (zs.getD i 0).toNat)] := by unfold mB; rw [List.range_succ, List.map_append]; rfl
theorem mB_not : i ∉ ks (mB zs i) := by rw [mB_ks]; simp
theorem mB_put (hi : i < 4194304) (hz : 0 ≤ zs.getD i 0 ∧ zs.getD i 0 < 256) : whM (mB zs i) i (zs.getD i 0) = mB zs (i + 1) ∧ whE (mB zs i) i (zs.getD i 0) = 0 := by
  have h : ¬ (4194304 ≤ i ∨ badB (zs.getD i 0)) := by unfold badB; omega
  constructor
  · unfold whM; rw [if_neg (fun k => by rcases k with k | k; exact h k; exact mB_not k), mB_succ]
  · unfold whE; rw [if_neg h, if_neg mB_not]
theorem mB_mo (hz : ∀ z ∈ zs, 0 ≤ z ∧ z < 256) (hi : i ≤ zs.length) (h4 : i ≤ 4194304) : MO 4194304 (mB zs i) := by
  refine ⟨by rw [mB_ks]; exact List.nodup_range, fun y hy => ?_, fun y hy => ?_⟩
  · obtain ⟨j, hj, rfl⟩ := List.mem_map.1 hy
    have hj2 := List.mem_range.1 hj
    have := hz (zs.getD j 0) (by rw [List.getD_eq_getElem?_getD, List.getElem?_eq_getElem (by omega)]; exact List.getElem_mem (by omega))
    show (zs.getD j 0).toNat < 256
    omega
  · obtain ⟨j, hj, rfl⟩ := List.mem_map.1 hy
    have hj2 := List.mem_range.1 hj
    show j < 4194304
    omega
end Go.Wh
namespace Go.Proofs.YtmiblmoppdgnjaaDoor
open Go.Lk Go.Sl Go.Lf Go.Wh
attribute [local irreducible] TK TL TC Th Bk Nx fnPost WA TQ OpQ OpN SpecH Rd Ent IterH RoundH Rb Rp fnPostM
attribute [local irreducible] Lf.wo Lf.cntOf Wh.wob Wh.lstM Wh.takM Lf.grp Wh.nxO Wh.nxE Wh.slotE Wh.lstE Wh.whE Wh.whM Wh.fullM Wh.actM Wh.mB
set_option maxHeartbeats 8000000 in
theorem whl_nextlaw (a : Option Addr) (cap : Nat) (zs : List Int) (hz : ∀ z ∈ zs, 0 ≤ z ∧ z < 256) (fr : Int) (kg : Nat) (hg : kg < 256) : SpecH Tryd.prog 3 #[.slice a zs.length cap, .int .i64 fr, .int .u8 (kg : Nat)] [RoS 1 a zs.length cap (intsV .u8 zs), Tab64] (fun _ : Unit => .bool true) (fun _ => []) := by
  by_cases hbad : 60 < zs.length ∨ fr < -2 ∨ 257 < fr
  · refine spec_of Tryd.func3 rfl Tryd.ntmps3 rfl [(0, _), (1, _), (2, _)] rfl ?_; intro base F l0 hl0; (try simp only [List.cons_append] at hl0); (try simp only [List.nil_append] at hl0); subst hl0
    repeat' (first | refine stz ?_ | refine And.intro ?_ ?_ | (intro e; exfalso; omega) | (intro e; subst e) | intro _)
    all_goals exact rt1 () rfl
  · have hn : zs.length ≤ 60 := by omega
    have hf1 : -2 ≤ fr ∧ fr ≤ 257 := by omega
    clear hbad
    refine spec_of Tryd.func3 rfl Tryd.ntmps3 rfl [(0, _), (1, _), (2, _)] rfl ?_; intro base F l0 hl0; (try simp only [List.cons_append] at hl0); (try simp only [List.nil_append] at hl0); subst hl0
    repeat' (first | refine stz ?_ | refine And.intro ?_ ?_ | (intro e; exfalso; omega) | (intro e; subst e) | intro _)
    rename_i p
    refine tc_lp (ι := {x : Nat × Option Addr × Nat // x.1 ≤ zs.length}) [8, 9] (fun e x => (8, .slice x.1.2.1 x.1.1 x.1.2.2) :: (9, .int .i64 (x.1.1 : Nat)) :: e)
      (fun x => [WheelAt p (mB zs x.1.1), RoS 2 x.1.2.1 x.1.1 x.1.2.2 (itv (mB zs x.1.1)), RoS 1 a zs.length cap (intsV .u8 zs), Tab64, F]) (fun x => zs.length - x.1.1) ⟨(0, none, 0), by omega⟩ ?_
      (hl := by dsimp only; rw [show mB zs 0 = [] by unfold mB; rfl]; show Ent _ [WheelAt p [], RoS 2 none 0 0 [], RoS 1 a zs.length cap (intsV .u8 zs), Tab64, F]; exact en)
    rintro K ⟨⟨i, ra, rc⟩, hi⟩ hK
    dsimp only at hi ⊢
    by_cases hc : i < zs.length
    · have hzi := hz (zs.getD i 0) (by rw [List.getD_eq_getElem?_getD, List.getElem?_eq_getElem hc]; exact List.getElem_mem hc)
      obtain ⟨g1, g2⟩ := mB_put (zs := zs) (i := i) (by omega) hzi
      haveI : Known Tryd.prog 10 (SpecH Tryd.prog 10 #[.slice ra i rc, .int .u32 (i : Nat), .int .i64 (zs.getD i 0)] [RoS 2 ra i rc (itv (mB zs i))] (fun q : Option Addr × Nat => .tuple #[.slice q.1 (i + 1) q.2, .int .i64 0]) (fun q => [RoS 2 q.1 (i + 1) q.2 (itv (mB zs (i + 1)))])) := ⟨by
        have h := whr_put.out ra i rc (mB zs i) (i : Nat) i (zs.getD i 0) mB_len.symm (by omega)
        rwa [g1, g2, mB_len] at h⟩
      haveI : Known Tryd.prog 11 (SpecH Tryd.prog 11 #[.pointer (some ⟨p, 0, none⟩), .int .u32 (i : Nat), .int .i64 (zs.getD i 0)] [WheelAt p (mB zs i)] (fun _ : Unit => .int .i64 0) (fun _ => [WheelAt p (mB zs (i + 1))])) := ⟨by
        have h := wh_put.out p (mB zs i) (i : Nat) i (zs.getD i 0) (by omega)
        rwa [g1, g2] at h⟩
      repeat' (first | refine stz ?_ | refine And.intro ?_ ?_ | (intro e; exfalso; omega) | (intro e; subst e) | intro _)
      rename_i ra2 rc2
      exact again hK ⟨(i + 1, ra2, rc2), by omega⟩
    · obtain rfl : i = zs.length := by omega
      have o := mB_mo hz (Nat.le_refl _) (by omega)
      have hlen := mB_len (zs := zs) (i := zs.length)
      haveI := whl_nextT
      have hle : lstE (kg : Nat) = 0 := by unfold lstE badB; exact if_neg (by omega)
      have hll := lstM_le (m := mB zs zs.length) (b := (kg : Nat)) ⟨4194304, o, Nat.le_refl _⟩
      have o2 : MO 4194304 (takM (mB zs zs.length) (kg : Nat)) := o.tak
      have hl2 : (takM (mB zs zs.length) (kg : Nat)).length ≤ 60 := by
        have : (takM (mB zs zs.length) (kg : Nat)).length ≤ (mB zs zs.length).length := by
          unfold takM; split
          · exact Nat.le_refl _
          · exact wob_le
        omega
      haveI : Known Tryd.prog 15 (∀ (a2 : Option Addr) (c2 : Nat), SpecH Tryd.prog 15 #[.pointer (some ⟨p, 0, none⟩), .int .i64 (kg : Nat), .slice a2 (lstM (mB zs zs.length) (kg : Nat)).length c2, .int .i64 0] [WheelAt p (mB zs zs.length), RoS 1 a2 (lstM (mB zs zs.length) (kg : Nat)).length c2 (u32s (lstM (mB zs zs.length) (kg : Nat)))] (fun _ : Unit => .bool true) (fun _ => [WheelAt p (takM (mB zs zs.length) (kg : Nat))])) := ⟨fun a2 c2 => by
        have h := whl_takesT.out p (mB zs zs.length) (kg : Nat) a2 c2 hll
        rwa [hle] at h⟩
      repeat' (first | refine stz ?_ | refine And.intro ?_ ?_ | (intro e; exfalso; omega) | (intro e; subst e) | intro _)
      exact rt1 () rfl
end Go.Proofs.YtmiblmoppdgnjaaDoor
