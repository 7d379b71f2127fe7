/- The laws of wheel, walked: THE THEOREM OF STAGE 19, its first loops. -/
import Derived.Test.YtmiblmoppdgnjaaDoorWhH3
namespace Go.Sl
section
variable {r0 : Option Nat} {P : Program} {base : World} {n : Nat} {ds : List Deferred} {Q : Exit → Act → World → Prop} {env : Env} {l r : List HP} {all : Array Oper} {ro : List Oper}
/-- 'frz', ahead of an operation. -/
theorem frzL {E sz m cap : Nat} {a : Option Addr} {cs : List Value} {r' : List HP} (a0 : Option Addr) (h : TL r0 P base n ds all ro Q env (RoS sz a m cap cs :: r')) (_ha : a = a0 := by rfl) (hr : Rem l (Vec E sz a m cap cs) r' := by (repeat (first | (with_reducible exact Rem.here _ _) | (with_reducible apply Rem.there) | fail)); done) : TL r0 P base n ds all ro Q env l := frz a0 h _ha hr
end
end Go.Sl
namespace Go.Proofs.YtmiblmoppdgnjaaDoor
open Go.Lk Go.Sl Go.Lf Go.Wh
attribute [local irreducible] TK TL TC Th Bk Nx fnPost WA TQ OpQ OpN SpecH Rd Ent IterH RoundH Rb Rp fnPostM
attribute [local irreducible] Lf.wo Lf.cntOf Wh.wob Wh.lstM Wh.takM Lf.grp Wh.nxO Wh.nxE Wh.slotE Wh.lstE Wh.whE Wh.whM Wh.fullM Wh.actM Wh.mB Wh.vA Wh.vS Wh.snL Wh.cntS
set_option maxHeartbeats 8000000 in
theorem whl_holds (a : Option Addr) (cap : Nat) (zs : List Int) (hz : ∀ z ∈ zs, 0 ≤ z ∧ z < 256) : SpecH Tryd.prog 5 #[.slice a zs.length cap] [RoS 1 a zs.length cap (intsV .u8 zs), Tab64] (fun _ : Unit => .bool true) (fun _ => []) := by
  by_cases hbad : 60 < zs.length
  · refine spec_of Tryd.func5 rfl Tryd.ntmps5 rfl [(0, _)] rfl ?_; intro base F l0 hl0; (try simp only [List.cons_append] at hl0); (try simp only [List.nil_append] at hl0); subst hl0
    repeat' (first | refine stz ?_ | refine And.intro ?_ ?_ | (intro e; exfalso; omega) | (intro e; subst e) | intro _)
    all_goals exact rt1 () rfl
  · have hn : zs.length ≤ 60 := by omega
    clear hbad
    have hzi : ∀ i, i < zs.length → 0 ≤ zs.getD i 0 ∧ zs.getD i 0 < 256 := fun i hc => hz (zs.getD i 0) (by rw [List.getD_eq_getElem?_getD, List.getElem?_eq_getElem hc]; exact List.getElem_mem hc)
    refine spec_of Tryd.func5 rfl Tryd.ntmps5 rfl [(0, _)] rfl ?_; intro base F l0 hl0; (try simp only [List.cons_append] at hl0); (try simp only [List.nil_append] at hl0); subst hl0
    repeat' (first | refine stz ?_ | refine And.intro ?_ ?_ | (intro e; exfalso; omega) | (intro e; subst e) | intro _)
    rename_i p q
    refine tc_lp (ι := {i : Nat // i ≤ zs.length}) [5] (fun e i => (5, .int .i64 (i.1 : Nat)) :: e)
      (fun i => [WheelAt p (mB zs i.1), WheelAt q [], RoS 1 a zs.length cap (intsV .u8 zs), Tab64, F]) (fun i => zs.length - i.1) ⟨0, by omega⟩ ?_
      (hl := by dsimp only; rw [show mB zs 0 = [] by unfold mB; rfl]; exact en)
    rintro K ⟨i, hi⟩ hK
    dsimp only
    by_cases hc : i < zs.length
    · have hzj := hzi i hc
      obtain ⟨g1, g2⟩ := mB_put (zs := zs) (i := i) (by omega) hzj
      haveI : Known Tryd.prog 11 (SpecH Tryd.prog 11 #[.pointer (some ⟨p, 0, none⟩), .int .u32 (i : Nat), .int .i64 (zs.getD i 0)] [WheelAt p (mB zs i)] (fun _ : Unit => .int .i64 0) (fun _ => [WheelAt p (mB zs (i + 1))])) := ⟨by
        have h := wh_put.out p (mB zs i) (i : Nat) i (zs.getD i 0) (by omega)
        rwa [g1, g2] at h⟩
      repeat' (first | refine stz ?_ | refine And.intro ?_ ?_ | (intro e; exfalso; omega) | (intro e; subst e) | intro _)
      exact again hK ⟨i + 1, by omega⟩
    · obtain rfl : i = zs.length := by omega
      repeat' (first | refine stz ?_ | refine And.intro ?_ ?_ | (intro e; exfalso; omega) | (intro e; subst e) | intro _)
      refine tc_lp (ι := {k : Nat // k ≤ 256}) [6] (fun e k => (6, .int .i64 (255 - (k.1 : Nat))) :: e)
        (fun k => [WheelAt p (mB zs zs.length), WheelAt q (vA zs zs.length k.1), RoS 1 a zs.length cap (intsV .u8 zs), Tab64, F]) (fun k => 256 - k.1) ⟨0, by omega⟩ ?_
        (hl := by dsimp only; rw [show vA zs zs.length 0 = [] by unfold vA; rfl]; exact en)
      rintro K2 ⟨k, hk⟩ hK2
      dsimp only
      by_cases hk2 : k < 256
      · repeat' (first | refine stz ?_ | refine And.intro ?_ ?_ | (intro e; exfalso; omega) | (intro e; subst e) | intro _)
        refine tc_lp (ι := {i : Nat // i ≤ zs.length}) [7] (fun e i => (7, .int .i64 (i.1 : Nat)) :: e)
          (fun i => [WheelAt p (mB zs zs.length), WheelAt q (vS zs zs.length k i.1), RoS 1 a zs.length cap (intsV .u8 zs), Tab64, F]) (fun i => zs.length - i.1) ⟨0, by omega⟩ ?_
          (hl := by dsimp only; rw [vS_zero]; exact en)
        rintro K3 ⟨i, hi3⟩ hK3
        dsimp only
        by_cases hc3 : i < zs.length
        · have hzj := hzi i hc3
          by_cases hb : zs.getD i 0 = 255 - (k : Nat)
          · have hb2 : (zs.getD i 0).toNat = 255 - k := by omega
            have g0 : ¬ (4194304 ≤ i ∨ badB (255 - (k : Nat))) := by unfold badB; omega
            have g3 := vS_not (zs := zs) (n := zs.length) hk2 hb2
            have g1 : whM (vS zs zs.length k i) i (255 - (k : Nat)) = vS zs zs.length k (i + 1) := by
              unfold whM
              rw [if_neg (fun h => by rcases h with h | h; exact g0 h; exact g3 h), vS_put hb2, show ((255 : Int) - (k : Nat)).toNat = 255 - k by omega]
            have g2 : whE (vS zs zs.length k i) i (255 - (k : Nat)) = 0 := by unfold whE; rw [if_neg g0, if_neg g3]
            clear g0
            haveI : Known Tryd.prog 11 (SpecH Tryd.prog 11 #[.pointer (some ⟨q, 0, none⟩), .int .u32 (i : Nat), .int .i64 (255 - (k : Nat))] [WheelAt q (vS zs zs.length k i)] (fun _ : Unit => .int .i64 0) (fun _ => [WheelAt q (vS zs zs.length k (i + 1))])) := ⟨by
              have h := wh_put.out q (vS zs zs.length k i) (i : Nat) i (255 - (k : Nat)) (by omega)
              rwa [g1, g2] at h⟩
            repeat' (first | refine stz ?_ | refine And.intro ?_ ?_ | (intro e; exfalso; omega) | (intro e; subst e) | intro _)
            exact again hK3 ⟨i + 1, by omega⟩
          · have hs := vS_skip (zs := zs) (i := i) (n := zs.length) (k := k) (by omega)
            repeat' (first | refine stz ?_ | refine And.intro ?_ ?_ | (intro e; exfalso; omega) | (intro e; subst e) | intro _)
            rw [← hs]
            exact again hK3 ⟨i + 1, by omega⟩
        · obtain rfl : i = zs.length := by omega
          rw [vS_all]
          repeat' (first | refine stz ?_ | refine And.intro ?_ ?_ | (intro e; exfalso; omega) | (intro e; subst e) | intro _)
          rw [show (255 : Int) - (k : Nat) - 1 = 255 - ((k + 1 : Nat) : Int) by omega]
          exact again hK2 ⟨k + 1, by omega⟩
      · obtain rfl : k = 256 := by omega
        repeat' (first | refine stz ?_ | refine And.intro ?_ ?_ | (intro e; exfalso; omega) | (intro e; subst e) | intro _)
        rename_i x
        rw [bls_start, ← snL_zero]
        have hm60 := mB_len (zs := zs) (i := zs.length)
        have o := mB_mo hz (Nat.le_refl _) (by omega)
        refine tc_lp (ι := {y : Nat × Nat // y.1 ≤ 256 ∧ y.2 = cntS zs y.1}) [9, 10] (fun e y => (9, .int .i64 (y.1.2 : Nat)) :: (10, .int .i64 ((y.1.1 : Nat) - 1)) :: e)
          (fun y => [Vec 4 1 (some ⟨x, 0, none⟩) zs.length zs.length (bls (snL zs y.1.1 [])), WheelAt p (mB zs zs.length), WheelAt q (vA zs zs.length 256), RoS 1 a zs.length cap (intsV .u8 zs), Tab64, F]) (fun y => 256 - y.1.1) ⟨(0, 0), by omega, cntS_zero.symm⟩ ?_
        rintro K4 ⟨⟨L, t⟩, hL, ht⟩ hK4
        dsimp only at hL ht ⊢
        have hsl := snL_len (zs := zs) (L := L) (l := [])
        have hfa : SameF (mB zs zs.length) (vA zs zs.length 256) := ⟨fun w hw => full_vA hz (by omega) hw⟩
        have hfb : SameF (mB zs zs.length) (mB zs zs.length) := ⟨fun w _ => rfl⟩
        haveI : Known Tryd.prog 23 (∀ (r : Nat) (m : List It), SameF (mB zs zs.length) m → SpecH Tryd.prog 23 #[.pointer (some ⟨r, 0, none⟩)] [WheelAt r m] (fun _ : Unit => .agg #[.int .u64 ((fullM (mB zs zs.length) 0).toNat : Nat), .int .u64 ((fullM (mB zs zs.length) 1).toNat : Nat), .int .u64 ((fullM (mB zs zs.length) 2).toNat : Nat), .int .u64 ((fullM (mB zs zs.length) 3).toNat : Nat)]) (fun _ => [WheelAt r m])) := ⟨fun r m ⟨he⟩ => by
          have h := wh_full.out r m
          rwa [he 0 (by decide), he 1 (by decide), he 2 (by decide), he 3 (by decide)] at h⟩
        by_cases hL2 : L < 256
        · rcases nx_cases (m := mB zs zs.length) hL2 with ⟨e1, e2, hno⟩ | ⟨c, e1, e2, hLc, hc, hne, hno⟩
          · have hall := cntS_none hz hno
            haveI : Known Tryd.prog 19 (SpecH Tryd.prog 19 #[.pointer (some ⟨p, 0, none⟩), .int .i64 ((L : Nat) - 1 + 1)] [WheelAt p (mB zs zs.length), Tab64] (fun _ : Unit => .tuple #[.int .i64 0, .int .i64 9]) (fun _ => [WheelAt p (mB zs zs.length)])) := ⟨by
              have h := wh_next.out p (mB zs zs.length) (L : Nat)
              rw [e1, e2] at h
              rwa [show (L : Int) - 1 + 1 = L by omega]⟩
            repeat' (first | refine stz ?_ | refine And.intro ?_ ?_ | (intro e; exfalso; omega) | (intro e; subst e) | intro _)
            exact rt1 () rfl
          · obtain ⟨l, hl⟩ : ∃ l, grp (mB zs zs.length) c = l := ⟨_, rfl⟩
            rw [hl] at hne
            have hlpos := List.length_pos_iff.2 hne
            have hll : l.length ≤ 60 := by
              have h1 := (grp_sub (l := mB zs zs.length) (n := c)).length_le
              rw [hl, mB_ks, List.length_range] at h1
              omega
            have hlst : lstM (mB zs zs.length) (c : Nat) = l := by unfold lstM; rw [if_neg (by unfold badB; omega)]; exact hl
            have hlst2 : lstM (vA zs zs.length 256) (c : Nat) = l := by unfold lstM; rw [if_neg (by unfold badB; omega)]; exact (grp_vA_all hc).trans hl
            have hle : lstE (c : Nat) = 0 := by unfold lstE; exact if_neg (by unfold badB; omega)
            have hstep := cntS_step hLc hno
            rw [hl] at hstep
            have hcle := cntS_le (zs := zs) (L := c + 1)
            haveI : Known Tryd.prog 19 (SpecH Tryd.prog 19 #[.pointer (some ⟨p, 0, none⟩), .int .i64 ((L : Nat) - 1 + 1)] [WheelAt p (mB zs zs.length), Tab64] (fun _ : Unit => .tuple #[.int .i64 (c : Nat), .int .i64 0]) (fun _ => [WheelAt p (mB zs zs.length)])) := ⟨by
              have h := wh_next.out p (mB zs zs.length) (L : Nat)
              rw [e1, e2] at h
              rwa [show (L : Int) - 1 + 1 = L by omega]⟩
            haveI : Known Tryd.prog 20 (SpecH Tryd.prog 20 #[.pointer (some ⟨p, 0, none⟩), .int .i64 (c : Nat)] [WheelAt p (mB zs zs.length)] (fun q : Option Addr × Nat => .tuple #[.slice q.1 l.length q.2, .int .i64 0]) (fun q => [WheelAt p (mB zs zs.length), Vec 31 1 q.1 l.length q.2 (u32s l)])) := ⟨by
              have h := wh_list.out p (mB zs zs.length) (c : Nat)
              rwa [hlst, hle] at h⟩
            haveI : Known Tryd.prog 21 (∀ (a2 : Option Addr) (c2 : Nat), SpecH Tryd.prog 21 #[.pointer (some ⟨q, 0, none⟩), .int .i64 (c : Nat), .slice a2 l.length c2, .int .i64 0] [WheelAt q (vA zs zs.length 256), RoS 1 a2 l.length c2 (u32s l)] (fun _ : Unit => .bool true) (fun _ => [WheelAt q (vA zs zs.length 256)])) := ⟨fun a2 c2 => by
              have h := whl_lists.out q (vA zs zs.length 256) (c : Nat) a2 l.length c2 (u32s l) l 0 ⟨rfl⟩ rfl (by omega)
              rwa [decide_eq_true ⟨hlst2, hle⟩] at h⟩
            repeat' (first | ((fail_if_success (refine atCall 21 ?_)); refine stz ?_) | refine And.intro ?_ ?_ | (intro e; exfalso; omega) | (intro e; subst e) | intro _)
            rename_i a5 c5
            refine frzL a5 ?_
            repeat' (first | refine stz ?_ | refine And.intro ?_ ?_ | (intro e; exfalso; omega) | (intro e; subst e) | intro _)
            refine tc_lp (ι := {j : Nat // j ≤ l.length}) [9, 15] (fun e j => (9, .int .i64 (t + j.1 : Nat)) :: (15, .int .i64 (j.1 : Nat)) :: e)
              (fun j => [Vec 4 1 (some ⟨x, 0, none⟩) zs.length zs.length (bls (snL zs L (l.take j.1))), RoS 1 a5 l.length c5 (u32s l), WheelAt p (mB zs zs.length), WheelAt q (vA zs zs.length 256), RoS 1 a zs.length cap (intsV .u8 zs), Tab64, F]) (fun j => l.length - j.1) ⟨0, by omega⟩ ?_ (hl := by dsimp only; rw [List.take_zero]; exact en)
            rintro K5 ⟨j, hj⟩ hK5
            dsimp only
            by_cases hcj : j < l.length
            · obtain ⟨r1, r2, r3, r4, r5⟩ := sn_round hz hl hLc hcj
              have hsl2 := snL_len (zs := zs) (L := L) (l := l.take j)
              rcases Nat.eq_zero_or_pos j with j0 | j0
              · repeat' (first | ((fail_if_success (refine atD ?_)); refine stz ?_) | refine And.intro ?_ ?_ | (intro e; exfalso; omega) | (intro e; subst e) | intro _)
                refine tail 42 ?_
                repeat' (first | refine stz ?_ | refine And.intro ?_ ?_ | (intro e; exfalso; omega) | (intro e; subst e) | intro _)
                rw [r3]
                repeat' (first | refine stz ?_ | refine And.intro ?_ ?_ | (intro e; exfalso; omega) | (intro e; subst e) | intro _)
                rw [r5]
                exact again hK5 ⟨j + 1, by omega⟩
              · replace r4 := r4 j0
                haveI : AsNat ((j : Int) - 1) (j - 1) := ⟨fun _ => by omega⟩
                repeat' (first | ((fail_if_success (refine atD ?_)); refine stz ?_) | refine And.intro ?_ ?_ | (intro e; exfalso; omega) | (intro e; subst e) | intro _)
                refine tail 42 ?_
                repeat' (first | refine stz ?_ | refine And.intro ?_ ?_ | (intro e; exfalso; omega) | (intro e; subst e) | intro _)
                rw [r3]
                repeat' (first | refine stz ?_ | refine And.intro ?_ ?_ | (intro e; exfalso; omega) | (intro e; subst e) | intro _)
                rw [r5]
                exact again hK5 ⟨j + 1, by omega⟩
            · obtain rfl : j = l.length := by omega
              rw [List.take_length, ← hl, snL_all hLc hno, hl]
              repeat' (first | refine stz ?_ | refine And.intro ?_ ?_ | (intro e; exfalso; omega) | (intro e; subst e) | intro _)
              rw [show (c : Int) = ((c + 1 : Nat) : Int) - 1 by omega]
              exact again hK4 ⟨(c + 1, t + l.length), by omega, by dsimp only; omega⟩
        · obtain rfl : L = 256 := by omega
          have hall := cntS_all hz
          repeat' (first | refine stz ?_ | refine And.intro ?_ ?_ | (intro e; exfalso; omega) | (intro e; subst e) | intro _)
          exact rt1 () rfl
end Go.Proofs.YtmiblmoppdgnjaaDoor
