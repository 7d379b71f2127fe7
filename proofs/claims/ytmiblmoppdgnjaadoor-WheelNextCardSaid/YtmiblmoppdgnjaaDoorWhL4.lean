/- The laws of wheel, walked: a wheel that looks like its reference. -/
import Derived.Test.YtmiblmoppdgnjaaDoorWhL3
import Derived.Test.YtmiblmoppdgnjaaDoorSlD
namespace Go.Wh
open Go.Lk Go.Sl Go.Lf
theorem full_snoc {m : List It} {i w : Nat} (hi : i < m.length) (hw : (m.getD i default).2 / 64 = w) : fullM (m.take (i + 1)) = updW (fullM (m.take i)) w (fullM (m.take i) w ||| (1#64 <<< ((m.getD i default).2 % 64))) := by
  rw [take_snoc' hi, full_app, hw]
end Go.Wh
namespace Go.Proofs.YtmiblmoppdgnjaaDoor
open Go.Lk Go.Sl Go.Lf Go.Wh
attribute [local irreducible] TK TL TC Th Bk Nx fnPost WA TQ OpQ OpN SpecH Rd Ent IterH RoundH Rb Rp fnPostM
attribute [local irreducible] Lf.wo Lf.cntOf Wh.wob Wh.lstM Wh.takM Lf.grp Wh.nxO Wh.nxE Wh.slotE Wh.lstE Wh.whE Wh.whM Wh.fullM
theorem whl_standsT (m : List It) (s : Nat) (w e : Int) (hs : s < 4294967296) (h1 : (cntOf m s : Int) = w) (h2 : slotE m s = e) : Known Tryd.prog 26 (∀ p : Nat, SpecH Tryd.prog 26 #[.pointer (some ⟨p, 0, none⟩), .int .u32 (s : Nat), .int .i64 w, .int .i64 e] [WheelAt p m] (fun _ : Unit => .bool true) (fun _ => [WheelAt p m])) := ⟨fun p => by
  have h := whl_stands.out p m (s : Nat) s w e hs
  rwa [decide_eq_true ⟨h1, h2⟩] at h⟩
theorem whl_listsT (m : List It) (b e : Int) (hl : (lstM m b).length ≤ 4194304) (he : lstE b = e) : Known Tryd.prog 21 (∀ (p : Nat) (a2 : Option Addr) (c2 : Nat), SpecH Tryd.prog 21 #[.pointer (some ⟨p, 0, none⟩), .int .i64 b, .slice a2 (lstM m b).length c2, .int .i64 e] [WheelAt p m, RoS 1 a2 (lstM m b).length c2 (u32s (lstM m b))] (fun _ : Unit => .bool true) (fun _ => [WheelAt p m])) := ⟨fun p a2 c2 => by
  have h := whl_lists.out p m b a2 (lstM m b).length c2 (u32s (lstM m b)) (lstM m b) e ⟨rfl⟩ rfl hl
  rwa [decide_eq_true ⟨rfl, he⟩] at h⟩
theorem whl_nextT : Known Tryd.prog 13 (∀ (p : Nat) (m : List It) (b : Int), SpecH Tryd.prog 13 #[.pointer (some ⟨p, 0, none⟩), .int .i64 b, .int .i64 ((nxO m b).getD 0 : Nat), .int .i64 (nxE m b)] [WheelAt p m, Tab64] (fun _ : Unit => .bool true) (fun _ => [WheelAt p m])) := ⟨fun p m b => by
  have h := whl_next.out p m b ((nxO m b).getD 0 : Nat) (nxE m b)
  rwa [decide_eq_true ⟨rfl, rfl⟩] at h⟩
set_option maxHeartbeats 16000000 in
instance whl_is : Known Tryd.prog 16 (∀ (p : Nat) (m : List It) (a : Option Addr) (n c : Nat) (k : Int) (xs : Int) (s : Nat) [NatI xs s] (b : Int), n = m.length → n ≤ 1024 → s < 4294967296 → SpecH Tryd.prog 16 #[.pointer (some ⟨p, 0, none⟩), .slice a n c, .agg #[.int .i64 k, .int .u32 xs, .int .i64 b]] [WheelAt p m, RoS 2 a n c (itv m), Tab64] (fun _ : Unit => .bool true) (fun _ => [WheelAt p m])) := ⟨fun p m a n c k xs s _ b hn hx hs => by
  obtain rfl : xs = (s : Int) := NatI.out
  subst hn
  refine spec_of Tryd.func16 rfl Tryd.ntmps16 rfl [(0, _), (1, _), (2, _)] rfl ?_; intro base F l0 hl0; (try simp only [List.cons_append] at hl0); (try simp only [List.nil_append] at hl0); subst hl0
  refine WheelAt.factsC (p := p) (m := m) (fun h0 => ?_) (by (repeat (first | (with_reducible exact Rem.here _ _) | (with_reducible apply Rem.there) | fail)); done)
  have hll : ∀ b, (lstM m b).length ≤ 4194304 := fun b => lstM_le h0
  obtain ⟨N, o, hN⟩ := h0
  replace o := o.up hN
  repeat' (first | refine stz ?_ | refine And.intro ?_ ?_ | (intro e; exfalso; omega) | (intro e; subst e) | intro _)
  rename_i b5 b7
  refine tc_lp (ι := {i : Nat // i ≤ m.length}) [8] (fun e i => (8, .int .i64 (i.1 : Nat)) :: e) (fun i => [obj b7 53 [.int .u64 ((fullM (m.take i.1) 0).toNat : Nat), .int .u64 ((fullM (m.take i.1) 1).toNat : Nat), .int .u64 ((fullM (m.take i.1) 2).toNat : Nat), .int .u64 ((fullM (m.take i.1) 3).toNat : Nat)], obj b5 42 [.int .i64 k, .int .u32 (s : Nat), .int .i64 b], WheelAt p m, RoS 2 a m.length c (itv m), Tab64, F]) (fun i => m.length - i.1) ⟨0, by omega⟩ ?_
    (hl := by
      dsimp only
      rw [List.take_zero, show fullM [] = fun _ => 0#64 by unfold fullM; rfl]
      show Ent _ [obj b7 53 [.int .u64 0, .int .u64 0, .int .u64 0, .int .u64 0], _, _, _, _, _]
      exact en)
  rintro K ⟨i, hi⟩ hK
  dsimp only
  by_cases hlt : i < m.length
  · have hy : m.getD i default ∈ m := by rw [getD_get hlt]; exact List.getElem_mem hlt
    have hb := o.bk _ hy
    have hsl := o.lt _ hy
    have hcn : cntOf m (m.getD i default).1 = (m.getD i default).2 := cntOf_mem o.nd hy
    have hse : slotE m (m.getD i default).1 = 0 := by unfold slotE; rw [if_neg (by omega), if_pos (List.mem_map.2 ⟨_, hy, rfl⟩)]
    haveI := whl_standsT m (m.getD i default).1 ((m.getD i default).2 : Nat) 0 (by omega) (by rw [hcn]) hse
    haveI := whl_listsT m ((m.getD i default).2 : Nat) 0 (hll _) (by unfold lstE; rw [if_neg (by unfold badB; omega)])
    haveI : NatI (((m.getD i default).2 : Int) % 64) ((m.getD i default).2 % 64) := ⟨by omega⟩
    have hm : (m.getD i default).2 % 64 < 64 := Nat.mod_lt _ (by decide)
    repeat' (first | ((fail_if_success (refine atD ?_)); refine stz ?_) | refine And.intro ?_ ?_ | (intro e; exfalso; omega) | (intro e; subst e) | intro _)
    obtain e | e | e | e : (m.getD i default).2 / 64 = 0 ∨ (m.getD i default).2 / 64 = 1 ∨ (m.getD i default).2 / 64 = 2 ∨ (m.getD i default).2 / 64 = 3 := by omega
    · haveI : NatI (((m.getD i default).2 : Int) / 64) 0 := ⟨by omega⟩
      have hf := full_snoc hlt e
      refine tail 11 ?_
      repeat' (first | refine stz ?_ | refine And.intro ?_ ?_ | (intro e; exfalso; omega) | (intro e; subst e) | intro _)
      exact again hK ⟨i + 1, by omega⟩ (he := by dsimp only; rw [hf, wd_case, wd_other (by decide), wd_other (by decide), wd_other (by decide)]; simp only [Nat.zero_mul, List.set_cons_zero]; exact en)
    · haveI : NatI (((m.getD i default).2 : Int) / 64) 1 := ⟨by omega⟩
      have hf := full_snoc hlt e
      refine tail 11 ?_
      repeat' (first | refine stz ?_ | refine And.intro ?_ ?_ | (intro e; exfalso; omega) | (intro e; subst e) | intro _)
      exact again hK ⟨i + 1, by omega⟩ (he := by dsimp only; rw [hf, wd_other (by decide), wd_case, wd_other (by decide), wd_other (by decide)]; exact en)
    · haveI : NatI (((m.getD i default).2 : Int) / 64) 2 := ⟨by omega⟩
      have hf := full_snoc hlt e
      refine tail 11 ?_
      repeat' (first | refine stz ?_ | refine And.intro ?_ ?_ | (intro e; exfalso; omega) | (intro e; subst e) | intro _)
      exact again hK ⟨i + 1, by omega⟩ (he := by dsimp only; rw [hf, wd_other (by decide), wd_other (by decide), wd_case, wd_other (by decide)]; exact en)
    · haveI : NatI (((m.getD i default).2 : Int) / 64) 3 := ⟨by omega⟩
      have hf := full_snoc hlt e
      refine tail 11 ?_
      repeat' (first | refine stz ?_ | refine And.intro ?_ ?_ | (intro e; exfalso; omega) | (intro e; subst e) | intro _)
      exact again hK ⟨i + 1, by omega⟩ (he := by dsimp only; rw [hf, wd_other (by decide), wd_other (by decide), wd_other (by decide), wd_case]; exact en)
  · obtain rfl : i = m.length := by omega
    rw [List.take_length]
    haveI := whl_nextT
    repeat' (first | refine stz ?_ | refine And.intro ?_ ?_ | (intro e; exfalso; omega) | (intro e; subst e) | intro _)
    rename_i b61
    obtain ⟨zs, hzs⟩ : ∃ zs : List Int, zs = [b, IntKind.wrap .i64 (b + 1), 0, 64, 255] := ⟨_, rfl⟩
    have hzl : zs.length = 5 := by rw [hzs]; rfl
    refine tc_lp (ι := {i : Nat // i ≤ 5}) [63] (fun e i => (63, .int .i64 (i.1 : Nat)) :: e) (fun i => [Vec 3 1 (some ⟨b61, 0, none⟩) 5 5 (intsV .i64 zs), obj b7 53 [.int .u64 ((fullM m 0).toNat : Nat), .int .u64 ((fullM m 1).toNat : Nat), .int .u64 ((fullM m 2).toNat : Nat), .int .u64 ((fullM m 3).toNat : Nat)], obj b5 42 [.int .i64 k, .int .u32 (s : Nat), .int .i64 b], WheelAt p m, RoS 2 a m.length c (itv m), Tab64, F]) (fun i => 5 - i.1) ⟨0, by omega⟩ ?_
      (hl := by
        rw [hzs]
        show Ent _ [Vec 3 1 (some ⟨b61, 0, none⟩) 5 5 [.int .i64 b, .int .i64 (IntKind.wrap .i64 (b + 1)), .int .i64 0, .int .i64 64, .int .i64 255], _, _, _, _, _, _]
        exact en)
    rintro K2 ⟨i, hi2⟩ hK2
    dsimp only
    clear hzs
    by_cases hlt2 : i < 5
    · by_cases hbx : badB (zs.getD i 0)
      · haveI := whl_listsT m (zs.getD i 0) 2 (hll _) (by unfold lstE; exact if_pos hbx)
        unfold badB at hbx
        haveI : Known Tryd.prog 29 (SpecH Tryd.prog 29 #[.int .i64 (zs.getD i 0)] [] (fun _ : Unit => .bool false) (fun _ => [])) := ⟨whr_bad.out (zs.getD i 0) hbx⟩
        repeat' (first | refine stz ?_ | refine And.intro ?_ ?_ | (intro e; exfalso; omega) | (intro e; subst e) | intro _)
        exact again hK2 ⟨i + 1, by omega⟩
      · haveI := whl_listsT m (zs.getD i 0) 0 (hll _) (by unfold lstE; exact if_neg hbx)
        unfold badB at hbx
        have hbx2 : 0 ≤ (zs.getD i 0) ∧ (zs.getD i 0) < 256 := by omega
        haveI : Known Tryd.prog 29 (SpecH Tryd.prog 29 #[.int .i64 (zs.getD i 0)] [] (fun _ : Unit => .bool true) (fun _ => [])) := ⟨whr_ok.out (zs.getD i 0) hbx2.1 hbx2.2⟩
        repeat' (first | refine stz ?_ | refine And.intro ?_ ?_ | (intro e; exfalso; omega) | (intro e; subst e) | intro _)
        exact again hK2 ⟨i + 1, by omega⟩
    · obtain rfl : i = 5 := by omega
      by_cases hsm : s ∈ ks m
      · obtain ⟨j, j1, j2, j3⟩ := first_ex hsm
        haveI : Known Tryd.prog 30 (SpecH Tryd.prog 30 #[.slice a m.length c, .int .u32 (s : Nat)] [RoS 2 a m.length c (itv m)] (fun _ : Unit => .int .i64 (j : Nat)) (fun _ => [])) := ⟨by
          have h := whr_find.out a m.length c m (s : Nat) s rfl hx
          rwa [fnd_at j1 j2 j3] at h⟩
        repeat' (first | ((fail_if_success (refine atD ?_)); refine stz ?_) | refine And.intro ?_ ?_ | (intro e; exfalso; omega) | (intro e; subst e) | intro _)
        refine drx [WheelAt p m] ?_; (refine tks [0, 2] 10 ?_; repeat' (first | refine stz ?_ | refine And.intro ?_ ?_ | (intro e; exfalso; omega) | (intro e; subst e) | intro _)); refine hv 1 fun x1 => ?_; (refine tks [3, 4, 5, 7, 8] 4 ?_; repeat' (first | refine stz ?_ | refine And.intro ?_ ?_ | (intro e; exfalso; omega) | (intro e; subst e) | intro _)); refine hv 6 fun x6 => ?_; (refine tks [9, 10, 11] 0 ?_; repeat' (first | refine stz ?_ | refine And.intro ?_ ?_ | (intro e; exfalso; omega) | (intro e; subst e) | intro _))
        exact rt1 () rfl
      · haveI : Known Tryd.prog 30 (SpecH Tryd.prog 30 #[.slice a m.length c, .int .u32 (s : Nat)] [RoS 2 a m.length c (itv m)] (fun _ : Unit => .int .i64 (-1)) (fun _ => [])) := ⟨by
          have h := whr_find.out a m.length c m (s : Nat) s rfl hx
          rwa [fnd_not hsm] at h⟩
        have hc0 : (cntOf m s : Int) = 0 := by rw [cntOf_not hsm]; rfl
        by_cases hs4 : 4194304 ≤ s
        · haveI := whl_standsT m s 0 2 hs hc0 (by unfold slotE; exact if_pos hs4)
          repeat' (first | ((fail_if_success (refine atD ?_)); refine stz ?_) | refine And.intro ?_ ?_ | (intro e; exfalso; omega) | (intro e; subst e) | intro _)
          refine drx [WheelAt p m] ?_; (refine tks [0, 2] 10 ?_; repeat' (first | refine stz ?_ | refine And.intro ?_ ?_ | (intro e; exfalso; omega) | (intro e; subst e) | intro _)); refine hv 1 fun x1 => ?_; (refine tks [3, 4, 5, 7, 8] 4 ?_; repeat' (first | refine stz ?_ | refine And.intro ?_ ?_ | (intro e; exfalso; omega) | (intro e; subst e) | intro _)); refine hv 6 fun x6 => ?_; (refine tks [9, 10, 11] 0 ?_; repeat' (first | refine stz ?_ | refine And.intro ?_ ?_ | (intro e; exfalso; omega) | (intro e; subst e) | intro _))
          exact rt1 () rfl
        · haveI := whl_standsT m s 0 9 hs hc0 (by unfold slotE; rw [if_neg hs4, if_neg hsm])
          have hs5 : (s : Int) < 4194304 := by omega
          clear hs4
          repeat' (first | ((fail_if_success (refine atD ?_)); refine stz ?_) | refine And.intro ?_ ?_ | (intro e; exfalso; omega) | (intro e; subst e) | intro _)
          refine drx [WheelAt p m] ?_; (refine tks [0, 2] 10 ?_; repeat' (first | refine stz ?_ | refine And.intro ?_ ?_ | (intro e; exfalso; omega) | (intro e; subst e) | intro _)); refine hv 1 fun x1 => ?_; (refine tks [3, 4, 5, 7, 8] 4 ?_; repeat' (first | refine stz ?_ | refine And.intro ?_ ?_ | (intro e; exfalso; omega) | (intro e; subst e) | intro _)); refine hv 6 fun x6 => ?_; (refine tks [9, 10, 11] 0 ?_; repeat' (first | refine stz ?_ | refine And.intro ?_ ?_ | (intro e; exfalso; omega) | (intro e; subst e) | intro _))
          exact rt1 () rfl⟩
end Go.Proofs.YtmiblmoppdgnjaaDoor
