/- The reference of wheel, walked: a bucket is emptied; the next bucket. -/
import Derived.Test.YtmiblmoppdgnjaaDoorWhR2
namespace Go.Proofs.YtmiblmoppdgnjaaDoor
open Go.Lk Go.Sl Go.Lf Go.Wh
attribute [local irreducible] TK TL TC Th Bk Nx fnPost WA TQ OpQ OpN SpecH Rd Ent IterH RoundH Rb Rp fnPostM
attribute [local irreducible] Lf.wo Lf.cntOf Wh.wob Wh.lstR Wh.fnd Lf.grp
set_option maxHeartbeats 4000000 in
instance whr_take : Known Tryd.prog 14 (∀ (a : Option Addr) (m c : Nat) (l : List It) (b : Int), MO 4194304 l → m = l.length → m ≤ 1024 → SpecH Tryd.prog 14 #[.slice a m c, .int .i64 b] [RoS 2 a m c (itv l)] (fun q : (Option Addr × Nat) × (Option Addr × Nat) => .tuple #[.slice q.1.1 (takM l b).length q.1.2, .slice q.2.1 (lstM l b).length q.2.2, .int .i64 (lstE b)]) (fun q => [RoS 2 q.1.1 (takM l b).length q.1.2 (itv (takM l b)), RoS 1 q.2.1 (lstM l b).length q.2.2 (u32s (lstM l b))])) := ⟨fun a m c l b o hm hx => by
  subst hm
  by_cases hb : badB b
  · have e1 : takM l b = l := if_pos hb
    have e2 : lstM l b = [] := if_pos hb
    have e3 : lstE b = 2 := if_pos hb
    rw [e1, e2, e3]
    unfold badB at hb
    haveI : Known Tryd.prog 29 (SpecH Tryd.prog 29 #[.int .i64 b] [] (fun _ : Unit => .bool false) (fun _ => [])) := ⟨whr_bad.out b hb⟩
    refine spec_of Tryd.func14 rfl Tryd.ntmps14 rfl [(0, _), (1, _)] rfl ?_; intro base F l0 hl0; (try simp only [List.cons_append] at hl0); (try simp only [List.nil_append] at hl0); subst hl0
    repeat' (first | refine sty ?_ | refine And.intro ?_ ?_ | (intro e; exfalso; omega) | (intro e; subst e) | intro _)
    refine rt3 ((a, c), (none, 0)) rfl (he := ?_)
    show Ent _ [RoS 2 a l.length c (itv l), RoS 1 none 0 0 [], F]
    exact en
  · have e1 : takM l b = wob l b.toNat := if_neg hb
    have e3 : lstE b = 0 := if_neg hb
    rw [e1, e3]
    unfold badB at hb
    obtain ⟨B, rfl⟩ : ∃ B : Nat, b = B := ⟨b.toNat, by omega⟩
    rw [Int.toNat_natCast]
    clear e1 e3
    refine spec_of Tryd.func14 rfl Tryd.ntmps14 rfl [(0, _), (1, _)] rfl ?_; intro base F l0 hl0; (try simp only [List.cons_append] at hl0); (try simp only [List.nil_append] at hl0); subst hl0
    repeat' (first | refine sty ?_ | refine And.intro ?_ ?_ | (intro e; exfalso; omega) | (intro e; subst e) | intro _)
    refine tc_lp (ι := {q : Nat × Option Addr × Nat × Nat × List It // q.1 ≤ l.length ∧ q.2.2.2.2 = wob (l.take q.1) B ∧ q.2.2.1 = q.2.2.2.2.length}) [7, 8] (fun e q => (7, .slice q.1.2.1 q.1.2.2.1 q.1.2.2.2.1) :: (8, .int .i64 (q.1.1 : Nat)) :: e)
      (fun q => [Vec 71 2 q.1.2.1 q.1.2.2.1 q.1.2.2.2.1 (itv q.1.2.2.2.2), RoS 2 a l.length c (itv l), F]) (fun q => l.length - q.1.1) ⟨(0, none, 0, 0, []), by dsimp only; omega, by dsimp only; rw [List.take_zero]; unfold wob; rfl, rfl⟩ ?_
      (hl := by show Ent _ [Vec 71 2 none 0 0 [], _, _]; exact en)
    rintro K ⟨⟨i, a2, m2, c2, M⟩, hi, hM, hm2⟩ hK
    dsimp only at hi hM hm2 ⊢
    subst hm2
    have hl1 : M.length ≤ i := by
      rw [hM]; have := wob_le (l := l.take i) (b := B); rw [List.length_take] at this; omega
    by_cases hlt : i < l.length
    · have hs := wob_snoc (l := l.take i) (x := l.getD i default) (b := B)
      rw [← take_snoc' hlt, ← hM] at hs
      by_cases hbb : (l.getD i default).2 = B
      · rw [if_pos hbb] at hs
        repeat' (first | refine sty ?_ | refine And.intro ?_ ?_ | (intro e; exfalso; omega) | (intro e; subst e) | intro _)
        exact again hK ⟨(i + 1, a2, M.length, c2, M), by dsimp only; omega, hs.symm, rfl⟩
      · rw [if_neg hbb] at hs
        repeat' (first | refine sty ?_ | refine And.intro ?_ ?_ | (intro e; exfalso; omega) | (intro e; subst e) | intro _)
        rename_i b5 a5 c5
        rw [← itv_snoc]
        exact again hK ⟨(i + 1, a5, M.length + 1, c5, M ++ [l.getD i default]), by dsimp only; omega, hs.symm, by simp⟩
    · obtain rfl : i = l.length := by omega
      rw [List.take_length] at hM
      rw [← hM]
      repeat' (first | refine sty ?_ | refine And.intro ?_ ?_ | (intro e; exfalso; omega) | (intro e; subst e) | intro _)
      rename_i a5 c5
      refine frz a2 ?_
      exact rt3 ((a2, c2), (a5, c5)) rfl⟩
set_option maxHeartbeats 4000000 in
instance whr_next : Known Tryd.prog 12 (∀ (a : Option Addr) (m c : Nat) (l : List It) (b : Int), MO 4194304 l → m = l.length → m ≤ 1024 → SpecH Tryd.prog 12 #[.slice a m c, .int .i64 b] [RoS 2 a m c (itv l)] (fun _ : Unit => .tuple #[.int .i64 ((nxO l b).getD 0 : Nat), .int .i64 (nxE l b)]) (fun _ => [])) := ⟨fun a m c l b o hm hx => by
  subst hm
  by_cases hb : badB b
  · have e1 : nxO l b = none := if_pos hb
    have e2 : nxE l b = 2 := if_pos hb
    rw [e1, e2]
    unfold badB at hb
    haveI : Known Tryd.prog 29 (SpecH Tryd.prog 29 #[.int .i64 b] [] (fun _ : Unit => .bool false) (fun _ => [])) := ⟨whr_bad.out b hb⟩
    refine spec_of Tryd.func12 rfl Tryd.ntmps12 rfl [(0, _), (1, _)] rfl ?_; intro base F l0 hl0; (try simp only [List.cons_append] at hl0); (try simp only [List.nil_append] at hl0); subst hl0
    repeat' (first | refine sty ?_ | refine And.intro ?_ ?_ | (intro e; exfalso; omega) | (intro e; subst e) | intro _)
    exact rt2 () rfl
  · have e1 : nxO l b = nb (fun c => decide (grp l c ≠ [])) b.toNat := if_neg hb
    have e2 : nxE l b = if (nxO l b).isSome then 0 else 9 := if_neg hb
    rw [e2, e1]
    unfold badB at hb
    obtain ⟨B, rfl⟩ : ∃ B : Nat, b = B := ⟨b.toNat, by omega⟩
    rw [Int.toNat_natCast]
    clear e1 e2
    refine spec_of Tryd.func12 rfl Tryd.ntmps12 rfl [(0, _), (1, _)] rfl ?_; intro base F l0 hl0; (try simp only [List.cons_append] at hl0); (try simp only [List.nil_append] at hl0); subst hl0
    repeat' (first | refine sty ?_ | refine And.intro ?_ ?_ | (intro e; exfalso; omega) | (intro e; subst e) | intro _)
    refine tc_lp (ι := {d : Nat // B ≤ d ∧ d ≤ 256 ∧ ∀ e, B ≤ e → e < d → grp l e = []}) [6] (fun e d => (6, .int .i64 (d.1 : Nat)) :: e) (fun _ => [RoS 2 a l.length c (itv l), F]) (fun d => 256 - d.1) ⟨B, by omega, by omega, by omega⟩ ?_
    rintro K ⟨d, hd1, hd2, hno⟩ hK
    dsimp only
    by_cases hc : d < 256
    · have eL : lstM l (d : Nat) = grp l d := by unfold lstM; rw [if_neg (by unfold badB; omega), Int.toNat_natCast]
      have hlg : (grp l d).length ≤ l.length := by
        have := (grp_sub (l := l) (n := d)).length_le
        rwa [show (ks l).length = l.length from List.length_map _] at this
      by_cases he : (grp l d).length = 0
      · haveI : Known Tryd.prog 35 (SpecH Tryd.prog 35 #[.slice a l.length c, .int .i64 (d : Nat)] [RoS 2 a l.length c (itv l)] (fun q : Option Addr × Nat => .slice q.1 0 q.2) (fun q => [RoS 1 q.1 0 q.2 (u32s (grp l d))])) := ⟨by
          have h := whr_list.out a l.length c l (d : Nat) o rfl hx
          rwa [eL, he] at h⟩
        repeat' (first | refine sty ?_ | refine And.intro ?_ ?_ | (intro e; exfalso; omega) | (intro e; subst e) | intro _)
        exact again hK ⟨d + 1, by omega, by omega, fun e h1 h2 => by
          rcases Nat.lt_or_ge e d with h | h
          · exact hno e h1 h
          · obtain rfl : e = d := by omega
            exact List.length_eq_zero_iff.1 he⟩
      · haveI : Known Tryd.prog 35 (SpecH Tryd.prog 35 #[.slice a l.length c, .int .i64 (d : Nat)] [RoS 2 a l.length c (itv l)] (fun q : Option Addr × Nat => .slice q.1 (grp l d).length q.2) (fun q => [RoS 1 q.1 (grp l d).length q.2 (u32s (grp l d))])) := ⟨by
          have h := whr_list.out a l.length c l (d : Nat) o rfl hx
          rwa [eL] at h⟩
        have hne : grp l d ≠ [] := fun h => he (by rw [h]; rfl)
        rw [nb_some (P := fun c => decide (grp l c ≠ [])) hd1 hc (decide_eq_true hne) fun e h1 h2 => decide_eq_false (fun h => h (hno e h1 h2))]
        repeat' (first | refine sty ?_ | refine And.intro ?_ ?_ | (intro e; exfalso; omega) | (intro e; subst e) | intro _)
        exact rt2 () rfl
    · obtain rfl : d = 256 := by omega
      rw [nb_none (P := fun c => decide (grp l c ≠ [])) fun e h1 h2 => decide_eq_false (fun h => h (hno e h1 h2))]
      repeat' (first | refine sty ?_ | refine And.intro ?_ ?_ | (intro e; exfalso; omega) | (intro e; subst e) | intro _)
      exact rt2 () rfl⟩
instance whr_same : Known Tryd.prog 37 (∀ (a a2 : Option Addr) (m m2 c c2 : Nat) (cs cs2 : List Value) (xs ys : List Nat), AsU cs xs → AsU cs2 ys → m = xs.length → m2 = ys.length → m ≤ 4194304 → m2 ≤ 4194304 → SpecH Tryd.prog 37 #[.slice a m c, .slice a2 m2 c2] [RoS 1 a m c cs, RoS 1 a2 m2 c2 cs2] (fun _ : Unit => .bool (decide (xs = ys))) (fun _ => [])) := ⟨fun a a2 m m2 c c2 cs cs2 xs ys hcs hcs2 hm hm2 hx hy => by
  refine spec_of Tryd.func37 rfl Tryd.ntmps37 rfl [(0, _), (1, _)] rfl ?_; intro base F l0 hl0; (try simp only [List.cons_append] at hl0); (try simp only [List.nil_append] at hl0); subst hl0
  repeat' (first | refine sty ?_ | refine And.intro ?_ ?_ | (intro e; subst e) | intro _)
  exact rt1 () rfl⟩
end Go.Proofs.YtmiblmoppdgnjaaDoor
