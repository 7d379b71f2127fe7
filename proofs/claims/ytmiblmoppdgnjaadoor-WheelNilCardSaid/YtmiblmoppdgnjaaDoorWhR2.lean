/- The reference of wheel, walked: slots that are put, removed, taken; the next bucket. -/
import Derived.Test.YtmiblmoppdgnjaaDoorWhR1
namespace Go.Wh
open Go.Lk Go.Sl Go.Lf
variable {l : List It} {s : Nat} {b : Int} {N : Nat}
/-- Slots stay slots. -/
theorem MO.wo (o : MO N l) : MO N (wo l s) := ⟨o.nd.sublist (List.filter_sublist.map _), fun y hy => o.bk y (mem_wo.1 hy).1, fun y hy => o.lt y (mem_wo.1 hy).1⟩
theorem MO.tak (o : MO N l) : MO N (takM l b) := by
  unfold takM
  split
  · exact o
  · exact ⟨o.nd.sublist (List.filter_sublist.map _), fun y hy => o.bk y (List.mem_filter.1 hy).1, fun y hy => o.lt y (List.mem_filter.1 hy).1⟩
theorem MO.put (o : MO 4194304 l) : MO 4194304 (whM l s b) := by
  unfold whM
  split
  · exact o
  · rename_i h
    unfold badB at h
    refine ⟨?_, fun y hy => ?_, fun y hy => ?_⟩
    · show ((l ++ [(s, b.toNat)]).map (·.1)).Nodup
      rw [List.map_append, List.nodup_append]
      exact ⟨o.nd, by simp, fun a ha c hc e => h (.inr (by simp at hc; rw [← hc, ← e]; exact ha))⟩
    · rcases List.mem_append.1 hy with hy | hy
      · exact o.bk y hy
      · obtain rfl : y = (s, b.toNat) := by simpa using hy
        show b.toNat < 256
        have : ¬ (b < 0 ∨ 256 ≤ b) := fun k => h (.inl (.inr k))
        omega
    · rcases List.mem_append.1 hy with hy | hy
      · exact o.lt y hy
      · obtain rfl : y = (s, b.toNat) := by simpa using hy
        show s < 4194304
        exact Nat.lt_of_not_le fun k => h (.inl (.inl k))
theorem whM_len : (whM l s b).length ≤ l.length + 1 := by
  unfold whM; split
  · omega
  · simp
end Go.Wh
namespace Go.Proofs.YtmiblmoppdgnjaaDoor
open Go.Lk Go.Sl Go.Lf Go.Wh
attribute [local irreducible] TK TL TC Th Bk Nx fnPost WA TQ OpQ OpN SpecH Rd Ent IterH RoundH Rb Rp fnPostM
attribute [local irreducible] Lf.wo Lf.cntOf Wh.wob Wh.lstR Wh.fnd Lf.grp
set_option maxHeartbeats 4000000 in
instance whr_put : Known Tryd.prog 10 (∀ (a : Option Addr) (m c : Nat) (l : List It) (xs : Int) (s : Nat) [NatI xs s] (b : Int), m = l.length → m ≤ 1024 → SpecH Tryd.prog 10 #[.slice a m c, .int .u32 xs, .int .i64 b] [RoS 2 a m c (itv l)] (fun q : Option Addr × Nat => .tuple #[.slice q.1 (whM l s b).length q.2, .int .i64 (whE l s b)]) (fun q => [RoS 2 q.1 (whM l s b).length q.2 (itv (whM l s b))])) := ⟨fun a m c l xs s _ b hm hx => by
  obtain rfl : xs = (s : Int) := NatI.out
  subst hm
  by_cases hbad : 4194304 ≤ s ∨ badB b
  · have e1 : whE l s b = 2 := if_pos hbad
    have e2 : whM l s b = l := if_pos (.inl hbad)
    rw [e1, e2]
    clear e1 e2
    by_cases hs : 4194304 ≤ s
    · clear hbad
      refine spec_of Tryd.func10 rfl Tryd.ntmps10 rfl [(0, _), (1, _), (2, _)] rfl ?_; intro base F l0 hl0; (try simp only [List.cons_append] at hl0); (try simp only [List.nil_append] at hl0); subst hl0
      haveI : Known Tryd.prog 29 (SpecH Tryd.prog 29 #[.int .i64 b] [] (fun _ : Unit => .bool (decide (0 ≤ b ∧ b < 256))) (fun _ => [])) := ⟨by
        by_cases h : 0 ≤ b ∧ b < 256
        · rw [decide_eq_true h]; exact whr_ok.out b h.1 h.2
        · rw [decide_eq_false h]; exact whr_bad.out b (by omega)⟩
      repeat' (first | refine sty ?_ | refine And.intro ?_ ?_ | (intro e; exfalso; omega) | (intro e; subst e) | intro _)
      all_goals exact rt2 (a, c) rfl
    · have hb : badB b := by rcases hbad with h | h; exact absurd h hs; exact h
      unfold badB at hb
      clear hbad
      have hs2 : (s : Int) < 4194304 := by omega
      clear hs
      haveI : Known Tryd.prog 29 (SpecH Tryd.prog 29 #[.int .i64 b] [] (fun _ : Unit => .bool false) (fun _ => [])) := ⟨whr_bad.out b hb⟩
      refine spec_of Tryd.func10 rfl Tryd.ntmps10 rfl [(0, _), (1, _), (2, _)] rfl ?_; intro base F l0 hl0; (try simp only [List.cons_append] at hl0); (try simp only [List.nil_append] at hl0); subst hl0
      repeat' (first | refine sty ?_ | refine And.intro ?_ ?_ | (intro e; exfalso; omega) | (intro e; subst e) | intro _)
      all_goals exact rt2 (a, c) rfl
  · have hs2 : (s : Int) < 4194304 := by by_cases h : 4194304 ≤ s; exact absurd (.inl h) hbad; omega
    have hb0 : ¬ badB b := fun h => hbad (.inr h)
    unfold badB at hb0
    have hb1 : 0 ≤ b ∧ b < 256 := by omega
    haveI : Known Tryd.prog 29 (SpecH Tryd.prog 29 #[.int .i64 b] [] (fun _ : Unit => .bool true) (fun _ => [])) := ⟨whr_ok.out b hb1.1 hb1.2⟩
    by_cases hm : s ∈ ks l
    · have e1 : whE l s b = 11 := by unfold whE; rw [if_neg hbad, if_pos hm]
      have e2 : whM l s b = l := if_pos (.inr hm)
      obtain ⟨i, i1, i2, i3⟩ := first_ex hm
      haveI : Known Tryd.prog 30 (SpecH Tryd.prog 30 #[.slice a l.length c, .int .u32 (s : Nat)] [RoS 2 a l.length c (itv l)] (fun _ : Unit => .int .i64 (i : Nat)) (fun _ => [])) := ⟨by
        have h := whr_find.out a l.length c l (s : Nat) s rfl hx
        rwa [fnd_at i1 i2 i3] at h⟩
      rw [e1, e2]
      clear hbad hb0 e1 e2
      refine spec_of Tryd.func10 rfl Tryd.ntmps10 rfl [(0, _), (1, _), (2, _)] rfl ?_; intro base F l0 hl0; (try simp only [List.cons_append] at hl0); (try simp only [List.nil_append] at hl0); subst hl0
      repeat' (first | refine sty ?_ | refine And.intro ?_ ?_ | (intro e; exfalso; omega) | (intro e; subst e) | intro _)
      exact rt2 (a, c) rfl
    · have e1 : whE l s b = 0 := by unfold whE; rw [if_neg hbad, if_neg hm]
      have e2 : whM l s b = l ++ [(s, b.toNat)] := if_neg (fun h => by rcases h with h | h; exact hbad h; exact hm h)
      haveI : Known Tryd.prog 30 (SpecH Tryd.prog 30 #[.slice a l.length c, .int .u32 (s : Nat)] [RoS 2 a l.length c (itv l)] (fun _ : Unit => .int .i64 (-1)) (fun _ => [])) := ⟨by
        have h := whr_find.out a l.length c l (s : Nat) s rfl hx
        rwa [fnd_not hm] at h⟩
      rw [e1, e2]
      clear hbad hb0 e1 e2
      obtain ⟨B, rfl⟩ : ∃ B : Nat, b = B := ⟨b.toNat, by omega⟩
      rw [Int.toNat_natCast, itv_snoc, show (l ++ [(s, B)]).length = l.length + 1 from by simp, show itc (s, B) = [.int .u32 (s : Nat), .int .i64 (B : Nat)] from rfl]
      refine spec_of Tryd.func10 rfl Tryd.ntmps10 rfl [(0, _), (1, _), (2, _)] rfl ?_; intro base F l0 hl0; (try simp only [List.cons_append] at hl0); (try simp only [List.nil_append] at hl0); subst hl0
      repeat' (first | refine sty ?_ | refine And.intro ?_ ?_ | (intro e; exfalso; omega) | (intro e; subst e) | intro _)
      rename_i a5 c5
      refine frz a5 ?_
      exact rt2 (a5, c5) rfl⟩
set_option maxHeartbeats 4000000 in
instance whr_remove : Known Tryd.prog 17 (∀ (a : Option Addr) (m c : Nat) (l : List It) (xs : Int) (s : Nat) [NatI xs s], MO 4194304 l → m = l.length → m ≤ 1024 → SpecH Tryd.prog 17 #[.slice a m c, .int .u32 xs] [RoS 2 a m c (itv l)] (fun q : Option Addr × Nat => .tuple #[.slice q.1 (wo l s).length q.2, .int .i64 (cntOf l s : Nat), .int .i64 (slotE l s)]) (fun q => [RoS 2 q.1 (wo l s).length q.2 (itv (wo l s))])) := ⟨fun a m c l xs s _ o hm hx => by
  obtain rfl : xs = (s : Int) := NatI.out
  subst hm
  by_cases hm : s ∈ ks l
  · have hs2 : s < 4194304 := by
      obtain ⟨y, hy, rfl⟩ := List.mem_map.1 hm
      exact o.lt y hy
    have e1 : slotE l s = 0 := by unfold slotE; rw [if_neg (by omega), if_pos hm]
    obtain ⟨i, i1, i2, i3⟩ := first_ex hm
    haveI : Known Tryd.prog 30 (SpecH Tryd.prog 30 #[.slice a l.length c, .int .u32 (s : Nat)] [RoS 2 a l.length c (itv l)] (fun _ : Unit => .int .i64 (i : Nat)) (fun _ => [])) := ⟨by
      have h := whr_find.out a l.length c l (s : Nat) s rfl hx
      rwa [fnd_at i1 i2 i3] at h⟩
    have hcut := wo_cut o.nd i1 i2
    have hlen : i + (l.length - (i + 1)) = (wo l s).length := by rw [← hcut]; simp; omega
    have hcells : (itv l).take (i * 2) ++ (itv l).drop ((i + 1) * 2) = itv (wo l s) := by rw [itv_take, itv_drop, ← hcut]; unfold itv; rw [cellsOf_append]
    rw [e1, cntOf_at i1 i2 i3]
    have hs3 : (s : Int) < 4194304 := by omega
    clear e1 hs2
    refine spec_of Tryd.func17 rfl Tryd.ntmps17 rfl [(0, _), (1, _)] rfl ?_; intro base F l0 hl0; (try simp only [List.cons_append] at hl0); (try simp only [List.nil_append] at hl0); subst hl0
    repeat' (first | refine sty ?_ | refine And.intro ?_ ?_ | (intro e; exfalso; omega) | (intro e; subst e) | intro _)
    refine drx [] ?_
    refine tks [0, 1, 4, 5, 9, 10, 2, 6, 11, 7, 12, 13] 5 ?_; repeat' (first | refine sty ?_ | refine And.intro ?_ ?_ | (intro e; exfalso; omega) | (intro e; subst e) | intro _)
    refine hv 3 fun x3 => ?_
    refine hv 8 fun x8 => ?_
    refine tks [14, 15, 16] 0 ?_; repeat' (first | refine sty ?_ | refine And.intro ?_ ?_ | (intro e; exfalso; omega) | (intro e; subst e) | intro _)
    rw [hlen, hcells]
    refine frz x8.1 ?_
    exact rt3 x8 rfl
  · rw [wo_not hm, cntOf_not hm]
    haveI : Known Tryd.prog 30 (SpecH Tryd.prog 30 #[.slice a l.length c, .int .u32 (s : Nat)] [RoS 2 a l.length c (itv l)] (fun _ : Unit => .int .i64 (-1)) (fun _ => [])) := ⟨by
      have h := whr_find.out a l.length c l (s : Nat) s rfl hx
      rwa [fnd_not hm] at h⟩
    by_cases hs : 4194304 ≤ s
    · have e1 : slotE l s = 2 := if_pos hs
      rw [e1]
      refine spec_of Tryd.func17 rfl Tryd.ntmps17 rfl [(0, _), (1, _)] rfl ?_; intro base F l0 hl0; (try simp only [List.cons_append] at hl0); (try simp only [List.nil_append] at hl0); subst hl0
      repeat' (first | refine sty ?_ | refine And.intro ?_ ?_ | (intro e; exfalso; omega) | (intro e; subst e) | intro _)
      exact rt3 (a, c) rfl
    · have e1 : slotE l s = 9 := by unfold slotE; rw [if_neg hs, if_neg hm]
      have hs2 : (s : Int) < 4194304 := by omega
      rw [e1]
      clear hs
      refine spec_of Tryd.func17 rfl Tryd.ntmps17 rfl [(0, _), (1, _)] rfl ?_; intro base F l0 hl0; (try simp only [List.cons_append] at hl0); (try simp only [List.nil_append] at hl0); subst hl0
      repeat' (first | refine sty ?_ | refine And.intro ?_ ?_ | (intro e; exfalso; omega) | (intro e; subst e) | intro _)
      exact rt3 (a, c) rfl⟩
end Go.Proofs.YtmiblmoppdgnjaaDoor
