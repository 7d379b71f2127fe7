/- The reference of lru, walked: Use, Renumber, Same. -/
import Derived.Test.YtbkpojlbclehaaaLrR1
namespace Go.Proofs.Ytbkpojlbclehaaa
open Go.Lk Go.Sl Go.Lr
attribute [local irreducible] TK TL TC Th Bk Nx fnPost WA TQ OpQ OpN SpecH Rd Ent IterH RoundH Rb Rp fnPostM
attribute [local irreducible] Lr.addE Lr.addL Lr.remE Lr.useL Lr.renE' Lr.renL Lr.findI
set_option maxHeartbeats 4000000 in
instance lrr_renumber : Known Try.prog 102 (∀ (a a2 : Option Addr) (m m2 c c2 : Nat) (L to : List Nat), m = L.length → m ≤ 4194304 → m2 = to.length → m2 ≤ 4194304 → (∀ x ∈ to, x < 4294967296) → (∀ x ∈ L, x < 4194304) → SpecH Try.prog 102 #[.slice a m c, .slice a2 m2 c2] [RoS 1 a m c (u32s L), RoS 1 a2 m2 c2 (u32s to)] (fun q : Option Addr × Nat => .tuple #[.slice q.1 L.length q.2, .int .i64 (Lr.renE' L to)]) (fun q => [RoS 1 q.1 L.length q.2 (u32s (Lr.renL L to))])) := ⟨fun a a2 m m2 c c2 L to hm hx hm2 hx2 hto hL => by
  subst hm; subst hm2
  refine spec_of Try.func102 rfl Try.ntmps102 rfl [(0, _), (1, _)] rfl ?_; intro base F l0 hl0; (try simp only [List.cons_append] at hl0); (try simp only [List.nil_append] at hl0); subst hl0
  repeat' (first | refine stx ?_ | refine And.intro ?_ ?_ | (intro e; exfalso; omega) | (intro e; subst e) | intro _)
  refine tc_lp (ι := {q : Nat × Option Addr × Nat // q.1 ≤ L.length ∧ Lr.renOk (L.take q.1) to}) [6, 7] (fun e q => (6, .slice q.1.2.1 ((L.take q.1.1).map (Lr.gto to)).length q.1.2.2) :: (7, .int .i64 q.1.1) :: e) (fun q => [RoS 1 q.1.2.1 ((L.take q.1.1).map (Lr.gto to)).length q.1.2.2 (u32s ((L.take q.1.1).map (Lr.gto to))), RoS 1 a L.length c (u32s L), RoS 1 a2 to.length c2 (u32s to), F]) (fun q => L.length - q.1.1) ⟨(0, none, 0), by dsimp only; omega, Lr.renOk_nil⟩ ?_
  rintro K ⟨⟨i, a1, c1⟩, hi, hok⟩ hK
  dsimp only at hi hok ⊢
  have hl1 : ((L.take i).map (Lr.gto to)).length = i := by simp; omega
  have hbad : i < L.length → ¬ Lr.renOk (L.take (i + 1)) to → Lr.renE' L to = 2 ∧ Lr.renL L to = L := fun h h2 => by
    have : ¬ Lr.renOk L to := fun hh => h2 (hh.sub (List.take_sublist _ _))
    unfold Lr.renE' Lr.renL
    exact ⟨if_neg this, if_neg this⟩
  by_cases hlt : i < L.length
  · have hLi : L.getD i 0 < 4194304 := by rw [List.getD_eq_getElem?_getD, List.getElem?_eq_getElem hlt]; exact hL _ (List.getElem_mem _)
    have ht := Lr.renOk_take (to := to) hlt
    have hmt := Lr.map_take (to := to) hlt
    by_cases hs : L.getD i 0 < to.length
    · have hto2 : to.getD (L.getD i 0) 0 < 4294967296 := by
        rw [List.getD_eq_getElem?_getD, List.getElem?_eq_getElem hs]; exact hto _ (List.getElem_mem _)
      by_cases he : Lr.addE ((L.take i).map (Lr.gto to)) (to.getD (L.getD i 0) 0) = 0
      · have h7 := Lr.addL_ok he
        repeat' (first | refine stx ?_ | refine And.intro ?_ ?_ | (intro e; exfalso; omega) | (intro e; subst e) | intro _)
        rename_i a5 c5
        rw [h7.trans hmt.symm]
        exact again hK ⟨(i + 1, a5, c5), by dsimp only; omega, ht.2 ⟨hok, hs, he⟩⟩
      · obtain ⟨b1, b2⟩ := hbad hlt (fun h => he (ht.1 h).2.2)
        rw [b1, b2]
        repeat' (first | refine stx ?_ | refine And.intro ?_ ?_ | (intro e; exfalso; omega) | (intro e; subst e) | intro _)
        exact rt2 (a, c) rfl
    · obtain ⟨b1, b2⟩ := hbad hlt (fun h => hs (ht.1 h).2.1)
      rw [b1, b2]
      repeat' (first | refine stx ?_ | refine And.intro ?_ ?_ | (intro e; exfalso; omega) | (intro e; subst e) | intro _)
      exact rt2 (a, c) rfl
  · obtain rfl : i = L.length := by omega
    rw [List.take_length] at hok hl1 ⊢
    have b1 : Lr.renE' L to = 0 := by unfold Lr.renE'; exact if_pos hok
    have b2 : Lr.renL L to = L.map (Lr.gto to) := by unfold Lr.renL; exact if_pos hok
    rw [b1, b2, hl1]
    repeat' (first | refine stx ?_ | refine And.intro ?_ ?_ | (intro e; exfalso; omega) | (intro e; subst e) | intro _)
    exact rt2 (a1, c1) rfl⟩
instance lrr_same : Known Try.prog 28 (∀ (a a2 : Option Addr) (m m2 c c2 : Nat) (cs cs2 : List Value) (xs ys : List Nat), AsU cs xs → AsU cs2 ys → m = xs.length → m2 = ys.length → m ≤ 4194304 → m2 ≤ 4194304 → SpecH Try.prog 28 #[.slice a m c, .slice a2 m2 c2] [RoS 1 a m c cs, RoS 1 a2 m2 c2 cs2] (fun _ : Unit => .bool (decide (xs = ys))) (fun _ => [])) := ⟨fun a a2 m m2 c c2 cs cs2 xs ys hcs hcs2 hm hm2 hx hy => by
  refine spec_of Try.func28 rfl Try.ntmps28 rfl [(0, _), (1, _)] rfl ?_; intro base F l0 hl0; (try simp only [List.cons_append] at hl0); (try simp only [List.nil_append] at hl0); subst hl0
  repeat' (first | refine stx ?_ | refine And.intro ?_ ?_ | (intro e; subst e) | intro _)
  exact rt1 () rfl⟩
end Go.Proofs.Ytbkpojlbclehaaa
