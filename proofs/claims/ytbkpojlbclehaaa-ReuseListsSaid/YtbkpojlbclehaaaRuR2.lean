/- The reference of reuse, walked: hits. -/
import Derived.Test.YtbkpojlbclehaaaRuR1
namespace Go.Ru
open Go.Sl
variable {tr : List Nat} {i m s : Nat}
theorem cnt_step : cnt tr s (i + 1) = cnt tr s i + if 0 ≤ D tr i ∧ D tr i < (s : Int) then 1 else 0 := rfl
/-- The hits for all sizes below one. -/
def hp (tr : List Nat) (s : Nat) : List Int := (List.range s).map fun j => (cnt tr j tr.length : Nat)
theorem hp_succ : hp tr (s + 1) = hp tr s ++ [((cnt tr s tr.length : Nat) : Int)] := by simp [hp, List.range_succ]
theorem hp_len : (hp tr s).length = s := by simp [hp]
theorem minN {a b : Nat} : (min (a : Int) (b : Int)).toNat = min a b := by
  rcases Nat.le_total a b with h | h
  · rw [Nat.min_eq_left h, Int.min_eq_left (Int.ofNat_le.2 h), Int.toNat_natCast]
  · rw [Nat.min_eq_right h, Int.min_eq_right (Int.ofNat_le.2 h), Int.toNat_natCast]
theorem hp_all : hp tr (s + 1) = hitsL tr s := rfl
end Go.Ru
namespace Go.Proofs.Ytbkpojlbclehaaa
open Go.Lk Go.Sl Go.Ru
attribute [local irreducible] TK TL TC Th Bk Nx fnPost WA TQ OpQ OpN SpecH Rd Ent IterH RoundH Rb Rp fnPostM
attribute [local irreducible] Ru.S Ru.D Ru.lb Ru.upd Ru.cnt Ru.dd Ru.stk Ru.rv
set_option maxHeartbeats 4000000 in
instance rr_same : Known Try.prog 42 (∀ (a a2 : Option Addr) (m m2 c c2 : Nat) (cs cs2 : List Value) (xs ys : List Nat), AsU cs xs → AsU cs2 ys → m = xs.length → m2 = ys.length → m ≤ 4194304 → m2 ≤ 4194304 → SpecH Try.prog 42 #[.slice a m c, .slice a2 m2 c2] [RoS 1 a m c cs, RoS 1 a2 m2 c2 cs2] (fun _ : Unit => .bool (decide (xs = ys))) (fun _ => [])) := ⟨fun a a2 m m2 c c2 cs cs2 xs ys hcs hcs2 hm hm2 hx hy => by
  subst hm; subst hm2
  rw [hcs.out, hcs2.out]
  refine spec_of Try.func42 rfl Try.ntmps42 rfl [(0, _), (1, _)] rfl ?_; intro base F l0 hl0; (try simp only [List.cons_append] at hl0); (try simp only [List.nil_append] at hl0); subst hl0
  repeat' (first | refine stw ?_ | refine And.intro ?_ ?_ | (intro e; subst e) | intro _)
  · refine rt1 () ?_
    congr 1; symm; rw [decide_eq_false_iff_not]; rintro rfl; omega
  · have hlen : xs.length = ys.length := by omega
    refine tc_lp (ι := {i : Nat // i ≤ xs.length ∧ ∀ j, j < i → xs.getD j 0 = ys.getD j 0}) [5] (fun e i => (5, .int .i64 i.1) :: e) (fun _ => _) (fun i => xs.length - i.1) ⟨0, by omega, by omega⟩ ?_ (hl := Ent.refl _)
    rintro K ⟨i, hi, he⟩ hK
    dsimp only
    repeat' (first | refine stw ?_ | refine And.intro ?_ ?_ | (intro e; subst e) | intro _)
    · refine rt1 () ?_
      congr 1; symm; rw [decide_eq_false_iff_not]; rintro rfl; omega
    · refine again hK ⟨i + 1, by omega, fun j hj => ?_⟩
      rcases Nat.lt_or_ge j i with x | x
      · exact he j x
      · obtain rfl : j = i := by omega
        omega
    · refine rt1 () ?_
      congr 1; symm; rw [decide_eq_true_iff]
      refine List.ext_getElem hlen fun j h1 h2 => ?_
      have := he j (by omega)
      rw [List.getD_eq_getElem?_getD, List.getD_eq_getElem?_getD, List.getElem?_eq_getElem h1, List.getElem?_eq_getElem h2] at this
      exact this⟩
set_option maxHeartbeats 4000000 in
instance rr_ints : Known Try.prog 40 (∀ (a a2 : Option Addr) (m m2 c c2 : Nat) (cs cs2 : List Value) (xs ys : List Int), AsI cs xs → AsI cs2 ys → m = xs.length → m2 = ys.length → m ≤ 4194304 → m2 ≤ 4194304 → SpecH Try.prog 40 #[.slice a m c, .slice a2 m2 c2] [RoS 1 a m c cs, RoS 1 a2 m2 c2 cs2] (fun _ : Unit => .bool (decide (xs = ys))) (fun _ => [])) := ⟨fun a a2 m m2 c c2 cs cs2 xs ys hcs hcs2 hm hm2 hx hy => by
  subst hm; subst hm2
  rw [hcs.out, hcs2.out]
  refine spec_of Try.func40 rfl Try.ntmps40 rfl [(0, _), (1, _)] rfl ?_; intro base F l0 hl0; (try simp only [List.cons_append] at hl0); (try simp only [List.nil_append] at hl0); subst hl0
  repeat' (first | refine stw ?_ | refine And.intro ?_ ?_ | (intro e; subst e) | intro _)
  · refine rt1 () ?_
    congr 1; symm; rw [decide_eq_false_iff_not]; rintro rfl; omega
  · have hlen : xs.length = ys.length := by omega
    refine tc_lp (ι := {i : Nat // i ≤ xs.length ∧ ∀ j, j < i → xs.getD j 0 = ys.getD j 0}) [5] (fun e i => (5, .int .i64 i.1) :: e) (fun _ => _) (fun i => xs.length - i.1) ⟨0, by omega, by omega⟩ ?_ (hl := Ent.refl _)
    rintro K ⟨i, hi, he⟩ hK
    dsimp only
    repeat' (first | refine stw ?_ | refine And.intro ?_ ?_ | (intro e; subst e) | intro _)
    · refine rt1 () ?_
      congr 1; symm; rw [decide_eq_false_iff_not]; rintro rfl; omega
    · refine again hK ⟨i + 1, by omega, fun j hj => ?_⟩
      rcases Nat.lt_or_ge j i with x | x
      · exact he j x
      · obtain rfl : j = i := by omega
        omega
    · refine rt1 () ?_
      congr 1; symm; rw [decide_eq_true_iff]
      refine List.ext_getElem hlen fun j h1 h2 => ?_
      have := he j (by omega)
      rw [List.getD_eq_getElem?_getD, List.getD_eq_getElem?_getD, List.getElem?_eq_getElem h1, List.getElem?_eq_getElem h2] at this
      exact this⟩
set_option maxHeartbeats 8000000 in
instance rr_hits : Known Try.prog 82 (∀ (a : Option Addr) (n cap : Nat) (tr : List Nat) (xs : Int) (s : Nat) [NatI xs s], n = tr.length → n ≤ 4096 → s ≤ 4096 → SpecH Try.prog 82 #[.slice a n cap, .int .i64 xs] [RoS 1 a n cap (u32s tr)] (fun _ : Unit => .int .i64 (cnt tr s n : Nat)) (fun _ => [])) := ⟨fun a n cap tr xs s _ hn hx hs => by
  obtain rfl : xs = (s : Int) := NatI.out
  subst hn
  refine spec_of Try.func82 rfl Try.ntmps82 rfl [(0, _), (1, _)] rfl ?_; intro base F l0 hl0; (try simp only [List.cons_append] at hl0); (try simp only [List.nil_append] at hl0); subst hl0
  haveI := rr_hasB
  repeat' (first | refine stw ?_ | refine And.intro ?_ ?_ | (intro e; exfalso; omega) | (intro e; subst e) | intro _)
  refine tc_lp (ι := {q : Nat × Nat × (Option Addr × Nat) × List Nat // q.1 ≤ tr.length ∧ q.2.1 = cnt tr s q.1 ∧ q.2.2.2 = (stk tr q.1).take s}) [5, 6, 7] (fun e q => (5, .int .i64 (q.1.2.1 : Nat)) :: (6, .slice q.1.2.2.1.1 q.1.2.2.2.length q.1.2.2.1.2) :: (7, .int .i64 (q.1.1 : Nat)) :: e) (fun q => [RoS 1 q.1.2.2.1.1 q.1.2.2.2.length q.1.2.2.1.2 (u32s q.1.2.2.2), RoS 1 a tr.length cap (u32s tr), F]) (fun q => tr.length - q.1.1) ⟨(0, 0, (none, 0), []), by omega, by unfold cnt; rfl, by rw [stk_zero]; simp⟩ ?_
    (hl := by show Ent _ [RoS 1 none 0 0 [], RoS 1 a tr.length cap (u32s tr), F]; exact en)
  rintro K ⟨⟨i, z, ⟨b, c⟩, ls⟩, hi, hz, hls⟩ hK
  dsimp only at hi hz hls ⊢
  have hcl := cnt_le (tr := tr) (s := s) (i := i)
  by_cases hc : i < tr.length
  · have hsl := stk_len_le (tr := tr) (i := i)
    have hll : ls.length ≤ i := by rw [hls, List.length_take]; omega
    have hcs := cnt_step (tr := tr) (s := s) (i := i)
    have hnx : (tr.getD i 0 :: ls.filter fun y => y != tr.getD i 0).take s = (stk tr (i + 1)).take s := by rw [stk_succ hc, hls, lru_step stk_nodup]
    have hit := hit_iff (tr := tr) (i := i) (s := s)
    rw [← hls] at hit
    by_cases hin : tr.getD i 0 ∈ ls
    · rw [if_pos (hit.1 hin), ← hz] at hcs
      have hb : InB ls (tr.getD i 0) true := ⟨decide_eq_true hin⟩
      repeat' (first | refine stw ?_ | refine And.intro ?_ ?_ | (intro e; exfalso; omega) | (intro e; subst e) | intro _)
      rename_i bn
      refine tc_lp (ι := {q : Nat × (Option Addr × Nat) × List Nat // q.1 ≤ ls.length ∧ q.2.2 = tr.getD i 0 :: (ls.take q.1).filter fun y => y != tr.getD i 0}) [8, 9] (fun e q => (8, .slice q.1.2.1.1 q.1.2.2.length q.1.2.1.2) :: (9, .int .i64 (q.1.1 : Nat)) :: e) (fun q => [Vec 34 1 q.1.2.1.1 q.1.2.2.length q.1.2.1.2 (u32s q.1.2.2), RoS 1 b ls.length c (u32s ls), RoS 1 a tr.length cap (u32s tr), F]) (fun q => ls.length - q.1.1) ⟨(0, (some ⟨bn, 0, none⟩, 1), [tr.getD i 0]), by omega, by simp⟩ ?_
      rintro K2 ⟨⟨k, ⟨nb, nc⟩, nx⟩, hk, hnxe⟩ hK2
      dsimp only at hk hnxe ⊢
      have hnl : nx.length ≤ k + 1 := by
        rw [hnxe, List.length_cons]
        have := List.length_filter_le (fun y => y != tr.getD i 0) (ls.take k)
        rw [List.length_take] at this
        omega
      by_cases hkl : k < ls.length
      · obtain ⟨f1, f2⟩ := filter_take (x := tr.getD i 0) hkl
        by_cases he : ls.getD k 0 = tr.getD i 0
        · repeat' (first | refine stw ?_ | refine And.intro ?_ ?_ | (intro e; exfalso; omega) | (intro e; subst e) | intro _)
          exact again hK2 ⟨(k + 1, (nb, nc), nx), by omega, by rw [f1 he]; exact hnxe⟩
        · repeat' (first | refine stw ?_ | refine And.intro ?_ ?_ | (intro e; exfalso; omega) | (intro e; subst e) | intro _)
          rename_i _ b2 c2
          rw [← u32s_snocR, show nx.length + 1 = (nx ++ [ls.getD k 0]).length by simp]
          exact again hK2 ⟨(k + 1, (b2, c2), nx ++ [ls.getD k 0]), by omega, by rw [f2 he, hnxe]; rfl⟩
      · obtain rfl : k = ls.length := by omega
        rw [List.take_length] at hnxe
        rw [← hnxe] at hnx
        have hmn : (min (s : Int) (nx.length : Int)).toNat = (nx.take s).length := by rw [List.length_take]; exact minN
        have htk : (u32s nx).take ((nx.take s).length * 1) = u32s (nx.take s) := by
          unfold u32s
          rw [Nat.mul_one, ← List.map_take, List.length_take, ← List.take_eq_take_min]
        repeat' (first | refine stw ?_ | refine And.intro ?_ ?_ | (intro e; exfalso; omega) | (intro e; subst e) | intro _)
        refine TL.freeze (a := nb) (by (repeat (first | (with_reducible exact Rem.here _ _) | (with_reducible apply Rem.there) | fail)); done) ?_
        repeat' (first | refine stw ?_ | refine And.intro ?_ ?_ | (intro e; exfalso; omega) | (intro e; subst e) | intro _)
        rename_i a6 c6
        rw [hmn, htk]
        exact again hK ⟨(i + 1, z + 1, (a6, c6), nx.take s), by dsimp only; omega, by dsimp only; omega, hnx⟩ (by dsimp only; omega)
    · rw [if_neg (fun h => hin (hit.2 h)), ← hz] at hcs
      have hb : InB ls (tr.getD i 0) false := ⟨decide_eq_false hin⟩
      repeat' (first | refine stw ?_ | refine And.intro ?_ ?_ | (intro e; exfalso; omega) | (intro e; subst e) | intro _)
      rename_i bn
      refine tc_lp (ι := {q : Nat × (Option Addr × Nat) × List Nat // q.1 ≤ ls.length ∧ q.2.2 = tr.getD i 0 :: (ls.take q.1).filter fun y => y != tr.getD i 0}) [8, 9] (fun e q => (8, .slice q.1.2.1.1 q.1.2.2.length q.1.2.1.2) :: (9, .int .i64 (q.1.1 : Nat)) :: e) (fun q => [Vec 34 1 q.1.2.1.1 q.1.2.2.length q.1.2.1.2 (u32s q.1.2.2), RoS 1 b ls.length c (u32s ls), RoS 1 a tr.length cap (u32s tr), F]) (fun q => ls.length - q.1.1) ⟨(0, (some ⟨bn, 0, none⟩, 1), [tr.getD i 0]), by omega, by simp⟩ ?_
      rintro K2 ⟨⟨k, ⟨nb, nc⟩, nx⟩, hk, hnxe⟩ hK2
      dsimp only at hk hnxe ⊢
      have hnl : nx.length ≤ k + 1 := by
        rw [hnxe, List.length_cons]
        have := List.length_filter_le (fun y => y != tr.getD i 0) (ls.take k)
        rw [List.length_take] at this
        omega
      by_cases hkl : k < ls.length
      · obtain ⟨f1, f2⟩ := filter_take (x := tr.getD i 0) hkl
        by_cases he : ls.getD k 0 = tr.getD i 0
        · repeat' (first | refine stw ?_ | refine And.intro ?_ ?_ | (intro e; exfalso; omega) | (intro e; subst e) | intro _)
          exact again hK2 ⟨(k + 1, (nb, nc), nx), by omega, by rw [f1 he]; exact hnxe⟩
        · repeat' (first | refine stw ?_ | refine And.intro ?_ ?_ | (intro e; exfalso; omega) | (intro e; subst e) | intro _)
          rename_i _ b2 c2
          rw [← u32s_snocR, show nx.length + 1 = (nx ++ [ls.getD k 0]).length by simp]
          exact again hK2 ⟨(k + 1, (b2, c2), nx ++ [ls.getD k 0]), by omega, by rw [f2 he, hnxe]; rfl⟩
      · obtain rfl : k = ls.length := by omega
        rw [List.take_length] at hnxe
        rw [← hnxe] at hnx
        have hmn : (min (s : Int) (nx.length : Int)).toNat = (nx.take s).length := by rw [List.length_take]; exact minN
        have htk : (u32s nx).take ((nx.take s).length * 1) = u32s (nx.take s) := by
          unfold u32s
          rw [Nat.mul_one, ← List.map_take, List.length_take, ← List.take_eq_take_min]
        repeat' (first | refine stw ?_ | refine And.intro ?_ ?_ | (intro e; exfalso; omega) | (intro e; subst e) | intro _)
        refine TL.freeze (a := nb) (by (repeat (first | (with_reducible exact Rem.here _ _) | (with_reducible apply Rem.there) | fail)); done) ?_
        repeat' (first | refine stw ?_ | refine And.intro ?_ ?_ | (intro e; exfalso; omega) | (intro e; subst e) | intro _)
        rename_i a6 c6
        rw [hmn, htk]
        exact again hK ⟨(i + 1, z, (a6, c6), nx.take s), by dsimp only; omega, by dsimp only; omega, hnx⟩ (by dsimp only; omega)
  · obtain rfl : i = tr.length := by omega
    subst hz
    repeat' (first | refine stw ?_ | refine And.intro ?_ ?_ | (intro e; exfalso; omega) | (intro e; subst e) | intro _)
    exact rt1 () rfl⟩
set_option maxHeartbeats 4000000 in
instance rr_Hits : Known Try.prog 45 (∀ (a : Option Addr) (n cap : Nat) (tr : List Nat), n = tr.length → n ≤ 4096 → SpecH Try.prog 45 #[.slice a n cap] [RoS 1 a n cap (u32s tr)] (fun q : Option Addr × Nat => .slice q.1 ((stk tr n).length + 1) q.2) (fun q => [RoS 1 q.1 ((stk tr n).length + 1) q.2 (intsV .i64 (hitsL tr (stk tr n).length))])) := ⟨fun a n cap tr hn hx => by
  subst hn
  have hsl := stk_len_le (tr := tr) (i := tr.length)
  refine spec_of Try.func45 rfl Try.ntmps45 rfl [(0, _)] rfl ?_; intro base F l0 hl0; (try simp only [List.cons_append] at hl0); (try simp only [List.nil_append] at hl0); subst hl0
  repeat' (first | refine stw ?_ | refine And.intro ?_ ?_ | (intro e; exfalso; omega) | (intro e; subst e) | intro _)
  refine tc_lp (ι := {q : Nat × Option Addr × Nat // q.1 ≤ (stk tr tr.length).length + 1}) [3, 4] (fun e q => (3, .slice q.1.2.1 q.1.1 q.1.2.2) :: (4, .int .i64 (q.1.1 : Nat)) :: e) (fun q => [Vec 3 1 q.1.2.1 q.1.1 q.1.2.2 (intsV .i64 (hp tr q.1.1)), RoS 1 a tr.length cap (u32s tr), F]) (fun q => (stk tr tr.length).length + 1 - q.1.1) ⟨(0, none, 0), by omega⟩ ?_
    (hl := by show Ent _ [Vec 3 1 none 0 0 [], RoS 1 a tr.length cap (u32s tr), F]; exact en)
  rintro K ⟨⟨i, b, c⟩, hi⟩ hK
  dsimp only at hi ⊢
  by_cases hc : i ≤ (stk tr tr.length).length
  · repeat' (first | refine stw ?_ | refine And.intro ?_ ?_ | (intro e; exfalso; omega) | (intro e; subst e) | intro _)
    rename_i _ b2 c2
    rw [← intsV_snoc, ← hp_succ]
    exact again hK ⟨(i + 1, b2, c2), by omega⟩
  · obtain rfl : i = (stk tr tr.length).length + 1 := by omega
    rw [← hp_all]
    repeat' (first | refine stw ?_ | refine And.intro ?_ ?_ | (intro e; exfalso; omega) | (intro e; subst e) | intro _)
    refine frz b ?_
    exact rt1 (b, c) rfl⟩
end Go.Proofs.Ytbkpojlbclehaaa
