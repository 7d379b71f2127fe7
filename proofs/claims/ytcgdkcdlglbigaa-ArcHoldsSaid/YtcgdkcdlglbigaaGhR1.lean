/- The reference of ghost, walked. -/
import Derived.Test.YtcgdkcdlglbigaaGhW3
import Derived.Test.YtcgdkcdlglbigaaSlD
import Derived.Test.YtcgdkcdlglbigaaSlEnd2
namespace Go.Proofs.Ytcgdkcdlglbigaa
open Go.Lk Go.Sl Go.Gh
attribute [local irreducible] TK TL TC Th Bk Nx fnPost WA TQ OpQ OpN SpecH Rd Ent IterH RoundH Rb Rp fnPostM
theorem mem_iff_getD {L : List Nat} {k : Nat} : k ∈ L ↔ ∃ j, j < L.length ∧ L.getD j 0 = k := by
  constructor
  · intro h
    obtain ⟨j, hj, e⟩ := List.getElem_of_mem h
    exact ⟨j, hj, by rw [List.getD_eq_getElem?_getD, List.getElem?_eq_getElem hj]; exact e⟩
  · rintro ⟨j, hj, e⟩
    rw [List.getD_eq_getElem?_getD, List.getElem?_eq_getElem hj] at e
    exact e ▸ List.getElem_mem hj
instance rg_has : Known Try.prog 96 (∀ (M : Int) (a : Option Addr) (m c : Nat) (L : List Nat) (xk : Int) (k : Nat) [NatI xk k], m = L.length → m ≤ 4194304 → SpecH Try.prog 96 #[.agg #[.int .i64 M, .slice a m c], .int .u32 xk] [RoS 1 a m c (u32s L)] (fun _ : Unit => .bool (decide (k ∈ L))) (fun _ => [])) := ⟨fun M a m c L xk k _ hm hx => by
  obtain rfl : xk = (k : Int) := NatI.out
  subst hm
  refine spec_of Try.func96 rfl Try.ntmps96 rfl [(0, _), (1, _)] rfl ?_; intro base F l0 hl0; (try simp only [List.cons_append] at hl0); (try simp only [List.nil_append] at hl0); subst hl0
  repeat' (first | refine stm ?_ | refine And.intro ?_ ?_ | (intro e; exfalso; omega) | (intro e; subst e) | intro _)
  refine tc_lp (ι := {i : Nat // i ≤ L.length ∧ ∀ j, j < i → L.getD j 0 ≠ k}) [5] (fun e i => (5, .int .i64 i.1) :: e) (fun _ => _) (fun i => L.length - i.1) ⟨0, by omega, by omega⟩ ?_ (hl := Ent.refl _)
  rintro K ⟨i, hi, he⟩ hK
  dsimp only
  repeat' (first | refine stm ?_ | refine And.intro ?_ ?_ | (intro e; exfalso; omega) | (intro e; subst e) | intro _)
  · refine rt1 () ?_
    congr 1; symm; rw [decide_eq_true_iff]; exact mem_iff_getD.2 ⟨i, by omega, by omega⟩
  · refine again hK ⟨i + 1, by omega, fun j hj => ?_⟩
    rcases Nat.lt_or_ge j i with x | x
    · exact he j x
    · obtain rfl : j = i := by omega
      omega
  · refine rt1 () ?_
    congr 1; symm; rw [decide_eq_false_iff_not]; intro h
    obtain ⟨j, hj, e⟩ := mem_iff_getD.1 h
    exact he j (by omega) e⟩
/-- A list without a key. -/
abbrev wo (L : List Nat) (k : Nat) : List Nat := L.filter fun x => x != k
theorem wo_take {L : List Nat} {k i : Nat} (hi : i < L.length) : (L.getD i 0 = k → wo (L.take (i + 1)) k = wo (L.take i) k) ∧ (L.getD i 0 ≠ k → wo (L.take (i + 1)) k = wo (L.take i) k ++ [L.getD i 0]) := by
  have e : L.take (i + 1) = L.take i ++ [L.getD i 0] := by
    rw [List.getD_eq_getElem?_getD, List.getElem?_eq_getElem hi, ← List.take_append_getElem hi]; rfl
  unfold wo
  rw [e, List.filter_append]
  constructor
  · intro h; rw [h]; simp
  · intro h; rw [List.filter_cons_of_pos (by simpa only [bne_iff_ne, ne_eq] using h)]; rfl
/-- A slice in the making. -/
abbrev Mk := Option Addr × Nat × Nat × List Value
set_option maxHeartbeats 4000000 in
instance rg_without : Known Try.prog 99 (∀ (a : Option Addr) (m c : Nat) (L : List Nat) (xk : Int) (k : Nat) [NatI xk k], m = L.length → m ≤ 4194304 → SpecH Try.prog 99 #[.slice a m c, .int .u32 xk] [RoS 1 a m c (u32s L)] (fun q : Option Addr × Nat => .slice q.1 (wo L k).length q.2) (fun q => [RoS 1 q.1 (wo L k).length q.2 (u32s (wo L k))])) := ⟨fun a m c L xk k _ hm hx => by
  obtain rfl : xk = (k : Int) := NatI.out
  subst hm
  refine spec_of Try.func99 rfl Try.ntmps99 rfl [(0, _), (1, _)] rfl ?_; intro base F l0 hl0; (try simp only [List.cons_append] at hl0); (try simp only [List.nil_append] at hl0); subst hl0
  repeat' (first | refine stm ?_ | refine And.intro ?_ ?_ | (intro e; exfalso; omega) | (intro e; subst e) | intro _)
  refine tc_lp (ι := {q : Nat × Mk // q.1 ≤ L.length ∧ q.2.2.1 = (wo (L.take q.1) k).length ∧ q.2.2.2.2 = u32s (wo (L.take q.1) k)}) [5, 6] (fun e q => (5, .slice q.1.2.1 q.1.2.2.1 q.1.2.2.2.1) :: (6, .int .i64 q.1.1) :: e) (fun q => [Vec 31 1 q.1.2.1 q.1.2.2.1 q.1.2.2.2.1 q.1.2.2.2.2, RoS 1 a L.length c (u32s L), F]) (fun q => L.length - q.1.1) ⟨(0, none, 0, 0, []), by omega, rfl, rfl⟩ ?_
  rintro K ⟨⟨i, a1, m1, c1, cs1⟩, hi, hm1, hc1⟩ hK
  dsimp only at hi hm1 hc1 ⊢
  have hl1 : (wo (L.take i) k).length ≤ i := Nat.le_trans (List.length_filter_le _ _) (by simp; omega)
  by_cases hlt : i < L.length
  · obtain ⟨w1, w2⟩ := wo_take (k := k) hlt
    repeat' (first | refine stm ?_ | refine And.intro ?_ ?_ | (intro e; exfalso; omega) | (intro e; subst e) | intro _)
    · rename_i h5 _ a5 c5
      have e := w2 (by omega)
      exact again hK ⟨(i + 1, a5, m1 + 1, c5, cs1 ++ [.int .u32 (L.getD i 0 : Nat)]), by dsimp only; omega, by dsimp only; rw [e, hm1]; simp, by dsimp only; rw [e, hc1]; simp [u32s]⟩
    · have e := w1 (by omega)
      exact again hK ⟨(i + 1, a1, m1, c1, cs1), by dsimp only; omega, by dsimp only; rw [e, hm1], by dsimp only; rw [e, hc1]⟩
  · obtain rfl : i = L.length := by omega
    rw [List.take_length] at hm1 hc1
    subst hm1; subst hc1
    repeat' (first | refine stm ?_ | refine And.intro ?_ ?_ | (intro e; exfalso; omega) | (intro e; subst e) | intro _)
    refine frz a1 ?_
    exact rt1 (a1, c1) rfl⟩
theorem rows_nil : u32s [] = [] := rfl
set_option maxHeartbeats 4000000 in
instance rg_add : Known Try.prog 122 (∀ (M : Nat) (a : Option Addr) (m c : Nat) (L : List Nat) (xk : Int) (k : Nat) [NatI xk k], m = L.length → L.Nodup → L.length ≤ M → M ≤ 4096 → SpecH Try.prog 122 #[.agg #[.int .i64 M, .slice a m c], .int .u32 xk] [RoS 1 a m c (u32s L)] (fun q : Option Addr × Nat => .tuple #[.agg #[.int .i64 M, .slice q.1 (addL M L k).length q.2], .int .u32 (addV M L k : Nat), .bool (addB M L k)]) (fun q => [RoS 1 q.1 (addL M L k).length q.2 (u32s (addL M L k))])) := ⟨fun M a m c L xk k _ hm hnd hL hM => by
  obtain rfl : xk = (k : Int) := NatI.out
  subst hm
  refine spec_of Try.func122 rfl Try.ntmps122 rfl [(0, _), (1, _)] rfl ?_; intro base F l0 hl0; (try simp only [List.cons_append] at hl0); (try simp only [List.nil_append] at hl0); subst hl0
  have hw : wo L k = L.erase k := filter_ne_erase hnd
  have hwl : (wo L k).length ≤ L.length := List.length_filter_le _ _
  have e0 : 1 + (wo L k).length = (k :: wo L k).length := by simp; omega
  have e1 : (Value.int .u32 (k : Nat) :: u32s (wo L k)) = u32s (k :: wo L k) := rfl
  have hc : (addL M L k = if (wo L k).length + 1 ≤ M then k :: wo L k else (k :: wo L k).dropLast) ∧ (addV M L k = if (wo L k).length + 1 ≤ M then 0 else (k :: wo L k).getLastD 0) ∧ (addB M L k = decide (M < (wo L k).length + 1)) := by
    unfold addL addV addB
    rw [hw]
    by_cases hk : k ∈ L
    · have := List.length_pos_of_mem hk
      have := List.length_erase_of_mem hk
      rw [if_pos hk, if_pos hk, if_pos (by omega), if_pos (by omega)]
      refine ⟨rfl, rfl, ?_⟩
      rw [decide_eq_false (fun h => h.1 hk), decide_eq_false (by omega)]
    · rw [List.erase_of_not_mem hk, if_neg hk, if_neg hk]
      refine ⟨rfl, rfl, ?_⟩
      simp [hk]
  obtain ⟨c1, c2, c3⟩ := hc
  repeat' (first | refine stm ?_ | refine And.intro ?_ ?_ | (intro e; exfalso; omega) | (intro e; subst e) | intro _)
  · rename_i x2 x1 x0 a2 b2 a1 b1 hle
    rw [if_pos (by omega)] at c1 c2
    rw [decide_eq_false (by omega)] at c3
    rw [c1, c2, c3, e0, e1]
    refine frz a1 ?_
    exact ra3 (a1, b1) rfl
  · rename_i x2 x1 x0 a2 b2 a1 b1 hle
    rw [if_neg (by omega)] at c1 c2
    rw [decide_eq_true (by omega)] at c3
    rw [c1, c2, c3]
    rw [e0, e1]
    have e3 : k :: wo L k ≠ [] := by simp
    have e2 : (k :: wo L k).getLastD 0 = (k :: wo L k).getD ((k :: wo L k).length - 1) 0 := by
      rw [List.getLastD_eq_getLast?, List.getLast?_eq_getElem?, List.getD_eq_getElem?_getD]
    have e4 : u32s (k :: wo L k).dropLast = (u32s (k :: wo L k)).take (((k :: wo L k).length - 1) * 1) := by
      rw [List.dropLast_eq_take, u32s, List.map_take, Nat.mul_one]; rfl
    have e5 : (k :: wo L k).dropLast.length = (k :: wo L k).length - 1 := List.length_dropLast
    rw [e2, e4, e5]
    have e6 : (k :: wo L k).length = (wo L k).length + 1 := rfl
    generalize hX : k :: wo L k = X at *
    repeat' (first | refine stm ?_ | refine And.intro ?_ ?_ | (intro e; exfalso; omega) | (intro e; subst e) | intro _)
    refine TL.freeze (a := a1) (by (repeat (first | (with_reducible exact Rem.here _ _) | (with_reducible apply Rem.there) | fail)); done) ?_
    repeat' (first | refine stm ?_ | refine And.intro ?_ ?_ | (intro e; exfalso; omega) | (intro e; subst e) | intro _)
    rename_i a3 b3 a4 b4
    refine frz a4 ?_
    exact ra3 (a4, b4) rfl⟩
set_option maxHeartbeats 4000000 in
instance rg_remove : Known Try.prog 97 (∀ (M : Nat) (a : Option Addr) (m c : Nat) (L : List Nat) (xk : Int) (k : Nat) [NatI xk k], m = L.length → L.Nodup → L.length ≤ 4194304 → SpecH Try.prog 97 #[.agg #[.int .i64 M, .slice a m c], .int .u32 xk] [RoS 1 a m c (u32s L)] (fun q : Option Addr × Nat => .tuple #[.agg #[.int .i64 M, .slice q.1 (L.erase k).length q.2], .bool (decide (k ∈ L))]) (fun q => [RoS 1 q.1 (L.erase k).length q.2 (u32s (L.erase k))])) := ⟨fun M a m c L xk k _ hm hnd hL => by
  obtain rfl : xk = (k : Int) := NatI.out
  subst hm
  refine spec_of Try.func97 rfl Try.ntmps97 rfl [(0, _), (1, _)] rfl ?_; intro base F l0 hl0; (try simp only [List.cons_append] at hl0); (try simp only [List.nil_append] at hl0); subst hl0
  have hw : wo L k = L.erase k := filter_ne_erase hnd
  repeat' (first | refine stm ?_ | refine And.intro ?_ ?_ | (intro e; exfalso; omega) | (intro e; subst e) | intro _)
  rename_i x1 x0 a1 b1
  rw [← hw]
  exact ra2 (a1, b1) rfl⟩
/-- A list cut down, key by key: what is left, what has left. -/
theorem cut_step {L : List Nat} {n m : Nat} (h : m < n) (hn : n ≤ L.length) : (L.take n).dropLast = L.take (n - 1) ∧ (L.take n).getLastD 0 = L.getD (n - 1) 0 ∧ (L.drop (n - 1)).reverse = (L.drop n).reverse ++ [L.getD (n - 1) 0] ∧ L.take n ≠ [] ∧ (L.take n).length = n := by
  have hl : (L.take n).length = n := by rw [List.length_take]; omega
  refine ⟨?_, ?_, ?_, ?_, hl⟩
  · rw [List.dropLast_eq_take, hl, List.take_take, Nat.min_eq_left (by omega)]
  · rw [List.getLastD_eq_getLast?, List.getLast?_eq_getElem?, hl, List.getElem?_take, if_pos (by omega), List.getD_eq_getElem?_getD]
  · rw [List.drop_eq_getElem_cons (by omega : n - 1 < L.length), List.reverse_cons, show n - 1 + 1 = n by omega, List.getD_eq_getElem?_getD, List.getElem?_eq_getElem (by omega : n - 1 < L.length)]; rfl
  · intro e; rw [e] at hl; simp at hl; omega
theorem u32s_snoc {A : List Nat} {x : Nat} : u32s (A ++ [x]) = u32s A ++ [.int .u32 (x : Nat)] := by simp [u32s]
set_option maxHeartbeats 4000000 in
instance rg_same : Known Try.prog 19 (∀ (a a2 : Option Addr) (m m2 c c2 : Nat) (cs cs2 : List Value) (xs ys : List Nat), AsU cs xs → AsU cs2 ys → m = xs.length → m2 = ys.length → m ≤ 4194304 → m2 ≤ 4194304 → SpecH Try.prog 19 #[.slice a m c, .slice a2 m2 c2] [RoS 1 a m c cs, RoS 1 a2 m2 c2 cs2] (fun _ : Unit => .bool (decide (xs = ys))) (fun _ => [])) := ⟨fun a a2 m m2 c c2 cs cs2 xs ys hcs hcs2 hm hm2 hx hy => by
  subst hm; subst hm2
  rw [hcs.out, hcs2.out]
  refine spec_of Try.func19 rfl Try.ntmps19 rfl [(0, _), (1, _)] rfl ?_; intro base F l0 hl0; (try simp only [List.cons_append] at hl0); (try simp only [List.nil_append] at hl0); subst hl0
  repeat' (first | refine stm ?_ | refine And.intro ?_ ?_ | (intro e; subst e) | intro _)
  · refine rt1 () ?_
    congr 1; symm; rw [decide_eq_false_iff_not]; rintro rfl; omega
  · have hlen : xs.length = ys.length := by omega
    refine tc_lp (ι := {i : Nat // i ≤ xs.length ∧ ∀ j, j < i → xs.getD j 0 = ys.getD j 0}) [5] (fun e i => (5, .int .i64 i.1) :: e) (fun _ => _) (fun i => xs.length - i.1) ⟨0, by omega, by omega⟩ ?_ (hl := Ent.refl _)
    rintro K ⟨i, hi, he⟩ hK
    dsimp only
    repeat' (first | refine stm ?_ | refine And.intro ?_ ?_ | (intro e; subst e) | intro _)
    · refine rt1 () ?_
      congr 1; symm; rw [decide_eq_false_iff_not]; rintro rfl; omega
    · refine again hK ⟨i + 1, by omega, fun j hj => ?_⟩
      rcases Nat.lt_or_ge j i with x | x
      · exact he j x
      · obtain rfl : j = i := by omega
        omega
    · refine rt1 () ?_
      congr 1; symm; rw [decide_eq_true_iff]
      refine List.ext_getElem hlen fun j h1 h2 => ?_
      have := he j (by omega)
      rw [List.getD_eq_getElem?_getD, List.getD_eq_getElem?_getD, List.getElem?_eq_getElem h1, List.getElem?_eq_getElem h2] at this
      exact this⟩
end Go.Proofs.Ytcgdkcdlglbigaa
