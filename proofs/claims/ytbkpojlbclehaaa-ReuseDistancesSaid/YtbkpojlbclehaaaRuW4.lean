/- reuse, walked: the least size. -/
import Derived.Test.YtbkpojlbclehaaaRuW3
namespace Go.Ru
/-- The first place of numbers that are not less. -/
structure At (zs : List Int) (t : Int) (n : Nat) : Prop where
  le : n ≤ zs.length
  lo : ∀ j, j < n → zs.getD j 0 < t
  hi : ∀ j, n ≤ j → j < zs.length → t ≤ zs.getD j 0
theorem At.less {zs : List Int} {t : Int} {n h : Nat} (x : At zs t n) (hh : h < zs.length) : zs.getD h 0 < t ↔ h < n := by
  constructor
  · intro h1
    refine Nat.lt_of_not_le fun h2 => ?_
    have := x.hi h h2 hh
    omega
  · exact x.lo h
end Go.Ru
namespace Go.Proofs.Ytbkpojlbclehaaa
open Go.Lk Go.Sl Go.Ru
attribute [local irreducible] TK TL TC Th Bk Nx fnPost WA TQ OpQ OpN SpecH Rd Ent IterH RoundH Rb Rp fnPostM
attribute [local irreducible] Ru.S Ru.D Ru.lb Ru.upd Ru.cnt Ru.cat Ru.dd Ru.stk Ru.rv Ru.hitsL
instance nan_spec : Known Try.prog 112 (∀ (z : Int), SpecH Try.prog 112 #[.int .i64 z] [] (fun _ : Unit => .bool false) (fun _ => [])) := ⟨fun z => by
  refine spec_of Try.func112 rfl Try.ntmps112 rfl [(0, _)] rfl ?_; intro base F l0 hl0; (try simp only [List.cons_append] at hl0); (try simp only [List.nil_append] at hl0); subst hl0
  repeat' (first | refine stw ?_ | refine And.intro ?_ ?_ | (intro e; exfalso; omega) | (intro e; subst e) | intro _)
  exact rt1 () rfl⟩
instance nan2_spec : Known Try.prog 105 (∀ (z : Int), SpecH Try.prog 105 #[.int .i64 z] [] (fun _ : Unit => .bool false) (fun _ => [])) := ⟨fun z => by
  refine spec_of Try.func105 rfl Try.ntmps105 rfl [(0, _)] rfl ?_; intro base F l0 hl0; (try simp only [List.cons_append] at hl0); (try simp only [List.nil_append] at hl0); subst hl0
  repeat' (first | refine stw ?_ | refine And.intro ?_ ?_ | (intro e; exfalso; omega) | (intro e; subst e) | intro _)
  exact rt1 () rfl⟩
instance less_spec : Known Try.prog 104 (∀ (x y : Int), SpecH Try.prog 104 #[.int .i64 x, .int .i64 y] [] (fun _ : Unit => .bool (decide (x < y))) (fun _ => [])) := ⟨fun x y => by
  refine spec_of Try.func104 rfl Try.ntmps104 rfl [(0, _), (1, _)] rfl ?_; intro base F l0 hl0; (try simp only [List.cons_append] at hl0); (try simp only [List.nil_append] at hl0); subst hl0
  by_cases h : x < y
  · rw [decide_eq_true h]
    repeat' (first | refine stw ?_ | refine And.intro ?_ ?_ | (intro e; exfalso; omega) | (intro e; subst e) | intro _)
    exact rt1 () rfl
  · rw [decide_eq_false h]
    repeat' (first | refine stw ?_ | refine And.intro ?_ ?_ | (intro e; exfalso; omega) | (intro e; subst e) | intro _)
    exact rt1 () rfl⟩
set_option maxHeartbeats 4000000 in
instance bs_spec : Known Try.prog 83 (∀ (a : Option Addr) (len cap : Nat) (zs : List Int) (t : Int) (n : Nat), At zs t n → len = zs.length → len ≤ 5000 → SpecH Try.prog 83 #[.slice a len cap, .int .i64 t] [RoS 1 a len cap (intsV .i64 zs)] (fun b : Bool => .tuple #[.int .i64 (n : Nat), .bool b]) (fun _ => [])) := ⟨fun a len cap zs t n hat hl hx => by
  subst hl
  refine spec_of Try.func83 rfl Try.ntmps83 rfl [(0, _), (1, _)] rfl ?_; intro base F l0 hl0; (try simp only [List.cons_append] at hl0); (try simp only [List.nil_append] at hl0); subst hl0
  have hle := hat.le
  repeat' (first | refine stw ?_ | refine And.intro ?_ ?_ | (intro e; exfalso; omega) | (intro e; subst e) | intro _)
  refine tc_lp (ι := {x : Nat × Nat // x.1 ≤ n ∧ n ≤ x.2 ∧ x.2 ≤ zs.length}) [7, 8] (fun e x => (7, .int .i64 (x.1.1 : Nat)) :: (8, .int .i64 (x.1.2 : Nat)) :: e) (fun _ => [RoS 1 a zs.length cap (intsV .i64 zs), F]) (fun x => x.1.2 - x.1.1) ⟨(0, zs.length), by omega, by omega, by omega⟩ ?_
  rintro K ⟨⟨i, j⟩, h1, h2, h3⟩ hK
  dsimp only at h1 h2 h3 ⊢
  by_cases hc : i < j
  · haveI : BV ((i : Int) + (j : Int)) (BitVec.ofNat 64 (i + j)) := ⟨by rw [BitVec.toNat_ofNat, Nat.mod_eq_of_lt (by omega)]; rfl⟩
    have hsh : (BitVec.ofNat 64 (i + j) >>> 1).toNat = (i + j) / 2 := by
      rw [BitVec.toNat_ushiftRight, BitVec.toNat_ofNat, Nat.mod_eq_of_lt (by omega), Nat.shiftRight_eq_div_pow]
    have hls := hat.less (h := (BitVec.ofNat 64 (i + j) >>> 1).toNat) (by omega)
    by_cases hn : (BitVec.ofNat 64 (i + j) >>> 1).toNat < n
    · have hlt := hls.2 hn
      repeat' (first | refine stw ?_ | refine And.intro ?_ ?_ | (intro e; exfalso; omega) | (intro e; subst e) | intro _)
      exact again hK ⟨((BitVec.ofNat 64 (i + j) >>> 1).toNat + 1, j), by dsimp only; omega, by dsimp only; omega, by dsimp only; omega⟩ (by dsimp only; omega)
    · have hlt : ¬ zs.getD (BitVec.ofNat 64 (i + j) >>> 1).toNat 0 < t := fun h => hn (hls.1 h)
      repeat' (first | refine stw ?_ | refine And.intro ?_ ?_ | (intro e; exfalso; omega) | (intro e; subst e) | intro _)
      exact again hK ⟨(i, (BitVec.ofNat 64 (i + j) >>> 1).toNat), by dsimp only; omega, by dsimp only; omega, by dsimp only; omega⟩ (by dsimp only; omega)
  · obtain rfl : i = n := by omega
    by_cases hb : i < zs.length ∧ zs.getD i 0 = t
    · obtain ⟨hb1, hb2⟩ := hb
      repeat' (first | refine stw ?_ | refine And.intro ?_ ?_ | (intro e; exfalso; omega) | (intro e; subst e) | intro _)
      exact rt2 true rfl
    · by_cases hb1 : i < zs.length
      · have hb2 : ¬ zs.getD i 0 = t := fun h => hb ⟨hb1, h⟩
        repeat' (first | refine stw ?_ | refine And.intro ?_ ?_ | (intro e; exfalso; omega) | (intro e; subst e) | intro _)
        exact rt2 false rfl
      · repeat' (first | refine stw ?_ | refine And.intro ?_ ?_ | (intro e; exfalso; omega) | (intro e; subst e) | intro _)
        exact rt2 false rfl⟩
theorem ru_least_long (a : Option Addr) (n cap : Nat) (t : Int) (h : 4096 < n) (h2 : n ≤ 5000) : SpecH Try.prog 46 #[.slice a n cap, .int .i64 t] [] (fun _ : Unit => .tuple #[.int .i64 0, .int .i64 5]) (fun _ => []) := by
  haveI : Known Try.prog 44 (SpecH Try.prog 44 #[.slice a n cap] [] (fun _ : Unit => .tuple #[.slice none 0 0, .int .i64 5]) (fun _ => [])) := ⟨ru_hits_bad a n cap h h2⟩
  refine spec_of Try.func46 rfl Try.ntmps46 rfl [(0, _), (1, _)] rfl ?_; intro base F l0 hl0; (try simp only [List.cons_append] at hl0); (try simp only [List.nil_append] at hl0); subst hl0
  repeat' (first | refine stw ?_ | refine And.intro ?_ ?_ | (intro e; exfalso; omega) | (intro e; subst e) | intro _)
  exact rt2 () rfl
theorem ru_least_neg (a : Option Addr) (n cap : Nat) (tr : List Nat) (t : Int) (hn : n = tr.length) (hx : n ≤ 4096) (hlt : ∀ k ∈ tr, k < 4294967296) (ht : t < 0) : SpecH Try.prog 46 #[.slice a n cap, .int .i64 t] [RoS 1 a n cap (u32s tr)] (fun _ : Unit => .tuple #[.int .i64 0, .int .i64 2]) (fun _ => []) := by
  subst hn
  refine spec_of Try.func46 rfl Try.ntmps46 rfl [(0, _), (1, _)] rfl ?_; intro base F l0 hl0; (try simp only [List.cons_append] at hl0); (try simp only [List.nil_append] at hl0); subst hl0
  repeat' (first | refine stw ?_ | refine And.intro ?_ ?_ | (intro e; exfalso; omega) | (intro e; subst e) | intro _)
  exact rt2 () rfl
theorem ru_least (a : Option Addr) (n cap : Nat) (tr : List Nat) (t : Int) (m : Nat) (hn : n = tr.length) (hx : n ≤ 4096) (hlt : ∀ k ∈ tr, k < 4294967296) (ht : 0 ≤ t) (hat : At (hitsL tr (stk tr tr.length).length) t m) : SpecH Try.prog 46 #[.slice a n cap, .int .i64 t] [RoS 1 a n cap (u32s tr)] (fun _ : Unit => .tuple #[.int .i64 (if m = (stk tr tr.length).length + 1 then 0 else m : Nat), .int .i64 (if m = (stk tr tr.length).length + 1 then 9 else 0)]) (fun _ => []) := by
  subst hn
  have hKl := stk_len_le (tr := tr) (i := tr.length)
  have hhl := hitsL_len (tr := tr) (K := (stk tr tr.length).length)
  by_cases hm : m = (stk tr tr.length).length + 1
  · rw [if_pos hm, if_pos hm]
    refine spec_of Try.func46 rfl Try.ntmps46 rfl [(0, _), (1, _)] rfl ?_; intro base F l0 hl0; (try simp only [List.cons_append] at hl0); (try simp only [List.nil_append] at hl0); subst hl0
    repeat' (first | refine stw ?_ | refine And.intro ?_ ?_ | (intro e; exfalso; omega) | (intro e; subst e) | intro _)
    exact rt2 () rfl
  · rw [if_neg hm, if_neg hm]
    refine spec_of Try.func46 rfl Try.ntmps46 rfl [(0, _), (1, _)] rfl ?_; intro base F l0 hl0; (try simp only [List.cons_append] at hl0); (try simp only [List.nil_append] at hl0); subst hl0
    repeat' (first | refine stw ?_ | refine And.intro ?_ ?_ | (intro e; exfalso; omega) | (intro e; subst e) | intro _)
    exact rt2 () rfl
end Go.Proofs.Ytbkpojlbclehaaa
