/- TyH: TyR5, TyR6. -/
import Derived.Test.YtdpiglociolagaaGreatTyF
/- The reference of bloom, walked. -/
namespace Go.Ty
structure Bits (n : Nat) : Prop where
  pw : ∃ e, 6 ≤ e ∧ e ≤ 20 ∧ n = 2 ^ e
theorem Bits.b {n : Nat} (h : Bits n) : 64 ≤ n ∧ n ≤ 1048576 := by
  obtain ⟨e, h1, h2, rfl⟩ := h.pw
  exact ⟨pow_le_of (j := 6) h1, pow_le_of (b := 20) h2⟩
theorem plB_defI {h : BitVec 64} {n i : Nat} {x y z : Int} (hn : 64 ≤ n ∧ n ≤ 1048576) (hi : i ≤ 2) (hz : z = (i : Int)) (hx : x = (((bA h).toNat : Nat) : Int)) (hy : y = (((bS h).toNat : Nat) : Int)) : IntKind.i64.wrap ((x + z * y) % (n : Int)) = ((plB h n i : Nat) : Int) := by
  subst hx; subst hy; subst hz
  have e : (((bA h).toNat : Int) + (i : Int) * ((bS h).toNat : Int)) % (n : Int) = ((plB h n i : Nat) : Int) := by
    have h1 : (bA h).toNat < 4294967296 := by rw [bA_mod]; exact Nat.mod_lt _ (by decide)
    have h2 : (bS h).toNat ≤ 4294967296 := by
      rw [bS_div]
      have := h.isLt
      have : h.toNat / 4294967296 < 4294967296 := by omega
      split <;> omega
    unfold plB
    rw [BitVec.toNat_add, BitVec.toNat_mul, BitVec.toNat_ofNat]
    have e1 : i % 2 ^ 64 = i := Nat.mod_eq_of_lt (by omega)
    have h3 : i * (bS h).toNat ≤ 2 * 4294967296 := Nat.mul_le_mul hi h2
    rw [e1, Nat.mod_eq_of_lt (a := i * (bS h).toNat) (by omega), Nat.mod_eq_of_lt (a := (bA h).toNat + i * (bS h).toNat) (by omega), Int.natCast_emod, Int.natCast_add, Int.natCast_mul]
  rw [e]
  have := plB_lt (h := h) (n := n) (i := i) (by omega)
  rw [IntKind.wrap_i64]; omega
end Go.Ty
namespace Go.Proofs.YtdpiglociolagaaGreat
open Go.Lk Go.Sl Go.Ty
attribute [local irreducible] TK TL TC Th Bk Nx fnPost WA TQ OpQ OpN SpecH Rd Ent IterH RoundH Rb Rp fnPostM
attribute [local irreducible] Ty.shS Ty.sumB Ty.plS Ty.at64 Ty.cAdd Ty.plB Ty.bA Ty.bS
set_option maxHeartbeats 8000000 in
instance tyr_bplaces : Known Tryz.prog 128 (∀ (a : Option Addr) (n c k : Nat) (seed : BitVec 64), Bits n → SpecH Tryz.prog 128 #[.agg #[.int .i64 3, .int .u64 (seed.toNat : Nat), .slice a n c], .string (txt k)] [] (fun q : Option Addr × Nat => .slice q.1 3 q.2) (fun q => [RoS 1 q.1 3 q.2 (i64n [plB (sumB seed (txt k)) n 0, plB (sumB seed (txt k)) n 1, plB (sumB seed (txt k)) n 2])])) := ⟨fun a n c k seed hn => by
  have hts := txt_size (k := k)
  have hb := hn.b
  refine spec_of Tryz.func128 rfl Tryz.ntmps128 rfl [(0, _), (1, _)] rfl ?_; intro base F l0 hl0; (try simp only [List.cons_append] at hl0); (try simp only [List.nil_append] at hl0); subst hl0
  have eA : (((sumB seed (txt k)).toNat : Nat) : Int) % 4294967296 = (((bA (sumB seed (txt k))).toNat : Nat) : Int) := by rw [bA_mod]; omega
  have eS := bS_div (h := (sumB seed (txt k)))
  have hlt := (sumB seed (txt k)).isLt
  have ePL : [Value.int .i64 (plB (sumB seed (txt k)) n 0 : Nat), Value.int .i64 (plB (sumB seed (txt k)) n 1 : Nat), Value.int .i64 (plB (sumB seed (txt k)) n 2 : Nat)] = (i64n [plB (sumB seed (txt k)) n 0, plB (sumB seed (txt k)) n 1, plB (sumB seed (txt k)) n 2]) := rfl
  by_cases hq : (sumB seed (txt k)).toNat / 4294967296 % 2 = 0
  · rw [if_pos hq] at eS
    have eB : (((sumB seed (txt k)).toNat : Nat) : Int) / 4294967296 + 1 = (((bS (sumB seed (txt k))).toNat : Nat) : Int) := by rw [eS]; omega
    have hp0 := plB_defI (z := 0) (i := 0) hb (by omega) rfl eA eB
    have hp1 := plB_defI (z := 1) (i := 1) hb (by omega) rfl eA eB
    have hp2 := plB_defI (z := 2) (i := 2) hb (by omega) rfl eA eB
    repeat' (first | refine sts ?_ | refine And.intro ?_ ?_ | (intro e; exfalso; omega) | (intro e; subst e) | intro _)
    refine tc_un 3 (un fun K0 hK0 => ?_)
    repeat' (first | refine sts ?_ | refine And.intro ?_ ?_ | (intro e; exfalso; omega) | (intro e; subst e) | intro _)
    refine hK0 _ _ (un fun K1 hK1 => ?_); (simp only [Int.reduceAdd, Nat.reduceAdd]); (try simp only [hp0]); (try simp only [hp1]); (try simp only [hp2])
    repeat' (first | refine sts ?_ | refine And.intro ?_ ?_ | (intro e; exfalso; omega) | (intro e; subst e) | intro _)
    refine hK1 _ _ (un fun K2 hK2 => ?_); (simp only [Int.reduceAdd, Nat.reduceAdd]); (try simp only [hp0]); (try simp only [hp1]); (try simp only [hp2])
    repeat' (first | refine sts ?_ | refine And.intro ?_ ?_ | (intro e; exfalso; omega) | (intro e; subst e) | intro _)
    refine hK2 _ _ (un0 fun K => ?_); (simp only [Int.reduceAdd, Nat.reduceAdd]); (try simp only [hp0]); (try simp only [hp1]); (try simp only [hp2])
    repeat' (first | refine sts ?_ | refine And.intro ?_ ?_ | (intro e; exfalso; omega) | (intro e; subst e) | intro _)
    rename_i x y
    rw [ePL]
    refine frz x ?_
    exact rt1 (x, y) rfl
  · rw [if_neg hq] at eS
    have eB : (((sumB seed (txt k)).toNat : Nat) : Int) / 4294967296 = (((bS (sumB seed (txt k))).toNat : Nat) : Int) := by rw [eS]; omega
    have hp0 := plB_defI (z := 0) (i := 0) hb (by omega) rfl eA eB
    have hp1 := plB_defI (z := 1) (i := 1) hb (by omega) rfl eA eB
    have hp2 := plB_defI (z := 2) (i := 2) hb (by omega) rfl eA eB
    repeat' (first | refine sts ?_ | refine And.intro ?_ ?_ | (intro e; exfalso; omega) | (intro e; subst e) | intro _)
    refine tc_un 3 (un fun K0 hK0 => ?_)
    repeat' (first | refine sts ?_ | refine And.intro ?_ ?_ | (intro e; exfalso; omega) | (intro e; subst e) | intro _)
    refine hK0 _ _ (un fun K1 hK1 => ?_); (simp only [Int.reduceAdd, Nat.reduceAdd]); (try simp only [hp0]); (try simp only [hp1]); (try simp only [hp2])
    repeat' (first | refine sts ?_ | refine And.intro ?_ ?_ | (intro e; exfalso; omega) | (intro e; subst e) | intro _)
    refine hK1 _ _ (un fun K2 hK2 => ?_); (simp only [Int.reduceAdd, Nat.reduceAdd]); (try simp only [hp0]); (try simp only [hp1]); (try simp only [hp2])
    repeat' (first | refine sts ?_ | refine And.intro ?_ ?_ | (intro e; exfalso; omega) | (intro e; subst e) | intro _)
    refine hK2 _ _ (un0 fun K => ?_); (simp only [Int.reduceAdd, Nat.reduceAdd]); (try simp only [hp0]); (try simp only [hp1]); (try simp only [hp2])
    repeat' (first | refine sts ?_ | refine And.intro ?_ ?_ | (intro e; exfalso; omega) | (intro e; subst e) | intro _)
    rename_i x y
    rw [ePL]
    refine frz x ?_
    exact rt1 (x, y) rfl⟩
end Go.Proofs.YtdpiglociolagaaGreat

/- The reference of bloom, walked: bits asked for, set; a new one. -/
namespace Go.Ty
theorem has_no {B : List Bool} {h : BitVec 64} {i : Nat} (hi : i < 3) (e : B.getD (plB h B.length i) false = false) : hasB B h = false := by
  unfold hasB
  rcases i with _ | _ | _ | i
  · simp only [hasN, e, Bool.and_false, Bool.false_and]
  · simp only [hasN, e, Bool.and_false, Bool.false_and]
  · simp only [hasN, e, Bool.and_false]
  · omega
theorem has_yes {B : List Bool} {h : BitVec 64} (e0 : B.getD (plB h B.length 0) false = true) (e1 : B.getD (plB h B.length 1) false = true) (e2 : B.getD (plB h B.length 2) false = true) : hasB B h = true := by
  unfold hasB
  simp only [hasN, e0, e1, e2, Bool.and_self]
theorem get3_0 {a b c : Nat} : ([a, b, c] : List Nat).getD 0 0 = a := rfl
theorem get3_1 {a b c : Nat} : ([a, b, c] : List Nat).getD 1 0 = b := rfl
theorem get3_2 {a b c : Nat} : ([a, b, c] : List Nat).getD 2 0 = c := rfl
theorem add_set {B : List Bool} {h : BitVec 64} : addB B h = ((B.set (plB h B.length 0) true).set (plB h B.length 1) true).set (plB h B.length 2) true := rfl
theorem addB_len {B : List Bool} {h : BitVec 64} : (addB B h).length = B.length := setN_len 3
end Go.Ty
namespace Go.Proofs.YtdpiglociolagaaGreat
open Go.Lk Go.Sl Go.Ty
attribute [local irreducible] TK TL TC Th Bk Nx fnPost WA TQ OpQ OpN SpecH Rd Ent IterH RoundH Rb Rp fnPostM
attribute [local irreducible] Ty.shS Ty.sumB Ty.plS Ty.at64 Ty.cAdd Ty.plB Ty.bA Ty.bS Ty.hasB Ty.addB
set_option maxHeartbeats 8000000 in
instance tyr_bhas : Known Tryz.prog 92 (∀ (a : Option Addr) (n c k : Nat) (seed : BitVec 64) (B : List Bool), Bits n → B.length = n → SpecH Tryz.prog 92 #[.agg #[.int .i64 3, .int .u64 (seed.toNat : Nat), .slice a n c], .string (txt k)] [RoS 1 a n c (bls B)] (fun _ : Unit => .bool (hasB B (sumB seed (txt k)))) (fun _ => [])) := ⟨fun a n c k seed B hn hB => by
  have hb := hn.b
  subst hB
  refine spec_of Tryz.func92 rfl Tryz.ntmps92 rfl [(0, _), (1, _)] rfl ?_; intro base F l0 hl0; (try simp only [List.cons_append] at hl0); (try simp only [List.nil_append] at hl0); subst hl0
  have q0 : ([plB (sumB seed (txt k)) B.length 0, plB (sumB seed (txt k)) B.length 1, plB (sumB seed (txt k)) B.length 2] : List Nat).getD 0 0 < B.length := by rw [get3_0]; exact plB_lt (by omega)
  have q1 : ([plB (sumB seed (txt k)) B.length 0, plB (sumB seed (txt k)) B.length 1, plB (sumB seed (txt k)) B.length 2] : List Nat).getD 1 0 < B.length := by rw [get3_1]; exact plB_lt (by omega)
  have q2 : ([plB (sumB seed (txt k)) B.length 0, plB (sumB seed (txt k)) B.length 1, plB (sumB seed (txt k)) B.length 2] : List Nat).getD 2 0 < B.length := by rw [get3_2]; exact plB_lt (by omega)
  have hl : ([plB (sumB seed (txt k)) B.length 0, plB (sumB seed (txt k)) B.length 1, plB (sumB seed (txt k)) B.length 2] : List Nat).length = 3 := rfl
  repeat' (first | refine sts ?_ | refine And.intro ?_ ?_ | (intro e; exfalso; omega) | (intro e; subst e) | intro _)
  refine tc_un 3 (un fun K0 hK0 => ?_)
  repeat' (first | ((fail_if_success (refine atD ?_)); refine sts ?_) | refine And.intro ?_ ?_ | (intro e; exfalso; omega) | (intro e; subst e) | intro _)
  refine tail 8 ?_
  repeat' (first | refine sts ?_ | refine And.intro ?_ ?_ | (intro e; exfalso; omega) | (intro e; subst e) | intro _)
  · rename_i hq
    rw [get3_0] at hq
    rw [has_no (i := 0) (by omega) (by simpa using hq)]
    exact rt1 () rfl
  rename_i hq
  rw [get3_0] at hq
  have e0 : B.getD (plB (sumB seed (txt k)) B.length 0) false = true := by simpa using hq
  clear hq
  refine hK0 _ _ (un fun K1 hK1 => ?_); (simp only [Int.reduceAdd, Nat.reduceAdd])
  repeat' (first | ((fail_if_success (refine atD ?_)); refine sts ?_) | refine And.intro ?_ ?_ | (intro e; exfalso; omega) | (intro e; subst e) | intro _)
  refine tail 8 ?_
  repeat' (first | refine sts ?_ | refine And.intro ?_ ?_ | (intro e; exfalso; omega) | (intro e; subst e) | intro _)
  · rename_i hq
    rw [get3_1] at hq
    rw [has_no (i := 1) (by omega) (by simpa using hq)]
    exact rt1 () rfl
  rename_i hq
  rw [get3_1] at hq
  have e1 : B.getD (plB (sumB seed (txt k)) B.length 1) false = true := by simpa using hq
  clear hq
  refine hK1 _ _ (un fun K2 hK2 => ?_); (simp only [Int.reduceAdd, Nat.reduceAdd])
  repeat' (first | ((fail_if_success (refine atD ?_)); refine sts ?_) | refine And.intro ?_ ?_ | (intro e; exfalso; omega) | (intro e; subst e) | intro _)
  refine tail 8 ?_
  repeat' (first | refine sts ?_ | refine And.intro ?_ ?_ | (intro e; exfalso; omega) | (intro e; subst e) | intro _)
  · rename_i hq
    rw [get3_2] at hq
    rw [has_no (i := 2) (by omega) (by simpa using hq)]
    exact rt1 () rfl
  rename_i hq
  rw [get3_2] at hq
  have e2 : B.getD (plB (sumB seed (txt k)) B.length 2) false = true := by simpa using hq
  clear hq
  refine hK2 _ _ (un0 fun K => ?_); (simp only [Int.reduceAdd, Nat.reduceAdd])
  rw [has_yes e0 e1 e2]
  repeat' (first | refine sts ?_ | refine And.intro ?_ ?_ | (intro e; exfalso; omega) | (intro e; subst e) | intro _)
  exact rt1 () rfl⟩
set_option maxHeartbeats 8000000 in
instance tyr_badd : Known Tryz.prog 130 (∀ (a : Option Addr) (n c k : Nat) (seed : BitVec 64) (B : List Bool), Bits n → B.length = n → SpecH Tryz.prog 130 #[.agg #[.int .i64 3, .int .u64 (seed.toNat : Nat), .slice a n c], .string (txt k)] [RoS 1 a n c (bls B)] (fun q : Option Addr × Nat => .tuple #[.agg #[.int .i64 3, .int .u64 (seed.toNat : Nat), .slice q.1 n q.2], .bool (!hasB B (sumB seed (txt k)))]) (fun q => [RoS 1 q.1 n q.2 (bls (addB B (sumB seed (txt k))))])) := ⟨fun a n c k seed B hn hB => by
  have hb := hn.b
  subst hB
  refine spec_of Tryz.func130 rfl Tryz.ntmps130 rfl [(0, _), (1, _)] rfl ?_; intro base F l0 hl0; (try simp only [List.cons_append] at hl0); (try simp only [List.nil_append] at hl0); subst hl0
  have q0 : ([plB (sumB seed (txt k)) B.length 0, plB (sumB seed (txt k)) B.length 1, plB (sumB seed (txt k)) B.length 2] : List Nat).getD 0 0 < B.length := by rw [get3_0]; exact plB_lt (by omega)
  have q1 : ([plB (sumB seed (txt k)) B.length 0, plB (sumB seed (txt k)) B.length 1, plB (sumB seed (txt k)) B.length 2] : List Nat).getD 1 0 < B.length := by rw [get3_1]; exact plB_lt (by omega)
  have q2 : ([plB (sumB seed (txt k)) B.length 0, plB (sumB seed (txt k)) B.length 1, plB (sumB seed (txt k)) B.length 2] : List Nat).getD 2 0 < B.length := by rw [get3_2]; exact plB_lt (by omega)
  have hl : ([plB (sumB seed (txt k)) B.length 0, plB (sumB seed (txt k)) B.length 1, plB (sumB seed (txt k)) B.length 2] : List Nat).length = 3 := rfl
  have s1 : ∀ x, (B.set x true).length = B.length := fun x => List.length_set
  have s2 : ∀ x y, ((B.set x true).set y true).length = B.length := fun x y => by rw [List.length_set, List.length_set]
  have s1' := s1 (([plB (sumB seed (txt k)) B.length 0, plB (sumB seed (txt k)) B.length 1, plB (sumB seed (txt k)) B.length 2] : List Nat).getD 0 0)
  have s2' := s2 (([plB (sumB seed (txt k)) B.length 0, plB (sumB seed (txt k)) B.length 1, plB (sumB seed (txt k)) B.length 2] : List Nat).getD 0 0) (([plB (sumB seed (txt k)) B.length 0, plB (sumB seed (txt k)) B.length 1, plB (sumB seed (txt k)) B.length 2] : List Nat).getD 1 0)
  repeat' (first | refine sts ?_ | refine And.intro ?_ ?_ | (intro e; exfalso; omega) | (intro e; subst e) | intro _)
  rename_i va vb la lb
  refine tc_un 3 (un fun K0 hK0 => ?_)
  repeat' (first | ((fail_if_success (refine atD ?_)); refine sts ?_) | refine And.intro ?_ ?_ | (intro e; exfalso; omega) | (intro e; subst e) | intro _)
  refine tail 7 ?_
  repeat' (first | refine sts ?_ | refine And.intro ?_ ?_ | (intro e; exfalso; omega) | (intro e; subst e) | intro _)
  refine hK0 _ _ (un fun K1 hK1 => ?_); (simp only [Int.reduceAdd, Nat.reduceAdd])
  repeat' (first | ((fail_if_success (refine atD ?_)); refine sts ?_) | refine And.intro ?_ ?_ | (intro e; exfalso; omega) | (intro e; subst e) | intro _)
  refine tail 7 ?_
  repeat' (first | refine sts ?_ | refine And.intro ?_ ?_ | (intro e; exfalso; omega) | (intro e; subst e) | intro _)
  refine hK1 _ _ (un fun K2 hK2 => ?_); (simp only [Int.reduceAdd, Nat.reduceAdd])
  repeat' (first | ((fail_if_success (refine atD ?_)); refine sts ?_) | refine And.intro ?_ ?_ | (intro e; exfalso; omega) | (intro e; subst e) | intro _)
  refine tail 7 ?_
  repeat' (first | refine sts ?_ | refine And.intro ?_ ?_ | (intro e; exfalso; omega) | (intro e; subst e) | intro _)
  refine hK2 _ _ (un0 fun K => ?_); (simp only [Int.reduceAdd, Nat.reduceAdd])
  rw [get3_0, get3_1, get3_2, ← add_set]
  repeat' (first | refine sts ?_ | refine And.intro ?_ ?_ | (intro e; exfalso; omega) | (intro e; subst e) | intro _)
  refine frz va ?_
  exact ra2 (va, vb) rfl⟩
set_option maxHeartbeats 8000000 in
instance tyr_bnew : Known Tryz.prog 49 (∀ (xn : Int) (n : Nat) [NatI xn n] (x : Int) (seed : BitVec 64) [BV x seed], Bits n → SpecH Tryz.prog 49 #[.int .i64 xn, .int .i64 3, .int .u64 x] [] (fun q : Nat => .tuple #[.agg #[.int .i64 3, .int .u64 (seed.toNat : Nat), .slice (some ⟨q, 0, none⟩) n n], .int .i64 0]) (fun q => [RoS 1 (some ⟨q, 0, none⟩) n n (bls (List.replicate n false))])) := ⟨fun xn n _ x seed _ hpw => by
  obtain rfl : xn = (n : Int) := NatI.out
  obtain rfl : x = ((seed.toNat : Nat) : Int) := BV.out
  obtain ⟨hw1, hw2⟩ := hpw.b
  obtain ⟨e, he1, he2, he3⟩ := hpw.pw
  refine spec_of Tryz.func49 rfl Tryz.ntmps49 rfl [(0, _), (1, _), (2, _)] rfl ?_; intro base F l0 hl0; (try simp only [List.cons_append] at hl0); (try simp only [List.nil_append] at hl0); subst hl0
  repeat' (first | refine sts ?_ | refine And.intro ?_ ?_ | (intro e; exfalso; omega) | (intro e; subst e) | intro _)
  refine tc_lp (ι := {q : Nat × Nat × Bool // q.1 ≤ 21 ∧ q.2.1 = 2 ^ q.1 ∧ q.2.2 = decide (e < q.1)}) [8, 9] (fun en q => (8, .bool q.1.2.2) :: (9, .int .i64 (q.1.2.1 : Nat)) :: en) (fun _ => _) (fun q => 21 - q.1.1) ⟨(6, 64, false), by omega, rfl, (decide_eq_false (by omega)).symm⟩ ?_ (hl := Ent.refl _)
  rintro K ⟨⟨j, m, b⟩, hj, hm, hb⟩ hK
  dsimp only at hj hm hb ⊢
  obtain ⟨f1, f2, f3, f4, f5⟩ := pow_facts hm he3
  by_cases hc : j ≤ 20
  · have hm2 : m ≤ 1048576 := by rw [hm]; exact pow_le_of (b := 20) hc
    rcases Nat.lt_trichotomy j e with h | h | h
    · rw [decide_eq_false (by omega)] at hb
      subst hb
      have g := f1 h
      have d : false = decide (e < j + 1) := (decide_eq_false (by omega)).symm
      clear f1 f2 f3
      repeat' (first | refine sts ?_ | refine And.intro ?_ ?_ | (intro e; exfalso; omega) | (intro e; subst e) | intro _)
      exact again hK ⟨(j + 1, m * 2, false), by dsimp only; omega, f4, d⟩
    · rw [decide_eq_false (by omega)] at hb
      subst hb
      have g := f2 h
      have d : true = decide (e < j + 1) := (decide_eq_true (by omega)).symm
      clear f1 f2 f3
      repeat' (first | refine sts ?_ | refine And.intro ?_ ?_ | (intro e; exfalso; omega) | (intro e; subst e) | intro _)
      exact again hK ⟨(j + 1, m * 2, true), by dsimp only; omega, f4, d⟩
    · rw [decide_eq_true (by omega)] at hb
      subst hb
      have d : true = decide (e < j + 1) := (decide_eq_true (by omega)).symm
      clear f1 f2 f3
      repeat' (first | refine sts ?_ | refine And.intro ?_ ?_ | (intro e; exfalso; omega) | (intro e; subst e) | intro _)
      exact again hK ⟨(j + 1, m * 2, true), by dsimp only; omega, f4, d⟩
  · obtain rfl : j = 21 := by omega
    have hm2 : m = 2097152 := hm
    rw [decide_eq_true (by omega)] at hb
    subst hb; subst hm2
    clear f1 f2 f3
    repeat' (first | refine sts ?_ | refine And.intro ?_ ?_ | (intro e; exfalso; omega) | (intro e; subst e) | intro _)
    rename_i x
    rw [bls_zero]
    refine frz (some ⟨x, 0, none⟩) ?_
    exact ra2 x rfl⟩
end Go.Proofs.YtdpiglociolagaaGreat
