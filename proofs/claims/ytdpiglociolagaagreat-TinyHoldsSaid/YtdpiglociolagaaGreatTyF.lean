/- TyF: TyRTh, TyR1, TyR2, TyR3, TyR4. -/
import Derived.Test.YtdpiglociolagaaGreatTyC
import Derived.Test.YtdpiglociolagaaGreatTyD
import Derived.Test.YtdpiglociolagaaGreatSlUn
import Derived.Test.YtdpiglociolagaaGreatSlMapN
/- The references of tiny, plainly: counters as ints, bits as truth values, places by quotients. -/
namespace Go.Sl
open Go.Ty
def i64n (C : List Nat) : List Value := C.map fun n => .int .i64 (n : Nat)
instance (C : List Nat) : Idx (i64n C) 1 C.length (fun i => [.int .i64 ((C.getD i 0 : Nat) : Int)]) := ⟨fun i hi => ⟨rfl, fun j v hj => by
  cases j with
  | zero =>
    simp only [List.getElem?_cons_zero, Option.some.injEq] at hj
    subst hj
    simp [i64n, List.getElem?_map, List.getElem?_eq_getElem hi, List.getD_eq_getElem?_getD]
  | succ j => simp at hj⟩⟩
instance (C : List Nat) : PlC (i64n C) := ⟨fun v hv => by
  obtain ⟨z, _, rfl⟩ := List.mem_map.1 hv
  rfl⟩
instance (C : List Nat) (i : Nat) (x : Int) (a : Nat) [h : NatI x a] : SetC (i64n C) i 0 [.int .i64 x] 1 C.length (i64n (C.set i a)) := ⟨fun hi => ⟨by rw [h.out]; simp [i64n, setL, List.map_set], by simp [i64n]; omega⟩⟩
theorem i64n_zero {n : Nat} : rows n (fun _ => [Value.int .i64 0]) = i64n (List.replicate n 0) := by
  rw [← rows_replicate]
  unfold i64n
  rw [List.map_replicate]
  induction n with
  | zero => rfl
  | succ n ih => rw [List.replicate_succ, List.replicate_succ, List.flatten_cons, ih]; rfl
def bls (B : List Bool) : List Value := B.map fun b => .bool b
instance (B : List Bool) : Idx (bls B) 1 B.length (fun i => [.bool (B.getD i false)]) := ⟨fun i hi => ⟨rfl, fun j v hj => by
  cases j with
  | zero =>
    simp only [List.getElem?_cons_zero, Option.some.injEq] at hj
    subst hj
    simp [bls, List.getElem?_map, List.getElem?_eq_getElem hi, List.getD_eq_getElem?_getD]
  | succ j => simp at hj⟩⟩
instance (B : List Bool) : PlC (bls B) := ⟨fun v hv => by
  obtain ⟨z, _, rfl⟩ := List.mem_map.1 hv
  rfl⟩
instance (B : List Bool) (i : Nat) (b : Bool) : SetC (bls B) i 0 [.bool b] 1 B.length (bls (B.set i b)) := ⟨fun hi => ⟨by simp [bls, setL, List.map_set], by simp [bls]; omega⟩⟩
theorem bls_zero {n : Nat} : rows n (fun _ => [Value.bool false]) = bls (List.replicate n false) := by
  rw [← rows_replicate]
  unfold bls
  rw [List.map_replicate]
  induction n with
  | zero => rfl
  | succ n ih => rw [List.replicate_succ, List.replicate_succ, List.flatten_cons, ih]; rfl
end Go.Sl
namespace Go.Ty
open Go.Lk Go.Sl Go.Tb Go.Proofs.YtdpiglociolagaaGreat
structure SkL (w : Nat) (C0 C1 C2 C3 : List Nat) : Prop where
  l0 : C0.length = w
  l1 : C1.length = w
  l2 : C2.length = w
  l3 : C3.length = w
  pw : ∃ e, 4 ≤ e ∧ e ≤ 16 ∧ w = 2 ^ e
  le : ∀ p, C0.getD p 0 ≤ 15 ∧ C1.getD p 0 ≤ 15 ∧ C2.getD p 0 ≤ 15 ∧ C3.getD p 0 ≤ 15
theorem le15_set {C : List Nat} {p : Nat} (h : ∀ q, C.getD q 0 ≤ 15) (q : Nat) : (cAdd C p).getD q 0 ≤ 15 := by
  unfold cAdd
  split
  · rename_i hc
    rw [List.getD_eq_getElem?_getD, List.getElem?_set]
    split
    · split
      · show C.getD p 0 + 1 ≤ 15; omega
      · exact Nat.zero_le _
    · rw [← List.getD_eq_getElem?_getD]; exact h q
  · exact h q
theorem getD_half {C : List Nat} {q : Nat} : (C.map (· / 2)).getD q 0 = C.getD q 0 / 2 := by
  rw [List.getD_eq_getElem?_getD, List.getD_eq_getElem?_getD, List.getElem?_map]
  cases C[q]? <;> rfl
section
variable {w : Nat} {C0 C1 C2 C3 : List Nat}
theorem SkL.add (h : SkL w C0 C1 C2 C3) {p0 p1 p2 p3 : Nat} : SkL w (cAdd C0 p0) (cAdd C1 p1) (cAdd C2 p2) (cAdd C3 p3) :=
  ⟨by rw [cAdd_len, h.l0], by rw [cAdd_len, h.l1], by rw [cAdd_len, h.l2], by rw [cAdd_len, h.l3], h.pw, fun p => ⟨le15_set (fun q => (h.le q).1) p, le15_set (fun q => (h.le q).2.1) p, le15_set (fun q => (h.le q).2.2.1) p, le15_set (fun q => (h.le q).2.2.2) p⟩⟩
theorem SkL.half (h : SkL w C0 C1 C2 C3) : SkL w (C0.map (· / 2)) (C1.map (· / 2)) (C2.map (· / 2)) (C3.map (· / 2)) :=
  ⟨by rw [List.length_map, h.l0], by rw [List.length_map, h.l1], by rw [List.length_map, h.l2], by rw [List.length_map, h.l3], h.pw, fun p => by
    have := h.le p
    rw [getD_half, getD_half, getD_half, getD_half]; omega⟩
theorem SkL.zero (h : ∃ e, 4 ≤ e ∧ e ≤ 16 ∧ w = 2 ^ e) : SkL w (List.replicate w 0) (List.replicate w 0) (List.replicate w 0) (List.replicate w 0) := by
  have e : ∀ p, (List.replicate w 0).getD p 0 = 0 := fun p => by rw [List.getD_eq_getElem?_getD, List.getElem?_replicate]; split <;> rfl
  exact ⟨List.length_replicate, List.length_replicate, List.length_replicate, List.length_replicate, h, fun p => by rw [e]; omega⟩
theorem SkL.wb (h : SkL w C0 C1 C2 C3) : 16 ≤ w ∧ w ≤ 65536 := by
  obtain ⟨e, he⟩ := h.pw
  exact ⟨(pow_le16 he).1, (pow_le16 he).2.1⟩
end
def hf (C : List Nat) (i : Nat) : List Nat := (C.take i).map (· / 2) ++ C.drop i
end Go.Ty

/- The reference of sketch, walked: places, a copy. -/
namespace Go.Ty
open Go.Sl
abbrev S4 := (Option Addr × Nat) × (Option Addr × Nat) × (Option Addr × Nat) × Option Addr × Nat
def shS (h : BitVec 64) (r : Nat) : BitVec 64 := h >>> (16 * r)
end Go.Ty
namespace Go.Proofs.YtdpiglociolagaaGreat
open Go.Lk Go.Sl Go.Ty
attribute [local irreducible] TK TL TC Th Bk Nx fnPost WA TQ OpQ OpN SpecH Rd Ent IterH RoundH Rb Rp fnPostM
attribute [local irreducible] Ty.shS Ty.sumB Ty.plS Ty.at64 Ty.cAdd
end Go.Proofs.YtdpiglociolagaaGreat

/- The reference of sketch, walked: counters halved, counted up, asked for. -/
namespace Go.Proofs.YtdpiglociolagaaGreat
open Go.Lk Go.Sl Go.Ty
attribute [local irreducible] TK TL TC Th Bk Nx fnPost WA TQ OpQ OpN SpecH Rd Ent IterH RoundH Rb Rp fnPostM
attribute [local irreducible] Ty.shS Ty.sumB Ty.plS Ty.at64 Ty.cAdd
end Go.Proofs.YtdpiglociolagaaGreat

/- The reference of sketch, walked: counters counted up; a new one. -/
namespace Go.Proofs.YtdpiglociolagaaGreat
open Go.Lk Go.Sl Go.Ty
attribute [local irreducible] TK TL TC Th Bk Nx fnPost WA TQ OpQ OpN SpecH Rd Ent IterH RoundH Rb Rp fnPostM
attribute [local irreducible] Ty.shS Ty.sumB Ty.plS Ty.at64 Ty.cAdd
end Go.Proofs.YtdpiglociolagaaGreat

/- The references of sketch and bloom, walked: new ones; places. -/
namespace Go.Ty
theorem pow_facts {e j n w : Nat} (hn : n = 2 ^ j) (hw : w = 2 ^ e) : (j < e → n < w) ∧ (j = e → n = w) ∧ (e < j → w < n) ∧ n * 2 = 2 ^ (j + 1) ∧ 0 < n := by
  subst hn; subst hw
  exact ⟨fun h => Nat.pow_lt_pow_right (by decide) h, fun h => by rw [h], fun h => Nat.pow_lt_pow_right (by decide) h, by rw [Nat.pow_succ], Nat.pow_pos (by decide)⟩
theorem pow_le_of {j b : Nat} (h : j ≤ b) : 2 ^ j ≤ 2 ^ b := Nat.pow_le_pow_right (by decide) h
end Go.Ty
namespace Go.Proofs.YtdpiglociolagaaGreat
open Go.Lk Go.Sl Go.Ty
attribute [local irreducible] TK TL TC Th Bk Nx fnPost WA TQ OpQ OpN SpecH Rd Ent IterH RoundH Rb Rp fnPostM
attribute [local irreducible] Ty.shS Ty.sumB Ty.plS Ty.at64 Ty.cAdd
set_option maxHeartbeats 8000000 in
instance tyr_snew : Known Tryz.prog 47 (∀ (xw : Int) (w : Nat) [NatI xw w] (x : Int) (seed : BitVec 64) [BV x seed], (∃ e, 4 ≤ e ∧ e ≤ 16 ∧ w = 2 ^ e) → SpecH Tryz.prog 47 #[.int .i64 xw, .int .u64 x, .int .i64 0] [] (fun q : Nat × Nat × Nat × Nat => .tuple #[.agg #[.int .i64 (w : Nat), .int .i64 0, .int .i64 0, .int .u64 (seed.toNat : Nat), .slice (some ⟨q.1, 0, none⟩) w w, .slice (some ⟨q.2.1, 0, none⟩) w w, .slice (some ⟨q.2.2.1, 0, none⟩) w w, .slice (some ⟨q.2.2.2, 0, none⟩) w w], .int .i64 0]) (fun q => [RoS 1 (some ⟨q.1, 0, none⟩) w w (i64n (List.replicate w 0)), RoS 1 (some ⟨q.2.1, 0, none⟩) w w (i64n (List.replicate w 0)), RoS 1 (some ⟨q.2.2.1, 0, none⟩) w w (i64n (List.replicate w 0)), RoS 1 (some ⟨q.2.2.2, 0, none⟩) w w (i64n (List.replicate w 0))])) := ⟨fun xw w _ x seed _ hpw => by
  obtain rfl : xw = (w : Int) := NatI.out
  obtain rfl : x = ((seed.toNat : Nat) : Int) := BV.out
  obtain ⟨e, he1, he2, he3⟩ := hpw
  obtain ⟨hw1, hw2, _⟩ := pow_le16 ⟨he1, he2, he3⟩
  refine spec_of Tryz.func47 rfl Tryz.ntmps47 rfl [(0, _), (1, _), (2, _)] rfl ?_; intro base F l0 hl0; (try simp only [List.cons_append] at hl0); (try simp only [List.nil_append] at hl0); subst hl0
  repeat' (first | refine sts ?_ | refine And.intro ?_ ?_ | (intro e; exfalso; omega) | (intro e; subst e) | intro _)
  refine tc_lp (ι := {q : Nat × Nat × Bool // q.1 ≤ 17 ∧ q.2.1 = 2 ^ q.1 ∧ q.2.2 = decide (e < q.1)}) [8, 9] (fun en q => (8, .bool q.1.2.2) :: (9, .int .i64 (q.1.2.1 : Nat)) :: en) (fun _ => _) (fun q => 17 - q.1.1) ⟨(4, 16, false), by omega, rfl, (decide_eq_false (by omega)).symm⟩ ?_ (hl := Ent.refl _)
  rintro K ⟨⟨j, n, b⟩, hj, hn, hb⟩ hK
  dsimp only at hj hn hb ⊢
  obtain ⟨f1, f2, f3, f4, f5⟩ := pow_facts hn he3
  by_cases hc : j ≤ 16
  · have hn2 : n ≤ 65536 := by rw [hn]; exact pow_le_of (b := 16) hc
    rcases Nat.lt_trichotomy j e with h | h | h
    · rw [decide_eq_false (by omega)] at hb
      subst hb
      have g := f1 h
      have d : false = decide (e < j + 1) := (decide_eq_false (by omega)).symm
      clear f1 f2 f3 hn2
      repeat' (first | refine sts ?_ | refine And.intro ?_ ?_ | (intro e; exfalso; omega) | (intro e; subst e) | intro _)
      exact again hK ⟨(j + 1, n * 2, false), by dsimp only; omega, f4, d⟩
    · rw [decide_eq_false (by omega)] at hb
      subst hb
      have g := f2 h
      have d : true = decide (e < j + 1) := (decide_eq_true (by omega)).symm
      clear f1 f2 f3 hn2
      repeat' (first | refine sts ?_ | refine And.intro ?_ ?_ | (intro e; exfalso; omega) | (intro e; subst e) | intro _)
      exact again hK ⟨(j + 1, n * 2, true), by dsimp only; omega, f4, d⟩
    · rw [decide_eq_true (by omega)] at hb
      subst hb
      have d : true = decide (e < j + 1) := (decide_eq_true (by omega)).symm
      clear f1 f2 f3
      repeat' (first | refine sts ?_ | refine And.intro ?_ ?_ | (intro e; exfalso; omega) | (intro e; subst e) | intro _)
      exact again hK ⟨(j + 1, n * 2, true), by dsimp only; omega, f4, d⟩
  · obtain rfl : j = 17 := by omega
    have hn2 : n = 131072 := hn
    rw [decide_eq_true (by omega)] at hb
    subst hb; subst hn2
    clear f1 f2 f3
    repeat' (first | refine sts ?_ | refine And.intro ?_ ?_ | (intro e; exfalso; omega) | (intro e; subst e) | intro _)
    rename_i b6 b10
    refine tc_un 4 (un fun K0 hK0 => ?_)
    repeat' (first | refine sts ?_ | refine And.intro ?_ ?_ | (intro e; exfalso; omega) | (intro e; subst e) | intro _)
    rename_i x0
    refine hK0 _ _ (un fun K1 hK1 => ?_); (simp only [Int.reduceAdd, Nat.reduceAdd, Nat.mul_one, i64n_zero])
    repeat' (first | refine sts ?_ | refine And.intro ?_ ?_ | (intro e; exfalso; omega) | (intro e; subst e) | intro _)
    rename_i x1
    refine hK1 _ _ (un fun K2 hK2 => ?_); (simp only [Int.reduceAdd, Nat.reduceAdd, Nat.mul_one, i64n_zero])
    repeat' (first | refine sts ?_ | refine And.intro ?_ ?_ | (intro e; exfalso; omega) | (intro e; subst e) | intro _)
    rename_i x2
    refine hK2 _ _ (un fun K3 hK3 => ?_); (simp only [Int.reduceAdd, Nat.reduceAdd, Nat.mul_one, i64n_zero])
    repeat' (first | refine sts ?_ | refine And.intro ?_ ?_ | (intro e; exfalso; omega) | (intro e; subst e) | intro _)
    rename_i x3
    refine hK3 _ _ (un0 fun K => ?_); (simp only [Int.reduceAdd, Nat.reduceAdd, Nat.mul_one, i64n_zero])
    repeat' (first | refine sts ?_ | refine And.intro ?_ ?_ | (intro e; exfalso; omega) | (intro e; subst e) | intro _)

    refine frz (some ⟨x0, 0, none⟩) ?_
    refine frz (some ⟨x1, 0, none⟩) ?_
    refine frz (some ⟨x2, 0, none⟩) ?_
    refine frz (some ⟨x3, 0, none⟩) ?_
    exact ra2 (x0, x1, x2, x3) rfl⟩
end Go.Proofs.YtdpiglociolagaaGreat
