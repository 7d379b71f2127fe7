/- TyF: TyRTh, TyR1, TyR2, TyR3, TyR4. -/
import Derived.Test.YtdpiglociolagaaGreatTyC
import Derived.Test.YtdpiglociolagaaGreatTyD
import Derived.Test.YtdpiglociolagaaGreatSlUn
import Derived.Test.YtdpiglociolagaaGreatSlMapN
/- The references of tiny, plainly: counters as ints, bits as truth values, places by quotients. -/
namespace Go.Sl
open Go.Ty
def i64n (C : List Nat) : List Value := C.map fun n => .int .i64 (n : Nat)
instance (C : List Nat) : Idx (i64n C) 1 C.length (fun i => [.int .i64 ((C.getD i 0 : Nat) : Int)]) := ⟨fun i hi => ⟨rfl, fun j v hj => by
  cases j with
  | zero =>
    simp only [List.getElem?_cons_zero, Option.some.injEq] at hj
    subst hj
    simp [i64n, List.getElem?_map, List.getElem?_eq_getElem hi, List.getD_eq_getElem?_getD]
  | succ j => simp at hj⟩⟩
instance (C : List Nat) : PlC (i64n C) := ⟨fun v hv => by
  obtain ⟨z, _, rfl⟩ := List.mem_map.1 hv
  rfl⟩
instance (C : List Nat) (i : Nat) (x : Int) (a : Nat) [h : NatI x a] : SetC (i64n C) i 0 [.int .i64 x] 1 C.length (i64n (C.set i a)) := ⟨fun hi => ⟨by rw [h.out]; simp [i64n, setL, List.map_set], by simp [i64n]; omega⟩⟩
theorem i64n_zero {n : Nat} : rows n (fun _ => [Value.int .i64 0]) = i64n (List.replicate n 0) := by
  rw [← rows_replicate]
  unfold i64n
  rw [List.map_replicate]
  induction n with
  | zero => rfl
  | succ n ih => rw [List.replicate_succ, List.replicate_succ, List.flatten_cons, ih]; rfl
def bls (B : List Bool) : List Value := B.map fun b => .bool b
instance (B : List Bool) : Idx (bls B) 1 B.length (fun i => [.bool (B.getD i false)]) := ⟨fun i hi => ⟨rfl, fun j v hj => by
  cases j with
  | zero =>
    simp only [List.getElem?_cons_zero, Option.some.injEq] at hj
    subst hj
    simp [bls, List.getElem?_map, List.getElem?_eq_getElem hi, List.getD_eq_getElem?_getD]
  | succ j => simp at hj⟩⟩
instance (B : List Bool) : PlC (bls B) := ⟨fun v hv => by
  obtain ⟨z, _, rfl⟩ := List.mem_map.1 hv
  rfl⟩
instance (B : List Bool) (i : Nat) (b : Bool) : SetC (bls B) i 0 [.bool b] 1 B.length (bls (B.set i b)) := ⟨fun hi => ⟨by simp [bls, setL, List.map_set], by simp [bls]; omega⟩⟩
theorem bls_zero {n : Nat} : rows n (fun _ => [Value.bool false]) = bls (List.replicate n false) := by
  rw [← rows_replicate]
  unfold bls
  rw [List.map_replicate]
  induction n with
  | zero => rfl
  | succ n ih => rw [List.replicate_succ, List.replicate_succ, List.flatten_cons, ih]; rfl
end Go.Sl
namespace Go.Ty
open Go.Lk Go.Sl Go.Tb Go.Proofs.YtdpiglociolagaaGreat
structure SkL (w : Nat) (C0 C1 C2 C3 : List Nat) : Prop where
  l0 : C0.length = w
  l1 : C1.length = w
  l2 : C2.length = w
  l3 : C3.length = w
  pw : ∃ e, 4 ≤ e ∧ e ≤ 16 ∧ w = 2 ^ e
  le : ∀ p, C0.getD p 0 ≤ 15 ∧ C1.getD p 0 ≤ 15 ∧ C2.getD p 0 ≤ 15 ∧ C3.getD p 0 ≤ 15
theorem le15_set {C : List Nat} {p : Nat} (h : ∀ q, C.getD q 0 ≤ 15) (q : Nat) : (cAdd C p).getD q 0 ≤ 15 := by
  unfold cAdd
  split
  · rename_i hc
    rw [List.getD_eq_getElem?_getD, List.getElem?_set]
    split
    · split
      · show C.getD p 0 + 1 ≤ 15; omega
      · exact Nat.zero_le _
    · rw [← List.getD_eq_getElem?_getD]; exact h q
  · exact h q
theorem getD_half {C : List Nat} {q : Nat} : (C.map (· / 2)).getD q 0 = C.getD q 0 / 2 := by
  rw [List.getD_eq_getElem?_getD, List.getD_eq_getElem?_getD, List.getElem?_map]
  cases C[q]? <;> rfl
section
variable {w : Nat} {C0 C1 C2 C3 : List Nat}
theorem SkL.add (h : SkL w C0 C1 C2 C3) {p0 p1 p2 p3 : Nat} : SkL w (cAdd C0 p0) (cAdd C1 p1) (cAdd C2 p2) (cAdd C3 p3) :=
  ⟨by rw [cAdd_len, h.l0], by rw [cAdd_len, h.l1], by rw [cAdd_len, h.l2], by rw [cAdd_len, h.l3], h.pw, fun p => ⟨le15_set (fun q => (h.le q).1) p, le15_set (fun q => (h.le q).2.1) p, le15_set (fun q => (h.le q).2.2.1) p, le15_set (fun q => (h.le q).2.2.2) p⟩⟩
theorem SkL.half (h : SkL w C0 C1 C2 C3) : SkL w (C0.map (· / 2)) (C1.map (· / 2)) (C2.map (· / 2)) (C3.map (· / 2)) :=
  ⟨by rw [List.length_map, h.l0], by rw [List.length_map, h.l1], by rw [List.length_map, h.l2], by rw [List.length_map, h.l3], h.pw, fun p => by
    have := h.le p
    rw [getD_half, getD_half, getD_half, getD_half]; omega⟩
theorem SkL.zero (h : ∃ e, 4 ≤ e ∧ e ≤ 16 ∧ w = 2 ^ e) : SkL w (List.replicate w 0) (List.replicate w 0) (List.replicate w 0) (List.replicate w 0) := by
  have e : ∀ p, (List.replicate w 0).getD p 0 = 0 := fun p => by rw [List.getD_eq_getElem?_getD, List.getElem?_replicate]; split <;> rfl
  exact ⟨List.length_replicate, List.length_replicate, List.length_replicate, List.length_replicate, h, fun p => by rw [e]; omega⟩
theorem SkL.wb (h : SkL w C0 C1 C2 C3) : 16 ≤ w ∧ w ≤ 65536 := by
  obtain ⟨e, he⟩ := h.pw
  exact ⟨(pow_le16 he).1, (pow_le16 he).2.1⟩
end
theorem cAdd_min {C : List Nat} {p : Nat} (h : C.getD p 0 ≤ 15) : C.set p (min 15 (C.getD p 0 + 1)) = cAdd C p := by
  by_cases hc : C.getD p 0 < 15
  · rw [cAdd_yes hc, Nat.min_eq_right (by omega)]
  · rw [cAdd_no hc, Nat.min_eq_left (by omega), show 15 = C.getD p 0 by omega]
    refine List.ext_getElem? fun j => ?_
    rw [List.getElem?_set]
    split
    · rename_i e
      subst e
      split
      · rename_i hl
        rw [List.getD_eq_getElem?_getD, List.getElem?_eq_getElem hl]; rfl
      · rename_i hl
        rw [List.getElem?_eq_none (by omega)]
    · rfl
def hf (C : List Nat) (i : Nat) : List Nat := (C.take i).map (· / 2) ++ C.drop i
theorem hf_zero {C : List Nat} : hf C 0 = C := rfl
theorem hf_all {C : List Nat} : hf C C.length = C.map (· / 2) := by unfold hf; rw [List.take_length, List.drop_length, List.append_nil]
theorem hf_len {C : List Nat} {i : Nat} : (hf C i).length = C.length := by unfold hf; simp; omega
theorem hf_get {C : List Nat} {i : Nat} (h : i < C.length) : (hf C i).getD i 0 = C.getD i 0 := by
  unfold hf
  rw [List.getD_eq_getElem?_getD, List.getElem?_append_right (by simp; omega), List.length_map, List.length_take, Nat.min_eq_left (by omega), Nat.sub_self, List.getElem?_drop, Nat.add_zero, List.getD_eq_getElem?_getD]
theorem hf_set {C : List Nat} {i : Nat} (h : i < C.length) : (hf C i).set i (C.getD i 0 / 2) = hf C (i + 1) := by
  unfold hf
  have hl : ((C.take i).map (· / 2)).length = i := by rw [List.length_map, List.length_take, Nat.min_eq_left (by omega)]
  rw [List.set_append_right _ _ (by omega), hl, Nat.sub_self, List.drop_eq_getElem_cons h, List.set_cons_zero, List.take_succ_eq_append_getElem h, List.map_append, List.append_assoc, List.getD_eq_getElem?_getD, List.getElem?_eq_getElem h]; rfl
/-! ### Places by quotients -/
theorem shr_div {h : BitVec 64} {r : Nat} : (h >>> (16 * r)).toNat = h.toNat / 65536 ^ r := by
  rw [BitVec.toNat_ushiftRight, Nat.shiftRight_eq_div_pow, Nat.pow_mul]
theorem shr_step {h : BitVec 64} {r : Nat} : (h >>> (16 * r)).toNat / 65536 = (h >>> (16 * (r + 1))).toNat := by
  rw [shr_div, shr_div, Nat.div_div_eq_div_mul, ← Nat.pow_succ]
theorem bA_mod {h : BitVec 64} : (bA h).toNat = h.toNat % 4294967296 := by
  unfold bA
  rw [BitVec.toNat_and, show (4294967295#64).toNat = 2 ^ 32 - 1 from rfl, Nat.and_two_pow_sub_one_eq_mod]
theorem or_one (n : Nat) : n ||| 1 = if n % 2 = 0 then n + 1 else n := by
  refine Nat.eq_of_testBit_eq fun i => ?_
  rw [Nat.testBit_or]
  cases i with
  | zero =>
    have e1 : (1 : Nat).testBit 0 = true := rfl
    rw [e1, Bool.or_true]
    split
    · rw [Nat.testBit_zero]; symm; rw [decide_eq_true_iff]; omega
    · rw [Nat.testBit_zero]; symm; rw [decide_eq_true_iff]; omega
  | succ i =>
    have e1 : (1 : Nat).testBit (i + 1) = false := by rw [Nat.testBit_succ]; simp
    rw [e1, Bool.or_false, Nat.testBit_succ]
    split
    · rw [Nat.testBit_succ]; congr 1; omega
    · rw [Nat.testBit_succ]
theorem bS_div {h : BitVec 64} : (bS h).toNat = if h.toNat / 4294967296 % 2 = 0 then h.toNat / 4294967296 + 1 else h.toNat / 4294967296 := by
  unfold bS
  rw [BitVec.toNat_or, BitVec.toNat_ushiftRight, Nat.shiftRight_eq_div_pow, show (1#64).toNat = 1 from rfl, or_one]
end Go.Ty

/- The reference of sketch, walked: places, a copy. -/
namespace Go.Ty
open Go.Sl
abbrev S4 := (Option Addr × Nat) × (Option Addr × Nat) × (Option Addr × Nat) × Option Addr × Nat
def shS (h : BitVec 64) (r : Nat) : BitVec 64 := h >>> (16 * r)
theorem shr_stepI {h : BitVec 64} {r : Nat} : (((shS h r).toNat : Nat) : Int) / 65536 = (((shS h (r + 1)).toNat : Nat) : Int) := by
  unfold shS
  rw [← shr_step]; omega
theorem shr_0 {h : BitVec 64} : (((h.toNat : Nat) : Int)) = (((shS h 0).toNat : Nat) : Int) := by unfold shS; simp
theorem plS_defI {h : BitVec 64} {w r : Nat} (hw : w ≤ 65536) (h0 : 16 ≤ w) : IntKind.i64.wrap ((((shS h r).toNat : Nat) : Int) % (w : Int)) = ((plS h w r : Nat) : Int) := by
  have e : (((shS h r).toNat : Nat) : Int) % (w : Int) = ((plS h w r : Nat) : Int) := by rw [← plS_def]; rfl
  rw [e]
  have := plS_lt (h := h) (w := w) (r := r) (by omega)
  rw [IntKind.wrap_i64]; omega
end Go.Ty
namespace Go.Proofs.YtdpiglociolagaaGreat
open Go.Lk Go.Sl Go.Ty
attribute [local irreducible] TK TL TC Th Bk Nx fnPost WA TQ OpQ OpN SpecH Rd Ent IterH RoundH Rb Rp fnPostM
attribute [local irreducible] Ty.shS Ty.sumB Ty.plS Ty.at64 Ty.cAdd
set_option maxHeartbeats 4000000 in
instance tyr_places : Known Tryz.prog 127 (∀ (a0 a1 a2 a3 : Option Addr) (w k0 k1 k2 k3 ad k : Nat) (seed : BitVec 64), 16 ≤ w → w ≤ 65536 → SpecH Tryz.prog 127 #[.agg #[.int .i64 (w : Nat), .int .i64 0, .int .i64 (ad : Nat), .int .u64 (seed.toNat : Nat), .slice a0 w k0, .slice a1 w k1, .slice a2 w k2, .slice a3 w k3], .string (txt k)] [] (fun _ : Unit => .agg #[.int .i64 (plS (sumB seed (txt k)) w 0 : Nat), .int .i64 (plS (sumB seed (txt k)) w 1 : Nat), .int .i64 (plS (sumB seed (txt k)) w 2 : Nat), .int .i64 (plS (sumB seed (txt k)) w 3 : Nat)]) (fun _ => [])) := ⟨fun a0 a1 a2 a3 w k0 k1 k2 k3 ad k seed h1 h2 => by
  refine spec_of Tryz.func127 rfl Tryz.ntmps127 rfl [(0, _), (1, _)] rfl ?_; intro base F l0 hl0; (try simp only [List.cons_append] at hl0); (try simp only [List.nil_append] at hl0); subst hl0
  have hts := txt_size (k := k)
  have hp : ∀ r, IntKind.i64.wrap ((((shS (sumB seed (txt k)) r).toNat : Nat) : Int) % (w : Int)) = ((plS (sumB seed (txt k)) w r : Nat) : Int) := fun r => plS_defI h2 h1
  repeat' (first | refine sts ?_ | refine And.intro ?_ ?_ | (intro e; exfalso; omega) | (intro e; subst e) | intro _)
  rw [shr_0]
  refine tc_un 4 (un fun K hK => ?_)
  repeat' (first | refine sts ?_ | refine And.intro ?_ ?_ | (intro e; exfalso; omega) | (intro e; subst e) | intro _)
  refine hK _ _ (un fun K hK => ?_); (simp only [Int.reduceAdd, Nat.reduceAdd, hp, shr_stepI, Nat.mul_one]); (try simp only [List.set_cons_succ]); (try simp only [List.set_cons_zero])
  repeat' (first | refine sts ?_ | refine And.intro ?_ ?_ | (intro e; exfalso; omega) | (intro e; subst e) | intro _)
  refine hK _ _ (un fun K hK => ?_); (simp only [Int.reduceAdd, Nat.reduceAdd, hp, shr_stepI, Nat.mul_one]); (try simp only [List.set_cons_succ]); (try simp only [List.set_cons_zero])
  repeat' (first | refine sts ?_ | refine And.intro ?_ ?_ | (intro e; exfalso; omega) | (intro e; subst e) | intro _)
  refine hK _ _ (un fun K hK => ?_); (simp only [Int.reduceAdd, Nat.reduceAdd, hp, shr_stepI, Nat.mul_one]); (try simp only [List.set_cons_succ]); (try simp only [List.set_cons_zero])
  repeat' (first | refine sts ?_ | refine And.intro ?_ ?_ | (intro e; exfalso; omega) | (intro e; subst e) | intro _)
  refine hK _ _ (un0 fun K => ?_); (simp only [Int.reduceAdd, Nat.reduceAdd, hp, shr_stepI, Nat.mul_one]); (try simp only [List.set_cons_succ]); (try simp only [List.set_cons_zero])
  repeat' (first | refine sts ?_ | refine And.intro ?_ ?_ | (intro e; exfalso; omega) | (intro e; subst e) | intro _)
  exact ra1 () rfl⟩
set_option maxHeartbeats 4000000 in
instance tyr_scopy : Known Tryz.prog 139 (∀ (a0 a1 a2 a3 : Option Addr) (w k0 k1 k2 k3 ad : Nat) (seed : BitVec 64) (C0 C1 C2 C3 : List Nat), C0.length = w → C1.length = w → C2.length = w → C3.length = w → w ≤ 65536 → SpecH Tryz.prog 139 #[.agg #[.int .i64 (w : Nat), .int .i64 0, .int .i64 (ad : Nat), .int .u64 (seed.toNat : Nat), .slice a0 w k0, .slice a1 w k1, .slice a2 w k2, .slice a3 w k3]] [RoS 1 a0 w k0 (i64n C0), RoS 1 a1 w k1 (i64n C1), RoS 1 a2 w k2 (i64n C2), RoS 1 a3 w k3 (i64n C3)] (fun q : S4 => .agg #[.int .i64 (w : Nat), .int .i64 0, .int .i64 (ad : Nat), .int .u64 (seed.toNat : Nat), .slice q.1.1 w q.1.2, .slice q.2.1.1 w q.2.1.2, .slice q.2.2.1.1 w q.2.2.1.2, .slice q.2.2.2.1 w q.2.2.2.2]) (fun q => [Vec 3 1 q.1.1 w q.1.2 (i64n C0), Vec 3 1 q.2.1.1 w q.2.1.2 (i64n C1), Vec 3 1 q.2.2.1.1 w q.2.2.1.2 (i64n C2), Vec 3 1 q.2.2.2.1 w q.2.2.2.2 (i64n C3)])) := ⟨fun a0 a1 a2 a3 w k0 k1 k2 k3 ad seed C0 C1 C2 C3 l0 l1 l2 l3 hw => by
  refine spec_of Tryz.func139 rfl Tryz.ntmps139 rfl [(0, _)] rfl ?_; intro base F l0 hl0; (try simp only [List.cons_append] at hl0); (try simp only [List.nil_append] at hl0); subst hl0
  repeat' (first | refine sts ?_ | refine And.intro ?_ ?_ | (intro e; exfalso; omega) | (intro e; subst e) | intro _)
  refine tc_un 4 (un fun K0 hK0 => ?_)
  repeat' (first | refine sts ?_ | refine And.intro ?_ ?_ | (intro e; exfalso; omega) | (intro e; subst e) | intro _)
  rename_i x0 y0
  refine hK0 _ _ (un fun K1 hK1 => ?_); (simp only [Int.reduceAdd])
  repeat' (first | refine sts ?_ | refine And.intro ?_ ?_ | (intro e; exfalso; omega) | (intro e; subst e) | intro _)
  rename_i x1 y1
  refine hK1 _ _ (un fun K2 hK2 => ?_); (simp only [Int.reduceAdd])
  repeat' (first | refine sts ?_ | refine And.intro ?_ ?_ | (intro e; exfalso; omega) | (intro e; subst e) | intro _)
  rename_i x2 y2
  refine hK2 _ _ (un fun K3 hK3 => ?_); (simp only [Int.reduceAdd])
  repeat' (first | refine sts ?_ | refine And.intro ?_ ?_ | (intro e; exfalso; omega) | (intro e; subst e) | intro _)
  rename_i x3 y3
  refine hK3 _ _ (un0 fun K => ?_); (simp only [Int.reduceAdd])
  repeat' (first | refine sts ?_ | refine And.intro ?_ ?_ | (intro e; exfalso; omega) | (intro e; subst e) | intro _)
  exact ra1 ((x0, y0), (x1, y1), (x2, y2), x3, y3) rfl⟩
end Go.Proofs.YtdpiglociolagaaGreat

/- The reference of sketch, walked: counters halved, counted up, asked for. -/
namespace Go.Proofs.YtdpiglociolagaaGreat
open Go.Lk Go.Sl Go.Ty
attribute [local irreducible] TK TL TC Th Bk Nx fnPost WA TQ OpQ OpN SpecH Rd Ent IterH RoundH Rb Rp fnPostM
attribute [local irreducible] Ty.shS Ty.sumB Ty.plS Ty.at64 Ty.cAdd
set_option maxHeartbeats 8000000 in
instance tyr_count : Known Tryz.prog 90 (∀ (a0 a1 a2 a3 : Option Addr) (w k0 k1 k2 k3 ad : Nat) (seed : BitVec 64) (C0 C1 C2 C3 : List Nat) (k : Nat), SkL w C0 C1 C2 C3 → SpecH Tryz.prog 90 #[.agg #[.int .i64 (w : Nat), .int .i64 0, .int .i64 (ad : Nat), .int .u64 (seed.toNat : Nat), .slice a0 w k0, .slice a1 w k1, .slice a2 w k2, .slice a3 w k3], .string (txt k)] [RoS 1 a0 w k0 (i64n C0), RoS 1 a1 w k1 (i64n C1), RoS 1 a2 w k2 (i64n C2), RoS 1 a3 w k3 (i64n C3)] (fun _ : Unit => .int .i64 (cnt4 C0 C1 C2 C3 w (sumB seed (txt k)) : Nat)) (fun _ => [])) := ⟨fun a0 a1 a2 a3 w k0 k1 k2 k3 ad seed C0 C1 C2 C3 k ok => by
  obtain ⟨hw1, hw2⟩ := ok.wb
  have l0 := ok.l0
  have l1 := ok.l1
  have l2 := ok.l2
  have l3 := ok.l3
  refine spec_of Tryz.func90 rfl Tryz.ntmps90 rfl [(0, _), (1, _)] rfl ?_; intro base F l0 hl0; (try simp only [List.cons_append] at hl0); (try simp only [List.nil_append] at hl0); subst hl0
  have p0 := plS_lt (h := sumB seed (txt k)) (w := w) (r := 0) (by omega)
  have p1 := plS_lt (h := sumB seed (txt k)) (w := w) (r := 1) (by omega)
  have p2 := plS_lt (h := sumB seed (txt k)) (w := w) (r := 2) (by omega)
  have p3 := plS_lt (h := sumB seed (txt k)) (w := w) (r := 3) (by omega)
  repeat' (first | refine sts ?_ | refine And.intro ?_ ?_ | (intro e; exfalso; omega) | (intro e; subst e) | intro _)
  refine tc_un 4 (un fun K0 hK0 => ?_)
  repeat' (first | refine sts ?_ | refine And.intro ?_ ?_ | (intro e; exfalso; omega) | (intro e; subst e) | intro _)
  refine hK0 _ _ (un fun K1 hK1 => ?_); (simp only [Int.reduceAdd]); (try simp only [Nat.reduceAdd]); (try simp only [Nat.mul_one])
  repeat' (first | refine sts ?_ | refine And.intro ?_ ?_ | (intro e; exfalso; omega) | (intro e; subst e) | intro _)
  refine hK1 _ _ (un fun K2 hK2 => ?_); (simp only [Int.reduceAdd]); (try simp only [Nat.reduceAdd]); (try simp only [Nat.mul_one])
  repeat' (first | refine sts ?_ | refine And.intro ?_ ?_ | (intro e; exfalso; omega) | (intro e; subst e) | intro _)
  refine hK2 _ _ (un fun K3 hK3 => ?_); (simp only [Int.reduceAdd]); (try simp only [Nat.reduceAdd]); (try simp only [Nat.mul_one])
  repeat' (first | refine sts ?_ | refine And.intro ?_ ?_ | (intro e; exfalso; omega) | (intro e; subst e) | intro _)
  refine hK3 _ _ (un0 fun K => ?_); (simp only [Int.reduceAdd]); (try simp only [Nat.reduceAdd]); (try simp only [Nat.mul_one])
  repeat' (first | refine sts ?_ | refine And.intro ?_ ?_ | (intro e; exfalso; omega) | (intro e; subst e) | intro _)
  refine rt1 () ?_
  unfold cnt4
  exact congrArg (Value.int .i64) (by omega)⟩
set_option maxHeartbeats 16000000 in
instance tyr_shalve : Known Tryz.prog 131 (∀ (a0 a1 a2 a3 : Option Addr) (w k0 k1 k2 k3 ad : Nat) (seed : BitVec 64) (C0 C1 C2 C3 : List Nat), SkL w C0 C1 C2 C3 → ad ≤ 100000 → SpecH Tryz.prog 131 #[.agg #[.int .i64 (w : Nat), .int .i64 0, .int .i64 (ad : Nat), .int .u64 (seed.toNat : Nat), .slice a0 w k0, .slice a1 w k1, .slice a2 w k2, .slice a3 w k3]] [RoS 1 a0 w k0 (i64n C0), RoS 1 a1 w k1 (i64n C1), RoS 1 a2 w k2 (i64n C2), RoS 1 a3 w k3 (i64n C3)] (fun q : S4 => .agg #[.int .i64 (w : Nat), .int .i64 0, .int .i64 (ad / 2 : Nat), .int .u64 (seed.toNat : Nat), .slice q.1.1 w q.1.2, .slice q.2.1.1 w q.2.1.2, .slice q.2.2.1.1 w q.2.2.1.2, .slice q.2.2.2.1 w q.2.2.2.2]) (fun q => [RoS 1 q.1.1 w q.1.2 (i64n (C0.map (· / 2))), RoS 1 q.2.1.1 w q.2.1.2 (i64n (C1.map (· / 2))), RoS 1 q.2.2.1.1 w q.2.2.1.2 (i64n (C2.map (· / 2))), RoS 1 q.2.2.2.1 w q.2.2.2.2 (i64n (C3.map (· / 2)))])) := ⟨fun a0 a1 a2 a3 w k0 k1 k2 k3 ad seed C0 C1 C2 C3 ok had => by
  obtain ⟨hw1, hw2⟩ := ok.wb
  have l0 := ok.l0
  have l1 := ok.l1
  have l2 := ok.l2
  have l3 := ok.l3
  have hd : ∀ n : Nat, (n : Int) / 2 = ((n / 2 : Nat) : Int) := fun n => by omega
  refine spec_of Tryz.func131 rfl Tryz.ntmps131 rfl [(0, _)] rfl ?_; intro base F l0 hl0; (try simp only [List.cons_append] at hl0); (try simp only [List.nil_append] at hl0); subst hl0
  repeat' (first | refine sts ?_ | refine And.intro ?_ ?_ | (intro e; exfalso; omega) | (intro e; subst e) | intro _)
  rename_i b2 b4 x y
  obtain ⟨x0, y0⟩ := x
  obtain ⟨⟨x1, y1⟩, ⟨x2, y2⟩, x3, y3⟩ := y
  dsimp only
  refine tc_un 4 (un fun K0 hK0 => ?_)
  repeat' (first | refine sts ?_ | refine And.intro ?_ ?_ | (intro e; exfalso; omega) | (intro e; subst e) | intro _)
  refine TC.weak (env' := [(4, .int .i64 0), (3, .int .i64 0), (2, .pointer (some ⟨b4, 0, none⟩)), (1, .pointer (some ⟨b2, 0, none⟩))]) ?_ (by (repeat (first | exact Sub.nil | (apply Sub.cons; exact rfl))); done)
  refine tc_lp (ι := {i : Nat // i ≤ w}) [4] (fun e i => (4, .int .i64 (i.1 : Nat)) :: e) (fun i => [obj b2 31 [.int .i64 (w : Nat), .int .i64 0, .int .i64 (ad : Nat), .int .u64 (seed.toNat : Nat), .slice x0 w y0, .slice x1 w y1, .slice x2 w y2, .slice x3 w y3], obj b4 31 [.int .i64 0, .int .i64 0, .int .i64 0, .int .u64 0, .slice none 0 0, .slice none 0 0, .slice none 0 0, .slice none 0 0], Vec 3 1 x0 w y0 (i64n (hf C0 i.1)), Vec 3 1 x1 w y1 (i64n C1), Vec 3 1 x2 w y2 (i64n C2), Vec 3 1 x3 w y3 (i64n C3), F]) (fun i => w - i.1) ⟨0, by omega⟩ ?_ (hl := by dsimp only; rw [hf_zero]; exact en)
  rintro K ⟨i, hi⟩ hK
  dsimp only at hi ⊢
  by_cases hc : i < w
  · have g := hf_get (C := C0) (i := i) (by omega)
    have hb : (hf C0 i).getD i 0 ≤ 15 := by rw [g]; exact (ok.le i).1
    have s := hf_set (C := C0) (i := i) (by omega)
    have hl := hf_len (C := C0) (i := i)
    repeat' (first | ((fail_if_success (refine atD ?_)); refine sts ?_) | refine And.intro ?_ ?_ | (intro e; exfalso; omega) | (intro e; subst e) | intro _)
    refine tail 14 ?_
    repeat' (first | refine sts ?_ | refine And.intro ?_ ?_ | (intro e; exfalso; omega) | (intro e; subst e) | intro _)
    rw [g, hd, s]
    exact again hK ⟨i + 1, by omega⟩
  obtain rfl : w = i := by omega
  rw [show hf C0 w = C0.map (· / 2) by rw [← l0]; exact hf_all]
  repeat' (first | refine sts ?_ | refine And.intro ?_ ?_ | (intro e; exfalso; omega) | (intro e; subst e) | intro _)
  refine hK0 _ _ (un fun K1 hK1 => ?_); (simp only [Int.reduceAdd]); (try simp only [Nat.reduceAdd]); (try simp only [Nat.mul_one])
  repeat' (first | refine sts ?_ | refine And.intro ?_ ?_ | (intro e; exfalso; omega) | (intro e; subst e) | intro _)
  refine TC.weak (env' := [(4, .int .i64 0), (3, .int .i64 1), (2, .pointer (some ⟨b4, 0, none⟩)), (1, .pointer (some ⟨b2, 0, none⟩))]) ?_ (by (repeat (first | exact Sub.nil | (apply Sub.cons; exact rfl))); done)
  refine tc_lp (ι := {i : Nat // i ≤ w}) [4] (fun e i => (4, .int .i64 (i.1 : Nat)) :: e) (fun i => [obj b2 31 [.int .i64 (w : Nat), .int .i64 0, .int .i64 (ad : Nat), .int .u64 (seed.toNat : Nat), .slice x0 w y0, .slice x1 w y1, .slice x2 w y2, .slice x3 w y3], obj b4 31 [.int .i64 0, .int .i64 0, .int .i64 0, .int .u64 0, .slice none 0 0, .slice none 0 0, .slice none 0 0, .slice none 0 0], Vec 3 1 x0 w y0 (i64n (C0.map (· / 2))), Vec 3 1 x1 w y1 (i64n (hf C1 i.1)), Vec 3 1 x2 w y2 (i64n C2), Vec 3 1 x3 w y3 (i64n C3), F]) (fun i => w - i.1) ⟨0, by omega⟩ ?_ (hl := by dsimp only; rw [hf_zero]; exact en)
  rintro K ⟨i, hi⟩ hK
  dsimp only at hi ⊢
  by_cases hc : i < w
  · have g := hf_get (C := C1) (i := i) (by omega)
    have hb : (hf C1 i).getD i 0 ≤ 15 := by rw [g]; exact (ok.le i).2.1
    have s := hf_set (C := C1) (i := i) (by omega)
    have hl := hf_len (C := C1) (i := i)
    repeat' (first | ((fail_if_success (refine atD ?_)); refine sts ?_) | refine And.intro ?_ ?_ | (intro e; exfalso; omega) | (intro e; subst e) | intro _)
    refine tail 14 ?_
    repeat' (first | refine sts ?_ | refine And.intro ?_ ?_ | (intro e; exfalso; omega) | (intro e; subst e) | intro _)
    rw [g, hd, s]
    exact again hK ⟨i + 1, by omega⟩
  obtain rfl : w = i := by omega
  rw [show hf C1 w = C1.map (· / 2) by rw [← l1]; exact hf_all]
  repeat' (first | refine sts ?_ | refine And.intro ?_ ?_ | (intro e; exfalso; omega) | (intro e; subst e) | intro _)
  refine hK1 _ _ (un fun K2 hK2 => ?_); (simp only [Int.reduceAdd]); (try simp only [Nat.reduceAdd]); (try simp only [Nat.mul_one])
  repeat' (first | refine sts ?_ | refine And.intro ?_ ?_ | (intro e; exfalso; omega) | (intro e; subst e) | intro _)
  refine TC.weak (env' := [(4, .int .i64 0), (3, .int .i64 2), (2, .pointer (some ⟨b4, 0, none⟩)), (1, .pointer (some ⟨b2, 0, none⟩))]) ?_ (by (repeat (first | exact Sub.nil | (apply Sub.cons; exact rfl))); done)
  refine tc_lp (ι := {i : Nat // i ≤ w}) [4] (fun e i => (4, .int .i64 (i.1 : Nat)) :: e) (fun i => [obj b2 31 [.int .i64 (w : Nat), .int .i64 0, .int .i64 (ad : Nat), .int .u64 (seed.toNat : Nat), .slice x0 w y0, .slice x1 w y1, .slice x2 w y2, .slice x3 w y3], obj b4 31 [.int .i64 0, .int .i64 0, .int .i64 0, .int .u64 0, .slice none 0 0, .slice none 0 0, .slice none 0 0, .slice none 0 0], Vec 3 1 x0 w y0 (i64n (C0.map (· / 2))), Vec 3 1 x1 w y1 (i64n (C1.map (· / 2))), Vec 3 1 x2 w y2 (i64n (hf C2 i.1)), Vec 3 1 x3 w y3 (i64n C3), F]) (fun i => w - i.1) ⟨0, by omega⟩ ?_ (hl := by dsimp only; rw [hf_zero]; exact en)
  rintro K ⟨i, hi⟩ hK
  dsimp only at hi ⊢
  by_cases hc : i < w
  · have g := hf_get (C := C2) (i := i) (by omega)
    have hb : (hf C2 i).getD i 0 ≤ 15 := by rw [g]; exact (ok.le i).2.2.1
    have s := hf_set (C := C2) (i := i) (by omega)
    have hl := hf_len (C := C2) (i := i)
    repeat' (first | ((fail_if_success (refine atD ?_)); refine sts ?_) | refine And.intro ?_ ?_ | (intro e; exfalso; omega) | (intro e; subst e) | intro _)
    refine tail 14 ?_
    repeat' (first | refine sts ?_ | refine And.intro ?_ ?_ | (intro e; exfalso; omega) | (intro e; subst e) | intro _)
    rw [g, hd, s]
    exact again hK ⟨i + 1, by omega⟩
  obtain rfl : w = i := by omega
  rw [show hf C2 w = C2.map (· / 2) by rw [← l2]; exact hf_all]
  repeat' (first | refine sts ?_ | refine And.intro ?_ ?_ | (intro e; exfalso; omega) | (intro e; subst e) | intro _)
  refine hK2 _ _ (un fun K3 hK3 => ?_); (simp only [Int.reduceAdd]); (try simp only [Nat.reduceAdd]); (try simp only [Nat.mul_one])
  repeat' (first | refine sts ?_ | refine And.intro ?_ ?_ | (intro e; exfalso; omega) | (intro e; subst e) | intro _)
  refine TC.weak (env' := [(4, .int .i64 0), (3, .int .i64 3), (2, .pointer (some ⟨b4, 0, none⟩)), (1, .pointer (some ⟨b2, 0, none⟩))]) ?_ (by (repeat (first | exact Sub.nil | (apply Sub.cons; exact rfl))); done)
  refine tc_lp (ι := {i : Nat // i ≤ w}) [4] (fun e i => (4, .int .i64 (i.1 : Nat)) :: e) (fun i => [obj b2 31 [.int .i64 (w : Nat), .int .i64 0, .int .i64 (ad : Nat), .int .u64 (seed.toNat : Nat), .slice x0 w y0, .slice x1 w y1, .slice x2 w y2, .slice x3 w y3], obj b4 31 [.int .i64 0, .int .i64 0, .int .i64 0, .int .u64 0, .slice none 0 0, .slice none 0 0, .slice none 0 0, .slice none 0 0], Vec 3 1 x0 w y0 (i64n (C0.map (· / 2))), Vec 3 1 x1 w y1 (i64n (C1.map (· / 2))), Vec 3 1 x2 w y2 (i64n (C2.map (· / 2))), Vec 3 1 x3 w y3 (i64n (hf C3 i.1)), F]) (fun i => w - i.1) ⟨0, by omega⟩ ?_ (hl := by dsimp only; rw [hf_zero]; exact en)
  rintro K ⟨i, hi⟩ hK
  dsimp only at hi ⊢
  by_cases hc : i < w
  · have g := hf_get (C := C3) (i := i) (by omega)
    have hb : (hf C3 i).getD i 0 ≤ 15 := by rw [g]; exact (ok.le i).2.2.2
    have s := hf_set (C := C3) (i := i) (by omega)
    have hl := hf_len (C := C3) (i := i)
    repeat' (first | ((fail_if_success (refine atD ?_)); refine sts ?_) | refine And.intro ?_ ?_ | (intro e; exfalso; omega) | (intro e; subst e) | intro _)
    refine tail 14 ?_
    repeat' (first | refine sts ?_ | refine And.intro ?_ ?_ | (intro e; exfalso; omega) | (intro e; subst e) | intro _)
    rw [g, hd, s]
    exact again hK ⟨i + 1, by omega⟩
  obtain rfl : w = i := by omega
  rw [show hf C3 w = C3.map (· / 2) by rw [← l3]; exact hf_all]
  repeat' (first | refine sts ?_ | refine And.intro ?_ ?_ | (intro e; exfalso; omega) | (intro e; subst e) | intro _)
  refine hK3 _ _ (un0 fun K => ?_); (simp only [Int.reduceAdd]); (try simp only [Nat.reduceAdd]); (try simp only [Nat.mul_one])
  repeat' (first | refine sts ?_ | refine And.intro ?_ ?_ | (intro e; exfalso; omega) | (intro e; subst e) | intro _)
  rw [hd]
  refine frz x0 ?_
  refine frz x1 ?_
  refine frz x2 ?_
  refine frz x3 ?_
  exact ra1 ((x0, y0), (x1, y1), (x2, y2), x3, y3) rfl⟩
end Go.Proofs.YtdpiglociolagaaGreat

/- The reference of sketch, walked: counters counted up; a new one. -/
namespace Go.Proofs.YtdpiglociolagaaGreat
open Go.Lk Go.Sl Go.Ty
attribute [local irreducible] TK TL TC Th Bk Nx fnPost WA TQ OpQ OpN SpecH Rd Ent IterH RoundH Rb Rp fnPostM
attribute [local irreducible] Ty.shS Ty.sumB Ty.plS Ty.at64 Ty.cAdd
set_option maxHeartbeats 16000000 in
instance tyr_sadd : Known Tryz.prog 129 (∀ (a0 a1 a2 a3 : Option Addr) (w k0 k1 k2 k3 ad : Nat) (seed : BitVec 64) (C0 C1 C2 C3 : List Nat) (k : Nat), SkL w C0 C1 C2 C3 → ad ≤ 100000 → SpecH Tryz.prog 129 #[.agg #[.int .i64 (w : Nat), .int .i64 0, .int .i64 (ad : Nat), .int .u64 (seed.toNat : Nat), .slice a0 w k0, .slice a1 w k1, .slice a2 w k2, .slice a3 w k3], .string (txt k)] [RoS 1 a0 w k0 (i64n C0), RoS 1 a1 w k1 (i64n C1), RoS 1 a2 w k2 (i64n C2), RoS 1 a3 w k3 (i64n C3)] (fun q : S4 => .tuple #[.agg #[.int .i64 (w : Nat), .int .i64 0, .int .i64 (ad + 1 : Nat), .int .u64 (seed.toNat : Nat), .slice q.1.1 w q.1.2, .slice q.2.1.1 w q.2.1.2, .slice q.2.2.1.1 w q.2.2.1.2, .slice q.2.2.2.1 w q.2.2.2.2], .bool false]) (fun q => [RoS 1 q.1.1 w q.1.2 (i64n (cAdd C0 (plS (sumB seed (txt k)) w 0))), RoS 1 q.2.1.1 w q.2.1.2 (i64n (cAdd C1 (plS (sumB seed (txt k)) w 1))), RoS 1 q.2.2.1.1 w q.2.2.1.2 (i64n (cAdd C2 (plS (sumB seed (txt k)) w 2))), RoS 1 q.2.2.2.1 w q.2.2.2.2 (i64n (cAdd C3 (plS (sumB seed (txt k)) w 3)))])) := ⟨fun a0 a1 a2 a3 w k0 k1 k2 k3 ad seed C0 C1 C2 C3 k ok had => by
  obtain ⟨hw1, hw2⟩ := ok.wb
  have l0 := ok.l0
  have l1 := ok.l1
  have l2 := ok.l2
  have l3 := ok.l3
  have p0 := plS_lt (h := (sumB seed (txt k))) (w := w) (r := 0) (by omega)
  have b0 := (ok.le (plS (sumB seed (txt k)) w 0)).1
  have c0 := cAdd_min b0
  have p1 := plS_lt (h := (sumB seed (txt k))) (w := w) (r := 1) (by omega)
  have b1 := (ok.le (plS (sumB seed (txt k)) w 1)).2.1
  have c1 := cAdd_min b1
  have p2 := plS_lt (h := (sumB seed (txt k))) (w := w) (r := 2) (by omega)
  have b2 := (ok.le (plS (sumB seed (txt k)) w 2)).2.2.1
  have c2 := cAdd_min b2
  have p3 := plS_lt (h := (sumB seed (txt k))) (w := w) (r := 3) (by omega)
  have b3 := (ok.le (plS (sumB seed (txt k)) w 3)).2.2.2
  have c3 := cAdd_min b3
  have hm : ∀ n : Nat, min (15 : Int) ((n : Int) + 1) = ((min 15 (n + 1) : Nat) : Int) := fun n => by omega
  refine spec_of Tryz.func129 rfl Tryz.ntmps129 rfl [(0, _), (1, _)] rfl ?_; intro base F l0 hl0; (try simp only [List.cons_append] at hl0); (try simp only [List.nil_append] at hl0); subst hl0
  repeat' (first | refine sts ?_ | refine And.intro ?_ ?_ | (intro e; exfalso; omega) | (intro e; subst e) | intro _)
  rename_i b2 b4 x y b6
  obtain ⟨x0, y0⟩ := x
  obtain ⟨⟨x1, y1⟩, ⟨x2, y2⟩, x3, y3⟩ := y
  dsimp only
  refine tc_un 4 (un fun K0 hK0 => ?_)
  repeat' (first | ((fail_if_success (refine atD ?_)); refine sts ?_) | refine And.intro ?_ ?_ | (intro e; exfalso; omega) | (intro e; subst e) | intro _)
  refine tail 19 ?_
  repeat' (first | refine sts ?_ | refine And.intro ?_ ?_ | (intro e; exfalso; omega) | (intro e; subst e) | intro _)
  rw [hm]
  repeat' (first | refine sts ?_ | refine And.intro ?_ ?_ | (intro e; exfalso; omega) | (intro e; subst e) | intro _)
  rw [c0]
  refine hK0 _ _ (un fun K1 hK1 => ?_); (simp only [Int.reduceAdd, Nat.reduceAdd, Nat.mul_one])
  repeat' (first | ((fail_if_success (refine atD ?_)); refine sts ?_) | refine And.intro ?_ ?_ | (intro e; exfalso; omega) | (intro e; subst e) | intro _)
  refine tail 19 ?_
  repeat' (first | refine sts ?_ | refine And.intro ?_ ?_ | (intro e; exfalso; omega) | (intro e; subst e) | intro _)
  rw [hm]
  repeat' (first | refine sts ?_ | refine And.intro ?_ ?_ | (intro e; exfalso; omega) | (intro e; subst e) | intro _)
  rw [c1]
  refine hK1 _ _ (un fun K2 hK2 => ?_); (simp only [Int.reduceAdd, Nat.reduceAdd, Nat.mul_one])
  repeat' (first | ((fail_if_success (refine atD ?_)); refine sts ?_) | refine And.intro ?_ ?_ | (intro e; exfalso; omega) | (intro e; subst e) | intro _)
  refine tail 19 ?_
  repeat' (first | refine sts ?_ | refine And.intro ?_ ?_ | (intro e; exfalso; omega) | (intro e; subst e) | intro _)
  rw [hm]
  repeat' (first | refine sts ?_ | refine And.intro ?_ ?_ | (intro e; exfalso; omega) | (intro e; subst e) | intro _)
  rw [c2]
  refine hK2 _ _ (un fun K3 hK3 => ?_); (simp only [Int.reduceAdd, Nat.reduceAdd, Nat.mul_one])
  repeat' (first | ((fail_if_success (refine atD ?_)); refine sts ?_) | refine And.intro ?_ ?_ | (intro e; exfalso; omega) | (intro e; subst e) | intro _)
  refine tail 19 ?_
  repeat' (first | refine sts ?_ | refine And.intro ?_ ?_ | (intro e; exfalso; omega) | (intro e; subst e) | intro _)
  rw [hm]
  repeat' (first | refine sts ?_ | refine And.intro ?_ ?_ | (intro e; exfalso; omega) | (intro e; subst e) | intro _)
  rw [c3]
  refine hK3 _ _ (un0 fun K => ?_); (simp only [Int.reduceAdd, Nat.reduceAdd, Nat.mul_one])
  repeat' (first | refine sts ?_ | refine And.intro ?_ ?_ | (intro e; exfalso; omega) | (intro e; subst e) | intro _)
  rw [show (ad : Int) + 1 = ((ad + 1 : Nat) : Int) from rfl]
  refine frz x0 ?_
  refine frz x1 ?_
  refine frz x2 ?_
  refine frz x3 ?_
  exact ra2 ((x0, y0), (x1, y1), (x2, y2), x3, y3) rfl⟩
end Go.Proofs.YtdpiglociolagaaGreat

/- The references of sketch and bloom, walked: new ones; places. -/
namespace Go.Ty
theorem pow_facts {e j n w : Nat} (hn : n = 2 ^ j) (hw : w = 2 ^ e) : (j < e → n < w) ∧ (j = e → n = w) ∧ (e < j → w < n) ∧ n * 2 = 2 ^ (j + 1) ∧ 0 < n := by
  subst hn; subst hw
  exact ⟨fun h => Nat.pow_lt_pow_right (by decide) h, fun h => by rw [h], fun h => Nat.pow_lt_pow_right (by decide) h, by rw [Nat.pow_succ], Nat.pow_pos (by decide)⟩
theorem pow_le_of {j b : Nat} (h : j ≤ b) : 2 ^ j ≤ 2 ^ b := Nat.pow_le_pow_right (by decide) h
end Go.Ty
namespace Go.Proofs.YtdpiglociolagaaGreat
open Go.Lk Go.Sl Go.Ty
attribute [local irreducible] TK TL TC Th Bk Nx fnPost WA TQ OpQ OpN SpecH Rd Ent IterH RoundH Rb Rp fnPostM
attribute [local irreducible] Ty.shS Ty.sumB Ty.plS Ty.at64 Ty.cAdd
set_option maxHeartbeats 8000000 in
instance tyr_snew : Known Tryz.prog 47 (∀ (xw : Int) (w : Nat) [NatI xw w] (x : Int) (seed : BitVec 64) [BV x seed], (∃ e, 4 ≤ e ∧ e ≤ 16 ∧ w = 2 ^ e) → SpecH Tryz.prog 47 #[.int .i64 xw, .int .u64 x, .int .i64 0] [] (fun q : Nat × Nat × Nat × Nat => .tuple #[.agg #[.int .i64 (w : Nat), .int .i64 0, .int .i64 0, .int .u64 (seed.toNat : Nat), .slice (some ⟨q.1, 0, none⟩) w w, .slice (some ⟨q.2.1, 0, none⟩) w w, .slice (some ⟨q.2.2.1, 0, none⟩) w w, .slice (some ⟨q.2.2.2, 0, none⟩) w w], .int .i64 0]) (fun q => [RoS 1 (some ⟨q.1, 0, none⟩) w w (i64n (List.replicate w 0)), RoS 1 (some ⟨q.2.1, 0, none⟩) w w (i64n (List.replicate w 0)), RoS 1 (some ⟨q.2.2.1, 0, none⟩) w w (i64n (List.replicate w 0)), RoS 1 (some ⟨q.2.2.2, 0, none⟩) w w (i64n (List.replicate w 0))])) := ⟨fun xw w _ x seed _ hpw => by
  obtain rfl : xw = (w : Int) := NatI.out
  obtain rfl : x = ((seed.toNat : Nat) : Int) := BV.out
  obtain ⟨e, he1, he2, he3⟩ := hpw
  obtain ⟨hw1, hw2, _⟩ := pow_le16 ⟨he1, he2, he3⟩
  refine spec_of Tryz.func47 rfl Tryz.ntmps47 rfl [(0, _), (1, _), (2, _)] rfl ?_; intro base F l0 hl0; (try simp only [List.cons_append] at hl0); (try simp only [List.nil_append] at hl0); subst hl0
  repeat' (first | refine sts ?_ | refine And.intro ?_ ?_ | (intro e; exfalso; omega) | (intro e; subst e) | intro _)
  refine tc_lp (ι := {q : Nat × Nat × Bool // q.1 ≤ 17 ∧ q.2.1 = 2 ^ q.1 ∧ q.2.2 = decide (e < q.1)}) [8, 9] (fun en q => (8, .bool q.1.2.2) :: (9, .int .i64 (q.1.2.1 : Nat)) :: en) (fun _ => _) (fun q => 17 - q.1.1) ⟨(4, 16, false), by omega, rfl, (decide_eq_false (by omega)).symm⟩ ?_ (hl := Ent.refl _)
  rintro K ⟨⟨j, n, b⟩, hj, hn, hb⟩ hK
  dsimp only at hj hn hb ⊢
  obtain ⟨f1, f2, f3, f4, f5⟩ := pow_facts hn he3
  by_cases hc : j ≤ 16
  · have hn2 : n ≤ 65536 := by rw [hn]; exact pow_le_of (b := 16) hc
    rcases Nat.lt_trichotomy j e with h | h | h
    · rw [decide_eq_false (by omega)] at hb
      subst hb
      have g := f1 h
      have d : false = decide (e < j + 1) := (decide_eq_false (by omega)).symm
      clear f1 f2 f3 hn2
      repeat' (first | refine sts ?_ | refine And.intro ?_ ?_ | (intro e; exfalso; omega) | (intro e; subst e) | intro _)
      exact again hK ⟨(j + 1, n * 2, false), by dsimp only; omega, f4, d⟩
    · rw [decide_eq_false (by omega)] at hb
      subst hb
      have g := f2 h
      have d : true = decide (e < j + 1) := (decide_eq_true (by omega)).symm
      clear f1 f2 f3 hn2
      repeat' (first | refine sts ?_ | refine And.intro ?_ ?_ | (intro e; exfalso; omega) | (intro e; subst e) | intro _)
      exact again hK ⟨(j + 1, n * 2, true), by dsimp only; omega, f4, d⟩
    · rw [decide_eq_true (by omega)] at hb
      subst hb
      have d : true = decide (e < j + 1) := (decide_eq_true (by omega)).symm
      clear f1 f2 f3
      repeat' (first | refine sts ?_ | refine And.intro ?_ ?_ | (intro e; exfalso; omega) | (intro e; subst e) | intro _)
      exact again hK ⟨(j + 1, n * 2, true), by dsimp only; omega, f4, d⟩
  · obtain rfl : j = 17 := by omega
    have hn2 : n = 131072 := hn
    rw [decide_eq_true (by omega)] at hb
    subst hb; subst hn2
    clear f1 f2 f3
    repeat' (first | refine sts ?_ | refine And.intro ?_ ?_ | (intro e; exfalso; omega) | (intro e; subst e) | intro _)
    rename_i b6 b10
    refine tc_un 4 (un fun K0 hK0 => ?_)
    repeat' (first | refine sts ?_ | refine And.intro ?_ ?_ | (intro e; exfalso; omega) | (intro e; subst e) | intro _)
    rename_i x0
    refine hK0 _ _ (un fun K1 hK1 => ?_); (simp only [Int.reduceAdd, Nat.reduceAdd, Nat.mul_one, i64n_zero])
    repeat' (first | refine sts ?_ | refine And.intro ?_ ?_ | (intro e; exfalso; omega) | (intro e; subst e) | intro _)
    rename_i x1
    refine hK1 _ _ (un fun K2 hK2 => ?_); (simp only [Int.reduceAdd, Nat.reduceAdd, Nat.mul_one, i64n_zero])
    repeat' (first | refine sts ?_ | refine And.intro ?_ ?_ | (intro e; exfalso; omega) | (intro e; subst e) | intro _)
    rename_i x2
    refine hK2 _ _ (un fun K3 hK3 => ?_); (simp only [Int.reduceAdd, Nat.reduceAdd, Nat.mul_one, i64n_zero])
    repeat' (first | refine sts ?_ | refine And.intro ?_ ?_ | (intro e; exfalso; omega) | (intro e; subst e) | intro _)
    rename_i x3
    refine hK3 _ _ (un0 fun K => ?_); (simp only [Int.reduceAdd, Nat.reduceAdd, Nat.mul_one, i64n_zero])
    repeat' (first | refine sts ?_ | refine And.intro ?_ ?_ | (intro e; exfalso; omega) | (intro e; subst e) | intro _)

    refine frz (some ⟨x0, 0, none⟩) ?_
    refine frz (some ⟨x1, 0, none⟩) ?_
    refine frz (some ⟨x2, 0, none⟩) ?_
    refine frz (some ⟨x3, 0, none⟩) ?_
    exact ra2 (x0, x1, x2, x3) rfl⟩
end Go.Proofs.YtdpiglociolagaaGreat
