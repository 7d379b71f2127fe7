/- TyB: SlStr, TyTheory, TyCells, TyW1, TyW2, TyW3, TyW4. -/
import Derived.Test.YtdpiglociolagaaGreatSlW
import Derived.Test.YtdpiglociolagaaGreatLkA
import Derived.Test.YtdpiglociolagaaGreatSlD
import Derived.Test.YtdpiglociolagaaGreatSlTypes
import Derived.Test.YtdpiglociolagaaGreatSlEnd2
import Derived.Test.YtdpiglociolagaaGreatSlClone
/- Strings and bytes; copy and clear. For whatever program. -/
namespace Go.Sl
section
variable {r : Option Nat} {P : Program} {n : Nat} {ds : List Deferred} {env : Env} {lc l l' : List HP} {all : Array Oper}
variable {dst : Option Tmp} {ty : TypeId} {pos : String} {af : Array Edge} {g : Option (Nat × Bool)} {size bytes : Nat}
theorem opq_lenS {t : TypeId} {x : Operand} {s : ByteArray} (hw : Want all ⟨dst, .call ⟨.builtin .len, #[x], #[t]⟩, ty, pos, af, g⟩ env) (hx : ev env x = some (.string s)) [hu : UL P t .string] : OpQ r P all ⟨dst, .call ⟨.builtin .len, #[x], #[t]⟩, ty, pos, af, g⟩ n ds env lc (.int .i64 (s.size : Nat)) :=
  opq_pure hw (by simp) fun ac w ha => by
    have h1 := ha.ev (x := x) (by simp [Op.operands, Call.operands]) hx
    refine execOp_builtin fun C => ?_
    simp [builtin, h1, Builtin.len_, run_underlying hu.out, goInt]
def byteAt (s : ByteArray) (m : Nat) : UInt8 := s.data.toList.getD m 0
theorem opq_ixS {t : TypeId} {x y : Operand} {s : ByteArray} {k : IntKind} {i : Int} {m : Nat} (hw : Want all ⟨dst, .index t x y, ty, pos, af, g⟩ env) (hx : ev env x = some (.string s)) (hy : ev env y = some (.int k i)) (hi : NatI i m) [hu : UL P t .string] (h1 : m < s.size) :
    OpQ r P all ⟨dst, .index t x y, ty, pos, af, g⟩ n ds env lc (.int .u8 ((byteAt s m).toNat : Nat)) :=
  opq_pure hw (by simp) fun a w ha => by
    have e1 := ha.ev (x := x) (by simp [Op.operands]) hx
    have e2 := ha.ev (x := y) (by simp [Op.operands]) hy
    have e3 := hi.out
    subst e3
    have e4 : s[m]? = some (byteAt s m) := by
      have h2 : m < s.data.toList.length := by simpa using h1
      rw [getElem?_pos s m h1]
      unfold byteAt
      rw [List.getD_eq_getElem?_getD, List.getElem?_eq_getElem h2]
      rfl
    simp [execOp, e1, e2, Instr.index, asIntOf, run_underlying hu.out, e4]
def strOf (zs : List Int) : ByteArray := ⟨(zs.map fun z => UInt8.ofNat z.toNat).toArray⟩
theorem push_fold : ∀ (zs : List Int) (s : ByteArray), zs.foldl (fun (b : ByteArray) (a : Int) => ({ data := b.data.push (UInt8.ofNat a.toNat) } : ByteArray)) s = ⟨s.data ++ (zs.map fun z => UInt8.ofNat z.toNat).toArray⟩
  | [], s => by simp
  | z :: zs, s => by
    rw [List.foldl_cons, push_fold zs]
    simp
theorem run_bytesToString {w : World} {a : Addr} {len cap : Nat} {zs : List Int} (hl : zs.length = len) (hc : ∀ j v, (zs.map (Value.int .u8))[j]? = some v → w.cell? (a.add j) = some v) : (Conv.bytesToString (.slice (some a) len cap)).run P w = .ok (.string (strOf zs)) w := by
  have h2 := run_loadCells_list (P := P) w a (zs.map (.int .u8)) hc
  rw [List.length_map, hl] at h2
  have h3 := push_fold zs .empty
  simp [Conv.bytesToString, h2, ByteArray.push]
  rw [h3]
  unfold strOf
  congr 1
  show #[] ++ _ = _
  simp
theorem opq_str {s t e : TypeId} {x : Operand} {a : Addr} {len cap : Nat} {zs : List Int} {vs : List Value} (hw : Want all ⟨dst, .convert s t x, ty, pos, af, g⟩ env) (hx : ev env x = some (.slice (some a) len cap)) [hs : UL P s (.slice e)] [he : UL P e (.int .u8)] [hu : UL P t .string] (hr : Rd lc a vs) (hv : vs = zs.map (.int .u8)) (hl : zs.length = len) :
    OpQ r P all ⟨dst, .convert s t x, ty, pos, af, g⟩ n ds env lc (.string (strOf zs)) :=
  opq_run hw (by simp) fun base F ac w ha hst => by
    subst hv
    have h1 := ha.ev (x := x) (by simp [Op.operands]) hx
    have h2 := run_bytesToString (P := P) (cap := cap) hl ((hr.append F).cell hst)
    simp [execOp, h1, convert, run_underlying hs.out, run_underlying he.out, run_underlying hu.out, h2]
theorem zero_rows {z : Value} {zs : List Value} {k : Nat} (hz : IsCells z zs) : (Builtin.zeroCells z.cells k).toList = rows k fun _ => zs := by
  have e := hz.eq.1
  have hlen := rows_length (f := fun _ => zs) (sz := zs.length) (fun _ => rfl) k
  rw [e]
  refine List.ext_getElem? fun j => ?_
  by_cases hj : j < k * zs.length
  · have h0 : 0 < zs.length := by
      rcases Nat.eq_zero_or_pos zs.length with h | h
      · rw [h, Nat.mul_zero] at hj; omega
      · exact h
    have hm := Nat.mod_lt j h0
    rw [rows_get' (fun _ => rfl) hj, List.getElem?_eq_getElem hm]
    simp [Builtin.zeroCells, hj, hm]
  · rw [List.getElem?_eq_none (l := rows k fun _ => zs) (by rw [hlen]; omega)]
    simp [Builtin.zeroCells]; omega
theorem setL_mid : ∀ {vs pre cs : List Value}, vs.length = cs.length → setL (pre ++ cs) pre.length vs = pre ++ vs
  | [], pre, cs, h => by
    obtain rfl : cs = [] := List.eq_nil_of_length_eq_zero h.symm
    rfl
  | v :: vs, pre, cs, h => by
    cases cs with
    | nil => cases h
    | cons c cs =>
      have ih := setL_mid (vs := vs) (pre := pre ++ [v]) (cs := cs) (by simpa using h)
      simp only [setL]
      rw [List.set_append_right _ _ (by omega), Nat.sub_self, List.set_cons_zero, show pre ++ v :: cs = (pre ++ [v]) ++ cs by simp, show pre.length + 1 = (pre ++ [v]).length by simp, ih]
      simp
theorem setL_all {vs cs : List Value} (h : vs.length = cs.length) : setL cs 0 vs = vs := by
  have := setL_mid (pre := []) h
  simpa using this
theorem opn_clear {t e : TypeId} {x : Operand} {a : Option Addr} {k cap : Nat} {cs zs : List Value} {z : Value} {r1 : List HP} (hw : Want all ⟨dst, .call ⟨.builtin .clear, #[x], #[t]⟩, ty, pos, af, g⟩ env) (hx : ev env x = some (.slice a k cap)) [hu : UL P t (.slice e)] [hi : TI P e z size bytes] (hz : IsCells z zs) (hlz : zs.length = size)
    (hr : Rem l (Vec e size a k cap cs) r1) : OpN r P all ⟨dst, .call ⟨.builtin .clear, #[x], #[t]⟩, ty, pos, af, g⟩ n ds env l (fun _ : Unit => .tuple #[]) (fun _ => Vec e size a k cap (rows k fun _ => zs) :: r1) :=
  opn_run hw (by simp) fun base ac w ha hs => by
    have h1 := ha.ev (x := x) (by simp [Op.operands, Call.operands]) hx
    obtain ⟨i0, hi0, hz0, hs0, hb0⟩ := info_parts hi.out
    have hl1 : St base (Vec e size a k cap cs :: r1) w := hs.ent fun _ y => hr.out y
    have hrl : (rows k fun _ => zs).length = k * size := rows_length (fun _ => hlz) k
    rcases hs.vec hr with ⟨rfl, rfl, rfl, rfl⟩ | ⟨b, junk, rfl, hkc, hlc, hlj, hblk⟩
    · refine ⟨(), w, .inl (execOp_builtin fun C => ?_), hl1⟩
      simp [builtin, h1, Builtin.clear_, run_underlying hu.out]
    rcases Nat.eq_zero_or_pos k with rfl | h0
    · obtain rfl : cs = [] := List.eq_nil_of_length_eq_zero (by rw [hlc]; simp)
      refine ⟨(), w, .inl (execOp_builtin fun C => ?_), hl1⟩
      simp [builtin, h1, Builtin.clear_, run_underlying hu.out]
    · have hb1 := hblk.block (.here _ _)
      obtain ⟨w', hst, e1, e2, e3, e4⟩ := run_storeCells_set (P := P) (rows k fun _ => zs) 0 0 (cs ++ junk) w hb1 (by rw [hrl, List.length_append]; omega) (fun v hv => by
        obtain ⟨i, _, hv⟩ := List.mem_flatMap.1 hv
        exact hz.eq.2 v hv)
      refine ⟨(), w', .inl (execOp_builtin fun C => ?_), ?_⟩
      · obtain ⟨k, rfl⟩ : ∃ j, k = j + 1 := ⟨k - 1, by omega⟩
        have hzr := zero_rows (k := k + 1) hz
        rw [← hzr] at hst
        simp [builtin, h1, Builtin.clear_, run_underlying hu.out, zeroValue, typeInfo, hi0, hz0, hst]
      · refine St.vec_mk (junk := junk) hkc hrl (by rw [List.length_append, hrl, ← hlc, ← List.length_append]; exact hlj) ?_
        have hset := hblk.setBlock' (.here _ _) w' e1 e2 e3 e4
        rw [Nat.add_zero, setL_append (by rw [hrl]; omega), setL_all (by rw [hrl, hlc])] at hset
        exact hset
end
end Go.Sl

/- A hash; counters in words; bits in words. Plainly. No program, no condition. -/
namespace Go.Ty
/-! ### A hash -/
def foldB (h : BitVec 64) (bs : List UInt8) : BitVec 64 := bs.foldl (fun h b => (h ^^^ BitVec.ofNat 64 b.toNat) * 1099511628211#64) h
def mixB (w : BitVec 64) : BitVec 64 := (5#64 * (w ^^^ w >>> 29)) ^^^ (5#64 * (w ^^^ w >>> 29)) >>> 32
def sumB (seed : BitVec 64) (s : ByteArray) : BitVec 64 := mixB (foldB seed s.data.toList)
def txt (k : Nat) : ByteArray := ⟨#[UInt8.ofNat (k / 16777216), UInt8.ofNat (k / 65536), UInt8.ofNat (k / 256), UInt8.ofNat k]⟩
theorem foldB_take {h : BitVec 64} {bs : List UInt8} {i : Nat} (hi : i < bs.length) : foldB h (bs.take (i + 1)) = (foldB h (bs.take i) ^^^ BitVec.ofNat 64 (bs[i]).toNat) * 1099511628211#64 := by
  unfold foldB
  rw [List.take_succ_eq_append_getElem hi, List.foldl_append]; rfl
/-! ### Counters in words -/
def at64 (W : List (BitVec 64)) (j : Nat) : BitVec 64 := W.getD j 0#64
structure Pk (W : List (BitVec 64)) (C : List Nat) : Prop where
  len : C.length = 16 * W.length
  at_ : ∀ p, p < C.length → (at64 W (p / 16)).toNat / 16 ^ (p % 16) % 16 = C.getD p 0
theorem Pk.le15 {W : List (BitVec 64)} {C : List Nat} (h : Pk W C) {p : Nat} (hp : p < C.length) : C.getD p 0 ≤ 15 := by
  rw [← h.at_ p hp]; omega
theorem digit_add {w i j : Nat} (hc : w / 16 ^ i % 16 < 15) : (w + 16 ^ i) / 16 ^ j % 16 = if j = i then w / 16 ^ i % 16 + 1 else w / 16 ^ j % 16 := by
  have hp : ∀ n, 0 < 16 ^ n := fun n => Nat.pow_pos (by decide)
  have e1 : (w + 16 ^ i) / 16 ^ i = w / 16 ^ i + 1 := Nat.add_div_right _ (hp i)
  rcases Nat.lt_trichotomy j i with h | h | h
  · rw [if_neg (by omega)]
    obtain ⟨d, rfl⟩ : ∃ d, i = j + (d + 1) := ⟨i - j - 1, by omega⟩
    rw [Nat.pow_add, Nat.add_mul_div_left _ _ (hp j), Nat.pow_succ]
    omega
  · subst h
    rw [if_pos rfl, e1]; omega
  · rw [if_neg (by omega)]
    obtain ⟨d, rfl⟩ : ∃ d, j = i + (d + 1) := ⟨j - i - 1, by omega⟩
    rw [Nat.pow_add, ← Nat.div_div_eq_div_mul, ← Nat.div_div_eq_div_mul, e1, Nat.pow_succ, Nat.mul_comm (16 ^ d) 16, ← Nat.div_div_eq_div_mul, ← Nat.div_div_eq_div_mul]
    congr 2
    omega
theorem digit_lt {w i : Nat} (hi : i < 16) (hw : w < 18446744073709551616) (hc : w / 16 ^ i % 16 < 15) : w + 16 ^ i < 18446744073709551616 := by
  have hp : 0 < 16 ^ i := Nat.pow_pos (by decide)
  have h1 : w / 16 ^ (i + 1) * 16 ^ (i + 1) + w % 16 ^ (i + 1) = w := by rw [Nat.mul_comm]; exact Nat.div_add_mod _ _
  have h2 : w % 16 ^ (i + 1) + 16 ^ i < 16 ^ (i + 1) := by
    have e : w % 16 ^ (i + 1) / 16 ^ i = w / 16 ^ i % 16 := by rw [Nat.pow_succ, Nat.mod_mul_right_div_self]
    have h3 : w % 16 ^ (i + 1) < 16 ^ i * 15 := by
      rw [Nat.mul_comm]
      exact (Nat.div_lt_iff_lt_mul hp).1 (by rw [e]; exact hc)
    have e2 : 16 ^ (i + 1) = 16 ^ i * 16 := Nat.pow_succ ..
    omega
  obtain ⟨d, hd⟩ : ∃ d, 16 = i + 1 + d := ⟨15 - i, by omega⟩
  have e64 : 18446744073709551616 = 16 ^ d * 16 ^ (i + 1) := by rw [← Nat.pow_add, show d + (i + 1) = 16 by omega]
  have h4 : w / 16 ^ (i + 1) < 16 ^ d := (Nat.div_lt_iff_lt_mul (Nat.pow_pos (by decide))).2 (by rw [← e64]; exact hw)
  have h5 : (w / 16 ^ (i + 1) + 1) * 16 ^ (i + 1) ≤ 16 ^ d * 16 ^ (i + 1) := Nat.mul_le_mul_right _ h4
  rw [e64]
  rw [Nat.add_mul, Nat.one_mul] at h5
  omega
theorem at64_set {W : List (BitVec 64)} {j q : Nat} {v : BitVec 64} (hj : j < W.length) : at64 (W.set j v) q = if q = j then v else at64 W q := by
  unfold at64
  rw [List.getD_eq_getElem?_getD, List.getD_eq_getElem?_getD, List.getElem?_set]
  by_cases e : j = q
  · subst e; rw [if_pos rfl, if_pos rfl, if_pos hj]; rfl
  · rw [if_neg e, if_neg (fun h => e h.symm)]
theorem getD_set {C : List Nat} {p q v : Nat} (hp : p < C.length) : (C.set p v).getD q 0 = if q = p then v else C.getD q 0 := by
  rw [List.getD_eq_getElem?_getD, List.getD_eq_getElem?_getD, List.getElem?_set]
  by_cases e : p = q
  · subst e; rw [if_pos rfl, if_pos rfl, if_pos hp]; rfl
  · rw [if_neg e, if_neg (fun h => e h.symm)]
theorem toNat_add_shl {w : BitVec 64} {i : Nat} (hi : i < 16) (hc : w.toNat / 16 ^ i % 16 < 15) : (w + 1#64 <<< (i * 4)).toNat = w.toNat + 16 ^ i := by
  have h1 := digit_lt hi w.isLt hc
  have h2 : (1#64 <<< (i * 4)).toNat = 16 ^ i := by
    rw [BitVec.toNat_shiftLeft, show (1#64).toNat = 1 from rfl, Nat.shiftLeft_eq, Nat.one_mul, Nat.mul_comm i 4, Nat.pow_mul]
    exact Nat.mod_eq_of_lt (by show 16 ^ i < 2 ^ 64; have : w.toNat + 16 ^ i < 2 ^ 64 := h1; omega)
  rw [BitVec.toNat_add, h2]
  exact Nat.mod_eq_of_lt h1
theorem Pk.add {W : List (BitVec 64)} {C : List Nat} {p : Nat} (h : Pk W C) (hp : p < C.length) (hc : C.getD p 0 < 15) : Pk (W.set (p / 16) (at64 W (p / 16) + 1#64 <<< (p % 16 * 4))) (C.set p (C.getD p 0 + 1)) := by
  have hl := h.len
  have hj : p / 16 < W.length := by omega
  refine ⟨by rw [List.length_set, List.length_set, hl], fun q hq => ?_⟩
  rw [List.length_set] at hq
  have hpa := h.at_ p hp
  rw [at64_set hj, getD_set hp]
  by_cases e : q / 16 = p / 16
  · rw [if_pos e, toNat_add_shl (by omega) (by rw [hpa]; exact hc), digit_add (by rw [hpa]; exact hc)]
    by_cases e2 : q = p
    · subst e2; rw [if_pos rfl, if_pos rfl, hpa]
    · rw [if_neg (by omega), if_neg e2, ← e]
      exact h.at_ q hq
  · rw [if_neg e, if_neg (by intro x; subst x; exact e rfl)]
    exact h.at_ q hq
def halfW (w : BitVec 64) : BitVec 64 := (w >>> 1) &&& 8608480567731124087#64
theorem low_bit : ∀ i, i < 16 → ∀ b, b < 4 → (8608480567731124087#64).getLsbD (4 * i + b) = decide (b < 3) := by decide
theorem digit_bit {w i b : Nat} : (w / 16 ^ i % 16).testBit b = (decide (b < 4) && w.testBit (4 * i + b)) := by
  rw [show (16 : Nat) = 2 ^ 4 from rfl, Nat.testBit_mod_two_pow, ← Nat.pow_mul, Nat.testBit_div_two_pow]
  congr 2; omega
theorem digit_half {w : BitVec 64} {i : Nat} (hi : i < 16) : (halfW w).toNat / 16 ^ i % 16 = w.toNat / 16 ^ i % 16 / 2 := by
  refine Nat.eq_of_testBit_eq fun b => ?_
  rw [digit_bit, Nat.testBit_div_two, digit_bit]
  by_cases hb : b < 4
  · unfold halfW
    rw [BitVec.testBit_toNat, BitVec.getLsbD_and, BitVec.getLsbD_ushiftRight, low_bit i hi b hb, BitVec.testBit_toNat, show 1 + (4 * i + b) = 4 * i + (b + 1) by omega]
    by_cases h3 : b < 3
    · rw [decide_eq_true hb, decide_eq_true h3, decide_eq_true (show b + 1 < 4 by omega)]; simp
    · rw [decide_eq_false h3, decide_eq_false (show ¬ b + 1 < 4 by omega)]; simp
  · rw [decide_eq_false hb, decide_eq_false (show ¬ b + 1 < 4 by omega)]; simp
theorem Pk.half {W : List (BitVec 64)} {C : List Nat} (h : Pk W C) : Pk (W.map halfW) (C.map (· / 2)) := by
  refine ⟨by rw [List.length_map, List.length_map, h.len], fun p hp => ?_⟩
  rw [List.length_map] at hp
  have hl := h.len
  have e1 : at64 (W.map halfW) (p / 16) = halfW (at64 W (p / 16)) := by
    unfold at64
    rw [List.getD_eq_getElem?_getD, List.getD_eq_getElem?_getD, List.getElem?_map, List.getElem?_eq_getElem (show p / 16 < W.length by omega)]; rfl
  have e2 : (C.map (· / 2)).getD p 0 = C.getD p 0 / 2 := by
    rw [List.getD_eq_getElem?_getD, List.getD_eq_getElem?_getD, List.getElem?_map, List.getElem?_eq_getElem hp]; rfl
  rw [e1, e2, digit_half (by omega), h.at_ p hp]
theorem Pk.zero {n : Nat} : Pk (List.replicate n 0#64) (List.replicate (16 * n) 0) := by
  refine ⟨by simp, fun p hp => ?_⟩
  rw [List.length_replicate] at hp
  have e1 : at64 (List.replicate n 0#64) (p / 16) = 0#64 := by
    unfold at64; rw [List.getD_eq_getElem?_getD, List.getElem?_replicate]; split <;> rfl
  have e2 : (List.replicate (16 * n) 0).getD p 0 = 0 := by
    rw [List.getD_eq_getElem?_getD, List.getElem?_replicate]; split <;> rfl
  rw [e1, e2]; simp
/-! ### Bits in words -/
structure Fb (W : List (BitVec 64)) (B : List Bool) : Prop where
  len : B.length = 64 * W.length
  at_ : ∀ p, p < B.length → (at64 W (p / 64)).getLsbD (p % 64) = B.getD p false
theorem getD_setB {B : List Bool} {p q : Nat} {v : Bool} (hp : p < B.length) : (B.set p v).getD q false = if q = p then v else B.getD q false := by
  rw [List.getD_eq_getElem?_getD, List.getD_eq_getElem?_getD, List.getElem?_set]
  by_cases e : p = q
  · subst e; rw [if_pos rfl, if_pos rfl, if_pos hp]; rfl
  · rw [if_neg e, if_neg (fun h => e h.symm)]
theorem one_bit {i j : Nat} (hi : i < 64) : (1#64 <<< i).getLsbD j = decide (j = i) := by
  rw [BitVec.getLsbD_shiftLeft, BitVec.getLsbD_one]
  by_cases h : j = i
  · subst h; simp [hi]
  · rw [decide_eq_false h]
    by_cases h2 : j < i
    · simp [h2]
    · simp; omega
theorem Fb.set {W : List (BitVec 64)} {B : List Bool} {p : Nat} (h : Fb W B) (hp : p < B.length) : Fb (W.set (p / 64) (at64 W (p / 64) ||| 1#64 <<< (p % 64))) (B.set p true) := by
  have hl := h.len
  have hj : p / 64 < W.length := by omega
  refine ⟨by rw [List.length_set, List.length_set, hl], fun q hq => ?_⟩
  rw [List.length_set] at hq
  rw [at64_set hj, getD_setB hp]
  by_cases e : q / 64 = p / 64
  · rw [if_pos e, BitVec.getLsbD_or, one_bit (by omega), ← e, h.at_ q hq]
    by_cases e2 : q = p
    · subst e2; simp
    · rw [if_neg e2, decide_eq_false (by omega)]; simp
  · rw [if_neg e, if_neg (by intro x; subst x; exact e rfl)]
    exact h.at_ q hq
theorem Fb.zero {n : Nat} : Fb (List.replicate n 0#64) (List.replicate (64 * n) false) := by
  refine ⟨by simp, fun p hp => ?_⟩
  have e1 : at64 (List.replicate n 0#64) (p / 64) = 0#64 := by
    unfold at64; rw [List.getD_eq_getElem?_getD, List.getElem?_replicate]; split <;> rfl
  have e2 : (List.replicate (64 * n) false).getD p false = false := by
    rw [List.getD_eq_getElem?_getD, List.getElem?_replicate]; split <;> rfl
  rw [e1, e2]; simp
theorem bit_ask {w : BitVec 64} {i : Nat} : ((w >>> i) &&& 1#64).toNat = if w.getLsbD i then 1 else 0 := by
  rw [BitVec.toNat_and, show (1#64).toNat = 2 ^ 1 - 1 from rfl, Nat.and_two_pow_sub_one_eq_mod, BitVec.toNat_ushiftRight, Nat.shiftRight_eq_div_pow, ← BitVec.testBit_toNat, Nat.testBit_eq_decide_div_mod_eq]
  have := Nat.mod_lt (w.toNat / 2 ^ i) (show 0 < 2 by decide)
  by_cases h : w.toNat / 2 ^ i % 2 = 1
  · rw [decide_eq_true h, if_pos rfl]; exact h
  · rw [decide_eq_false h, if_neg (by decide)]; omega
/-! ### Places -/
def plS (h : BitVec 64) (w r : Nat) : Nat := (h >>> (16 * r)).toNat % w
def bA (h : BitVec 64) : BitVec 64 := h &&& 4294967295#64
def bS (h : BitVec 64) : BitVec 64 := h >>> 32 ||| 1#64
def plB (h : BitVec 64) (n i : Nat) : Nat := (bA h + BitVec.ofNat 64 i * bS h).toNat % n
theorem plS_lt {h : BitVec 64} {w r : Nat} (hw : 0 < w) : plS h w r < w := Nat.mod_lt _ hw
theorem plB_lt {h : BitVec 64} {n i : Nat} (hw : 0 < n) : plB h n i < n := Nat.mod_lt _ hw
end Go.Ty

/- Words of 64 bits in memory; masks; the steps to use. For whatever program. -/
namespace Go.Sl
open Go.Ty
def w64 (W : List (BitVec 64)) : List Value := W.map fun w => .int .u64 (w.toNat : Nat)
instance (W : List (BitVec 64)) : Idx (w64 W) 1 W.length (fun i => [.int .u64 ((at64 W i).toNat : Nat)]) := ⟨fun i hi => ⟨rfl, fun j v hj => by
  cases j with
  | zero =>
    simp only [List.getElem?_cons_zero, Option.some.injEq] at hj
    subst hj
    simp [w64, at64, List.getElem?_map, List.getElem?_eq_getElem hi, List.getD_eq_getElem?_getD]
  | succ j => simp at hj⟩⟩
instance (W : List (BitVec 64)) : PlC (w64 W) := ⟨fun v hv => by
  obtain ⟨z, _, rfl⟩ := List.mem_map.1 hv
  rfl⟩
instance (W : List (BitVec 64)) (i : Nat) (x : Int) (a : BitVec 64) [h : BV x a] : SetC (w64 W) i 0 [.int .u64 x] 1 W.length (w64 (W.set i a)) := ⟨fun hi => ⟨by rw [h.out]; simp [w64, setL, List.map_set], by simp [w64]; omega⟩⟩
theorem w64_zero {n : Nat} : rows n (fun _ => [.int .u64 0]) = w64 (List.replicate n 0#64) := by
  rw [← rows_replicate]
  unfold w64
  rw [List.map_replicate]
  induction n with
  | zero => rfl
  | succ n ih => rw [List.replicate_succ, List.replicate_succ, List.flatten_cons, ih]; rfl
instance : BV 5 5#64 := ⟨rfl⟩
instance : BV 1099511628211 1099511628211#64 := ⟨rfl⟩
instance : BV 4294967295 4294967295#64 := ⟨rfl⟩
instance : BV 8608480567731124087 8608480567731124087#64 := ⟨rfl⟩
instance natI_mul (x y : Int) (i j : Nat) [h : NatI x i] [k : NatI y j] : NatI (x * y) (i * j) := ⟨by rw [h.out, k.out]; rfl⟩
instance natI_mod (x y : Int) (i j : Nat) [h : NatI x i] [k : NatI y j] : NatI (x % y) (i % j) := ⟨by rw [h.out, k.out]; rfl⟩
instance natI_div (x y : Int) (i j : Nat) [h : NatI x i] [k : NatI y j] : NatI (x / y) (i / j) := ⟨by rw [h.out, k.out]; rfl⟩
instance asNat_div (x y : Int) (i j : Nat) [h : NatI x i] [k : NatI y j] : AsNat (x / y) (i / j) := ⟨fun _ => by rw [h.out, k.out]; rfl⟩
instance asNat_mod (x y : Int) (i j : Nat) [h : NatI x i] [k : NatI y j] : AsNat (x % y) (i % j) := ⟨fun _ => by rw [h.out, k.out]; rfl⟩
class MaskI (j : Int) (m : outParam Nat) : Prop where
  out : j = (m : Int) - 1 ∧ ∃ e, e ≤ 62 ∧ m = 2 ^ e
instance : MaskI 15 16 := ⟨rfl, 4, by decide, rfl⟩
section
variable {r : Option Nat} {P : Program} {n : Nat} {ds : List Deferred} {env : Env} {lc : List HP} {all : Array Oper}
variable {dst : Option Tmp} {ty : TypeId} {pos : String} {af : Array Edge} {g : Option (Nat × Bool)}
theorem ofInt_wrap {a : BitVec 64} : BitVec.ofInt 64 (IntKind.i64.wrap (a.toNat : Int)) = a := by
  apply BitVec.eq_of_toNat_eq
  rw [BitVec.toNat_ofInt, IntKind.wrap_i64]
  have := a.isLt
  omega
theorem opq_andI {t yt : TypeId} {x y : Operand} {a : BitVec 64} {j : Int} {m : Nat} (hw : Want all ⟨dst, .binOp .and t x y yt, ty, pos, af, g⟩ env) (hx : ev env x = some (.int .i64 (IntKind.i64.wrap ((a.toNat : Nat) : Int)))) (hy : ev env y = some (.int .i64 j)) (hm : MaskI j m) : OpQ r P all ⟨dst, .binOp .and t x y yt, ty, pos, af, g⟩ n ds env lc (.int .i64 ((a.toNat % m : Nat) : Int)) :=
  opq_andK hw hx hy (by
    obtain ⟨e1, e, he, rfl⟩ := hm.out
    have h2 : (2 : Nat) ^ e ≤ 2 ^ 62 := Nat.pow_le_pow_right (by decide) he
    have h3 : 0 < (2 : Nat) ^ e := Nat.pow_pos (by decide)
    have h62 : (2 : Nat) ^ 62 = 4611686018427387904 := rfl
    have e2 : (BitVec.ofInt 64 j).toNat = 2 ^ e - 1 := by
      rw [BitVec.toNat_ofInt, e1]; omega
    show IntKind.i64.wrap ((BitVec.ofInt 64 (IntKind.i64.wrap (a.toNat : Int)) &&& BitVec.ofInt 64 j).toNat : Int) = _
    rw [ofInt_wrap, BitVec.toNat_and, e2, Nat.and_two_pow_sub_one_eq_mod]
    have h4 : a.toNat % 2 ^ e < 2 ^ e := Nat.mod_lt _ h3
    rw [IntKind.wrap_i64]; omega)
theorem opq_cvB {s t : TypeId} {x : Operand} {b : UInt8} {d : TypeDesc} (hw : Want all ⟨dst, .convert s t x, ty, pos, af, g⟩ env) (hx : ev env x = some (.int .u8 ((b.toNat : Nat) : Int))) [hs : UL P s d] [hu : UL P t (.int .u64)] : OpQ r P all ⟨dst, .convert s t x, ty, pos, af, g⟩ n ds env lc (.int .u64 (((BitVec.ofNat 64 b.toNat).toNat : Nat) : Int)) :=
  opq_as (opq_conv (k := .u64) hw hx) rfl
theorem opq_cvI {s t : TypeId} {x : Operand} {a : BitVec 64} {d : TypeDesc} (hw : Want all ⟨dst, .convert s t x, ty, pos, af, g⟩ env) (hx : ev env x = some (.int .u64 ((a.toNat : Nat) : Int))) [hs : UL P s d] [hu : UL P t (.int .i64)] : OpQ r P all ⟨dst, .convert s t x, ty, pos, af, g⟩ n ds env lc (.int .i64 (IntKind.i64.wrap ((a.toNat : Nat) : Int))) := opq_conv hw hx
theorem opq_add64 {t yt : TypeId} {x y : Operand} {i j : Int} {a b : BitVec 64} (hw : Want all ⟨dst, .binOp .add t x y yt, ty, pos, af, g⟩ env) (hx : ev env x = some (.int .u64 i)) (hy : ev env y = some (.int .u64 j)) (ha : BV i a) (hb : BV j b) : OpQ r P all ⟨dst, .binOp .add t x y yt, ty, pos, af, g⟩ n ds env lc (.int .u64 ((a + b).toNat : Nat)) :=
  opq_as (opq_add hw hx hy) (by
    congr 1
    rw [ha.out, hb.out, BitVec.toNat_add, wrap64]; omega)
theorem opq_shr32 {t yt : TypeId} {x y : Operand} {i j : Int} {q m : Nat} {k : IntKind} (hw : Want all ⟨dst, .binOp .shr t x y yt, ty, pos, af, g⟩ env) (hx : ev env x = some (.int .u32 i)) (hy : ev env y = some (.int k j)) (ha : NatI i q) (hb : NatI j m) (hm : m ≤ 32) : OpQ r P all ⟨dst, .binOp .shr t x y yt, ty, pos, af, g⟩ n ds env lc (.int .u32 ((q / 2 ^ m : Nat) : Int)) :=
  opq_bin hw hx hy (eqGuard_int _ _ _ _ _ _ _ _) fun w => by
    rw [ha.out, hb.out]
    have h1 : min (m : Int).toNat IntKind.u32.bits = m := by show min (m : Int).toNat 32 = m; omega
    have e : (q : Int).fdiv (2 ^ min (m : Int).toNat IntKind.u32.bits) = ((q / 2 ^ m : Nat) : Int) := by
      rw [h1, Int.fdiv_eq_ediv_of_nonneg _ (Int.pow_nonneg (by decide)), Int.natCast_ediv, Int.natCast_pow]; rfl
    have h0 : ¬ ((m : Int) < 0) := by omega
    have e2 : (binOp .shr t (.int .u32 (q : Int)) (.int k (m : Int))) = (pure (.int .u32 ((q : Int).fdiv (2 ^ min (m : Int).toNat IntKind.u32.bits))) : Sem Value) := by
      show Op.shift .shr .u32 _ k _ = _
      unfold Op.shift
      rw [if_neg h0]
    rw [e2, e]; rfl
class BytesC (vs : List Value) (zs : outParam (List Int)) : Prop where
  out : vs = zs.map (.int .u8)
instance : BytesC [] [] := ⟨rfl⟩
instance (z : Int) (vs : List Value) (zs : List Int) [h : BytesC vs zs] : BytesC (.int .u8 z :: vs) (z :: zs) := ⟨by rw [h.out]; rfl⟩
theorem opq_strV {s t e : TypeId} {x : Operand} {b len cap E : Nat} {zs : List Int} {vs : List Value} {r1 : List HP} (hw : Want all ⟨dst, .convert s t x, ty, pos, af, g⟩ env) (hx : ev env x = some (.slice (some ⟨b, 0, none⟩) len cap)) [hs : UL P s (.slice e)] [he : UL P e (.int .u8)] [hu : UL P t .string] (hr : Rem lc (Vec E 1 (some ⟨b, 0, none⟩) len cap vs) r1) (hv : BytesC vs zs) (hl : zs.length = len) :
    OpQ r P all ⟨dst, .convert s t x, ty, pos, af, g⟩ n ds env lc (.string (strOf zs)) := opq_str hw hx (rd_vec hr) hv.out hl
end
section
variable {r : Option Nat} {P : Program} {base : World} {n : Nat} {ds : List Deferred} {Q : Exit → Act → World → Prop} {env : Env} {lc l : List HP}
theorem stSt {g q : Prop} (h : q → g := by
  first | (show _ → TL _ _ _ _ _ _ _ _ _ _) | (show _ → TQ _ _ _ _ _ _ _ _ _) | fail
  first
  | (apply tl_q; (focus (first | (apply opq_cvB; (focus ((first | exact want_none rfl | exact want_yes rfl rfl rfl rfl rfl | fail))); exact rfl) | (apply opq_add64; (focus ((first | exact want_none rfl | exact want_yes rfl rfl rfl rfl rfl | fail))); exact rfl; exact rfl; (focus (infer_instance)); (focus (infer_instance))) | (apply opq_andI; (focus ((first | exact want_none rfl | exact want_yes rfl rfl rfl rfl rfl | fail))); exact rfl; exact rfl; (focus (infer_instance))) | (apply opq_cvI; (focus ((first | exact want_none rfl | exact want_yes rfl rfl rfl rfl rfl | fail))); exact rfl) | (apply opq_lenS; (focus ((first | exact want_none rfl | exact want_yes rfl rfl rfl rfl rfl | fail))); exact rfl) | (apply opq_ixS; (focus ((first | exact want_none rfl | exact want_yes rfl rfl rfl rfl rfl | fail))); exact rfl; exact rfl; (focus (infer_instance)); (focus (omega))) | (apply opq_shr32; (focus ((first | exact want_none rfl | exact want_yes rfl rfl rfl rfl rfl | fail))); exact rfl; exact rfl; (focus (infer_instance)); (focus (infer_instance)); (focus (omega))) | (apply opq_strV; (focus ((first | exact want_none rfl | exact want_yes rfl rfl rfl rfl rfl | fail))); exact rfl; (focus ((repeat (first | (with_reducible exact Rem.here _ _) | (with_reducible apply Rem.there) | fail)); done)); (focus (infer_instance)); exact rfl) | fail)); exact rfl; exact Nat.lt_of_ble_eq rfl)
  | (apply tq_cons; (focus (first | (apply opq_cvB; (focus ((first | exact want_none rfl | exact want_yes rfl rfl rfl rfl rfl | fail))); exact rfl) | (apply opq_add64; (focus ((first | exact want_none rfl | exact want_yes rfl rfl rfl rfl rfl | fail))); exact rfl; exact rfl; (focus (infer_instance)); (focus (infer_instance))) | (apply opq_andI; (focus ((first | exact want_none rfl | exact want_yes rfl rfl rfl rfl rfl | fail))); exact rfl; exact rfl; (focus (infer_instance))) | (apply opq_cvI; (focus ((first | exact want_none rfl | exact want_yes rfl rfl rfl rfl rfl | fail))); exact rfl) | (apply opq_lenS; (focus ((first | exact want_none rfl | exact want_yes rfl rfl rfl rfl rfl | fail))); exact rfl) | (apply opq_ixS; (focus ((first | exact want_none rfl | exact want_yes rfl rfl rfl rfl rfl | fail))); exact rfl; exact rfl; (focus (infer_instance)); (focus (omega))) | (apply opq_shr32; (focus ((first | exact want_none rfl | exact want_yes rfl rfl rfl rfl rfl | fail))); exact rfl; exact rfl; (focus (infer_instance)); (focus (infer_instance)); (focus (omega))) | (apply opq_strV; (focus ((first | exact want_none rfl | exact want_yes rfl rfl rfl rfl rfl | fail))); exact rfl; (focus ((repeat (first | (with_reducible exact Rem.here _ _) | (with_reducible apply Rem.there) | fail)); done)); (focus (infer_instance)); exact rfl) | fail)); exact rfl)
  | fail) : q → g := h
theorem sts {g q : Prop} (x : q) (h : q → g := by first | exact stSt | exact stZ | exact stL | exact stC | exact stK | exact stQ | exact stML | exact stB | exact stBl | exact stP | exact stZE | fail) : g := h x
theorem stsD {g q : Prop} (x : q) (h : q → g := by first | exact stSt | exact stZ | exact stDL | exact stDC | exact stDK | exact stDQ | exact stML | exact stB | exact stBlD | exact stP | exact stZD | fail) : g := h x
end
end Go.Sl

/- The hash and its reference, walked. -/
namespace Go.Proofs.YtdpiglociolagaaGreat
open Go.Lk Go.Sl Go.Ty
attribute [local irreducible] TK TL TC Th Bk Nx fnPost WA TQ OpQ OpN SpecH Rd Ent IterH RoundH Rb Rp fnPostM
instance ty_mix : Known Tryz.prog 140 (∀ (x : Int) (a : BitVec 64) [BV x a], SpecH Tryz.prog 140 #[.int .u64 x] [] (fun _ : Unit => .int .u64 ((mixB a).toNat : Nat)) (fun _ => [])) := ⟨fun x a _ => by
  refine spec_of Tryz.func140 rfl Tryz.ntmps140 rfl [(0, _)] rfl ?_; intro base F l0 hl0; (try simp only [List.cons_append] at hl0); (try simp only [List.nil_append] at hl0); subst hl0
  repeat' (first | refine sts ?_ | refine And.intro ?_ ?_ | (intro e; exfalso; omega) | (intro e; subst e) | intro _)
  exact rt1 () rfl⟩
instance ty_fold : Known Tryz.prog 141 (∀ (x : Int) (a : BitVec 64) [BV x a] (s : ByteArray), s.size ≤ 4194304 → SpecH Tryz.prog 141 #[.int .u64 x, .string s] [] (fun _ : Unit => .int .u64 ((foldB a s.data.toList).toNat : Nat)) (fun _ => [])) := ⟨fun x a _ s hss => by
  obtain rfl : x = ((a.toNat : Nat) : Int) := BV.out
  have hsz : s.data.toList.length = s.size := rfl
  refine spec_of Tryz.func141 rfl Tryz.ntmps141 rfl [(0, _), (1, _)] rfl ?_; intro base F l0 hl0; (try simp only [List.cons_append] at hl0); (try simp only [List.nil_append] at hl0); subst hl0
  repeat' (first | refine sts ?_ | refine And.intro ?_ ?_ | (intro e; exfalso; omega) | (intro e; subst e) | intro _)
  refine tc_lp (ι := {q : Nat × BitVec 64 // q.1 ≤ s.size ∧ q.2 = foldB a (s.data.toList.take q.1)}) [0, 8] (fun e q => (0, .int .u64 (q.1.2.toNat : Nat)) :: (8, .int .i64 (q.1.1 : Nat)) :: e) (fun _ => _) (fun q => s.size - q.1.1) ⟨(0, a), by omega, rfl⟩ ?_ (hl := Ent.refl _)
  rintro K ⟨⟨i, h⟩, hi, hh⟩ hK
  dsimp only at hi hh ⊢
  by_cases hc : i < s.size
  · have e := foldB_take (h := a) (bs := s.data.toList) (i := i) (by omega)
    have eb : byteAt s i = s.data.toList[i]'(by omega) := by unfold byteAt; rw [List.getD_eq_getElem?_getD, List.getElem?_eq_getElem (by omega)]; rfl
    repeat' (first | refine sts ?_ | refine And.intro ?_ ?_ | (intro e; exfalso; omega) | (intro e; subst e) | intro _)
    exact again hK ⟨(i + 1, (h ^^^ BitVec.ofNat 64 (byteAt s i).toNat) * 1099511628211#64), by dsimp only; omega, by dsimp only; rw [e, hh, eb]⟩
  · obtain rfl : i = s.size := by omega
    rw [← hsz, List.take_length] at hh
    subst hh
    repeat' (first | refine sts ?_ | refine And.intro ?_ ?_ | (intro e; exfalso; omega) | (intro e; subst e) | intro _)
    exact rt1 () rfl⟩
instance ty_sum : Known Tryz.prog 134 (∀ (x : Int) (a : BitVec 64) [BV x a] (s : ByteArray), s.size ≤ 4194304 → SpecH Tryz.prog 134 #[.agg #[.int .u64 x, .bool false], .string s] [] (fun _ : Unit => .int .u64 ((sumB a s).toNat : Nat)) (fun _ => [])) := ⟨fun x a _ s hss => by
  refine spec_of Tryz.func134 rfl Tryz.ntmps134 rfl [(0, _), (1, _)] rfl ?_; intro base F l0 hl0; (try simp only [List.cons_append] at hl0); (try simp only [List.nil_append] at hl0); subst hl0
  repeat' (first | refine sts ?_ | refine And.intro ?_ ?_ | (intro e; exfalso; omega) | (intro e; subst e) | intro _)
  exact rt1 () rfl⟩
theorem five {y : BitVec 64} : y + y + y + y + y = 5#64 * y := by
  apply BitVec.eq_of_toNat_eq
  simp only [BitVec.toNat_add, BitVec.toNat_mul, show (5#64).toNat = 5 from rfl]
  omega
theorem u8_wrap {n : Nat} : UInt8.ofNat (IntKind.u8.wrap (n : Int)).toNat = UInt8.ofNat n := by
  apply UInt8.toNat_inj.1
  rw [UInt8.toNat_ofNat', UInt8.toNat_ofNat']
  have e : IntKind.u8.wrap (n : Int) = (n : Int) % 256 := rfl
  rw [e]; omega
theorem txt_of (k : Nat) : strOf [((k / 2 ^ 24 : Nat) : Int), IntKind.u8.wrap ((k / 2 ^ 16 : Nat) : Int), IntKind.u8.wrap ((k / 2 ^ 8 : Nat) : Int), IntKind.u8.wrap (k : Int)] = txt k := by
  unfold strOf txt
  simp only [List.map_cons, List.map_nil, u8_wrap]
  rfl
instance ty_text : Known Tryz.prog 65 (∀ (x : Int) (k : Nat) [NatI x k], k < 4294967296 → SpecH Tryz.prog 65 #[.int .u32 x] [] (fun _ : Unit => .string (txt k)) (fun _ => [])) := ⟨fun x k _ hk => by
  obtain rfl : x = (k : Int) := NatI.out
  refine spec_of Tryz.func65 rfl Tryz.ntmps65 rfl [(0, _)] rfl ?_; intro base F l0 hl0; (try simp only [List.cons_append] at hl0); (try simp only [List.nil_append] at hl0); subst hl0
  rw [← txt_of]
  repeat' (first | refine sts ?_ | refine And.intro ?_ ?_ | (intro e; exfalso; omega) | (intro e; subst e) | intro _)
  exact rt1 () rfl⟩
theorem txt_size {k : Nat} : (txt k).size = 4 := rfl
end Go.Proofs.YtdpiglociolagaaGreat

/- sketch, walked. -/
namespace Go.Ty
open Go.Lk Go.Sl Go.Proofs.YtdpiglociolagaaGreat
structure SkOk (w : Nat) (C0 C1 C2 C3 : List Nat) (W0 W1 W2 W3 : List (BitVec 64)) : Prop where
  k0 : Pk W0 C0
  k1 : Pk W1 C1
  k2 : Pk W2 C2
  k3 : Pk W3 C3
  l0 : C0.length = w
  l1 : C1.length = w
  l2 : C2.length = w
  l3 : C3.length = w
  pw : ∃ e, 4 ≤ e ∧ e ≤ 16 ∧ w = 2 ^ e
structure SKs where
  W0 : List (BitVec 64)
  W1 : List (BitVec 64)
  W2 : List (BitVec 64)
  W3 : List (BitVec 64)
  b0 : Nat
  b1 : Nat
  b2 : Nat
  b3 : Nat
  c0 : Nat
  c1 : Nat
  c2 : Nat
  c3 : Nat
def SketchAt (q : Nat) (seed : BitVec 64) (w : Nat) (C0 C1 C2 C3 : List Nat) (ad : Nat) : HP := Exs (ι := SKs) fun x => [fact (SkOk w C0 C1 C2 C3 x.W0 x.W1 x.W2 x.W3), obj q 159 [.int .i64 (w : Nat), .int .i64 0, .int .i64 (ad : Nat), .int .u64 (seed.toNat : Nat), .bool false, .slice (some ⟨x.b0, 0, none⟩) x.W0.length x.c0, .slice (some ⟨x.b1, 0, none⟩) x.W1.length x.c1, .slice (some ⟨x.b2, 0, none⟩) x.W2.length x.c2, .slice (some ⟨x.b3, 0, none⟩) x.W3.length x.c3], Vec 22 1 (some ⟨x.b0, 0, none⟩) x.W0.length x.c0 (w64 x.W0), Vec 22 1 (some ⟨x.b1, 0, none⟩) x.W1.length x.c1 (w64 x.W1), Vec 22 1 (some ⟨x.b2, 0, none⟩) x.W2.length x.c2 (w64 x.W2), Vec 22 1 (some ⟨x.b3, 0, none⟩) x.W3.length x.c3 (w64 x.W3)]
section
variable {r0 : Option Nat} {P : Program} {base : World} {n : Nat} {ds : List Deferred} {X : Exit → Act → World → Prop} {env : Env} {l r : List HP} {KK : Act → World → Prop} {c : Code} {all : Array Oper} {ro : List Oper} {q w ad : Nat} {seed : BitVec 64} {C0 C1 C2 C3 : List Nat}
theorem SketchAt.openK (h : ∀ (W0 W1 W2 W3 : List (BitVec 64)) (b0 b1 b2 b3 c0 c1 c2 c3 : Nat), SkOk w C0 C1 C2 C3 W0 W1 W2 W3 → TK base n ds KK env (obj q 159 [.int .i64 (w : Nat), .int .i64 0, .int .i64 (ad : Nat), .int .u64 (seed.toNat : Nat), .bool false, .slice (some ⟨b0, 0, none⟩) W0.length c0, .slice (some ⟨b1, 0, none⟩) W1.length c1, .slice (some ⟨b2, 0, none⟩) W2.length c2, .slice (some ⟨b3, 0, none⟩) W3.length c3] :: Vec 22 1 (some ⟨b0, 0, none⟩) W0.length c0 (w64 W0) :: Vec 22 1 (some ⟨b1, 0, none⟩) W1.length c1 (w64 W1) :: Vec 22 1 (some ⟨b2, 0, none⟩) W2.length c2 (w64 W2) :: Vec 22 1 (some ⟨b3, 0, none⟩) W3.length c3 (w64 W3) :: r)) (hr : Rem l (SketchAt q seed w C0 C1 C2 C3 ad) r := by (repeat (first | (with_reducible exact Rem.here _ _) | (with_reducible apply Rem.there) | fail)); done) : TK base n ds KK env l := by
  unfold SketchAt at hr
  refine TK.exs hr fun ⟨W0, W1, W2, W3, b0, b1, b2, b3, c0, c1, c2, c3⟩ => ?_
  exact TK.fact fun h1 => h W0 W1 W2 W3 b0 b1 b2 b3 c0 c1 c2 c3 h1
theorem SketchAt.openC (h : ∀ (W0 W1 W2 W3 : List (BitVec 64)) (b0 b1 b2 b3 c0 c1 c2 c3 : Nat), SkOk w C0 C1 C2 C3 W0 W1 W2 W3 → TC r0 P base n ds c X env (obj q 159 [.int .i64 (w : Nat), .int .i64 0, .int .i64 (ad : Nat), .int .u64 (seed.toNat : Nat), .bool false, .slice (some ⟨b0, 0, none⟩) W0.length c0, .slice (some ⟨b1, 0, none⟩) W1.length c1, .slice (some ⟨b2, 0, none⟩) W2.length c2, .slice (some ⟨b3, 0, none⟩) W3.length c3] :: Vec 22 1 (some ⟨b0, 0, none⟩) W0.length c0 (w64 W0) :: Vec 22 1 (some ⟨b1, 0, none⟩) W1.length c1 (w64 W1) :: Vec 22 1 (some ⟨b2, 0, none⟩) W2.length c2 (w64 W2) :: Vec 22 1 (some ⟨b3, 0, none⟩) W3.length c3 (w64 W3) :: r)) (hr : Rem l (SketchAt q seed w C0 C1 C2 C3 ad) r := by (repeat (first | (with_reducible exact Rem.here _ _) | (with_reducible apply Rem.there) | fail)); done) : TC r0 P base n ds c X env l := SketchAt.openK h hr
theorem SketchAt.openL (h : ∀ (W0 W1 W2 W3 : List (BitVec 64)) (b0 b1 b2 b3 c0 c1 c2 c3 : Nat), SkOk w C0 C1 C2 C3 W0 W1 W2 W3 → TL r0 P base n ds all ro X env (obj q 159 [.int .i64 (w : Nat), .int .i64 0, .int .i64 (ad : Nat), .int .u64 (seed.toNat : Nat), .bool false, .slice (some ⟨b0, 0, none⟩) W0.length c0, .slice (some ⟨b1, 0, none⟩) W1.length c1, .slice (some ⟨b2, 0, none⟩) W2.length c2, .slice (some ⟨b3, 0, none⟩) W3.length c3] :: Vec 22 1 (some ⟨b0, 0, none⟩) W0.length c0 (w64 W0) :: Vec 22 1 (some ⟨b1, 0, none⟩) W1.length c1 (w64 W1) :: Vec 22 1 (some ⟨b2, 0, none⟩) W2.length c2 (w64 W2) :: Vec 22 1 (some ⟨b3, 0, none⟩) W3.length c3 (w64 W3) :: r)) (hr : Rem l (SketchAt q seed w C0 C1 C2 C3 ad) r := by (repeat (first | (with_reducible exact Rem.here _ _) | (with_reducible apply Rem.there) | fail)); done) : TL r0 P base n ds all ro X env l := SketchAt.openK h hr
theorem SketchAt.shut {W0 W1 W2 W3 : List (BitVec 64)} {b0 b1 b2 b3 c0 c1 c2 c3 : Nat} (h1 : SkOk w C0 C1 C2 C3 W0 W1 W2 W3) : Ent (obj q 159 [.int .i64 (w : Nat), .int .i64 0, .int .i64 (ad : Nat), .int .u64 (seed.toNat : Nat), .bool false, .slice (some ⟨b0, 0, none⟩) W0.length c0, .slice (some ⟨b1, 0, none⟩) W1.length c1, .slice (some ⟨b2, 0, none⟩) W2.length c2, .slice (some ⟨b3, 0, none⟩) W3.length c3] :: Vec 22 1 (some ⟨b0, 0, none⟩) W0.length c0 (w64 W0) :: Vec 22 1 (some ⟨b1, 0, none⟩) W1.length c1 (w64 W1) :: Vec 22 1 (some ⟨b2, 0, none⟩) W2.length c2 (w64 W2) :: Vec 22 1 (some ⟨b3, 0, none⟩) W3.length c3 (w64 W3) :: r) (SketchAt q seed w C0 C1 C2 C3 ad :: r) := by
  refine Ent.exs (⟨W0, W1, W2, W3, b0, b1, b2, b3, c0, c1, c2, c3⟩ : SKs) ?_
  exact Ent.fact h1 (Ent.refl _)
end
theorem pow_le16 {e w : Nat} (h : 4 ≤ e ∧ e ≤ 16 ∧ w = 2 ^ e) : 16 ≤ w ∧ w ≤ 65536 ∧ w % 16 = 0 := by
  obtain ⟨h1, h2, rfl⟩ := h
  have a : (2 : Nat) ^ 4 ≤ 2 ^ e := Nat.pow_le_pow_right (by decide) h1
  have b : (2 : Nat) ^ e ≤ 2 ^ 16 := Nat.pow_le_pow_right (by decide) h2
  refine ⟨a, b, ?_⟩
  obtain ⟨d, rfl⟩ : ∃ d, e = 4 + d := ⟨e - 4, by omega⟩
  rw [Nat.pow_add]; omega
theorem plS_def {h : BitVec 64} {w r : Nat} : (h >>> (16 * r)).toNat % w = plS h w r := rfl
def pcs (p : Nat → Nat) : Nat → List Value
  | 0 => [.int .i64 0, .int .i64 0, .int .i64 0, .int .i64 0]
  | 1 => [.int .i64 (p 0 : Nat), .int .i64 0, .int .i64 0, .int .i64 0]
  | 2 => [.int .i64 (p 0 : Nat), .int .i64 (p 1 : Nat), .int .i64 0, .int .i64 0]
  | 3 => [.int .i64 (p 0 : Nat), .int .i64 (p 1 : Nat), .int .i64 (p 2 : Nat), .int .i64 0]
  | _ + 4 => [.int .i64 (p 0 : Nat), .int .i64 (p 1 : Nat), .int .i64 (p 2 : Nat), .int .i64 (p 3 : Nat)]
end Go.Ty
namespace Go.Proofs.YtdpiglociolagaaGreat
open Go.Lk Go.Sl Go.Ty
attribute [local irreducible] TK TL TC Th Bk Nx fnPost WA TQ OpQ OpN SpecH Rd Ent IterH RoundH Rb Rp fnPostM
attribute [local irreducible] Ty.sumB Ty.plS Ty.at64
instance sk_zero : Known Tryz.prog 96 (∀ (q : Nat) (seed : BitVec 64) (w : Nat) (C0 C1 C2 C3 : List Nat) (ad : Nat), SpecH Tryz.prog 96 #[.pointer (some ⟨q, 0, none⟩)] [SketchAt q seed w C0 C1 C2 C3 ad] (fun _ : Unit => .bool false) (fun _ => [SketchAt q seed w C0 C1 C2 C3 ad])) := ⟨fun q seed w C0 C1 C2 C3 ad => by
  refine spec_of Tryz.func96 rfl Tryz.ntmps96 rfl [(0, _)] rfl ?_; intro base F l0 hl0; (try simp only [List.cons_append] at hl0); (try simp only [List.nil_append] at hl0); subst hl0
  refine SketchAt.openC fun W0 W1 W2 W3 b0 b1 b2 b3 c0 c1 c2 c3 ok => ?_
  obtain ⟨e, he⟩ := ok.pw
  obtain ⟨hw1, hw2, _⟩ := pow_le16 he
  repeat' (first | refine sts ?_ | refine And.intro ?_ ?_ | (intro e; exfalso; omega) | (intro e; subst e) | intro _)
  exact rt1 () rfl (he := en2 (SketchAt.shut ok))⟩
set_option maxHeartbeats 4000000 in
instance sk_places : Known Tryz.prog 109 (∀ (q : Nat) (seed : BitVec 64) (w : Nat) (C0 C1 C2 C3 : List Nat) (ad k : Nat), SpecH Tryz.prog 109 #[.pointer (some ⟨q, 0, none⟩), .string (txt k)] [SketchAt q seed w C0 C1 C2 C3 ad] (fun _ : Unit => .agg #[.int .i64 (plS (sumB seed (txt k)) w 0 : Nat), .int .i64 (plS (sumB seed (txt k)) w 1 : Nat), .int .i64 (plS (sumB seed (txt k)) w 2 : Nat), .int .i64 (plS (sumB seed (txt k)) w 3 : Nat)]) (fun _ => [SketchAt q seed w C0 C1 C2 C3 ad])) := ⟨fun q seed w C0 C1 C2 C3 ad k => by
  refine spec_of Tryz.func109 rfl Tryz.ntmps109 rfl [(0, _), (1, _)] rfl ?_; intro base F l0 hl0; (try simp only [List.cons_append] at hl0); (try simp only [List.nil_append] at hl0); subst hl0
  refine SketchAt.openC fun W0 W1 W2 W3 b0 b1 b2 b3 c0 c1 c2 c3 ok => ?_
  obtain ⟨e, he⟩ := ok.pw
  obtain ⟨hw1, hw2, _⟩ := pow_le16 he
  have hts := txt_size (k := k)
  haveI : MaskI ((w : Int) - 1) w := ⟨rfl, e, by omega, he.2.2⟩
  repeat' (first | refine sts ?_ | refine And.intro ?_ ?_ | (intro e; exfalso; omega) | (intro e; subst e) | intro _)
  rename_i b4
  refine tc_lp (ι := {v : Nat // v ≤ 4}) [13] (fun e v => (13, .int .i64 (v.1 : Nat)) :: e) (fun v => [obj b4 178 (pcs (plS (sumB seed (txt k)) w) v.1), obj q 159 [.int .i64 (w : Nat), .int .i64 0, .int .i64 (ad : Nat), .int .u64 (seed.toNat : Nat), .bool false, .slice (some ⟨b0, 0, none⟩) W0.length c0, .slice (some ⟨b1, 0, none⟩) W1.length c1, .slice (some ⟨b2, 0, none⟩) W2.length c2, .slice (some ⟨b3, 0, none⟩) W3.length c3], Vec 22 1 (some ⟨b0, 0, none⟩) W0.length c0 (w64 W0), Vec 22 1 (some ⟨b1, 0, none⟩) W1.length c1 (w64 W1), Vec 22 1 (some ⟨b2, 0, none⟩) W2.length c2 (w64 W2), Vec 22 1 (some ⟨b3, 0, none⟩) W3.length c3 (w64 W3), F]) (fun v => 4 - v.1) ⟨0, by omega⟩ ?_ (hl := by show Ent _ [obj b4 178 [.int .i64 0, .int .i64 0, .int .i64 0, .int .i64 0], obj q 159 [.int .i64 (w : Nat), .int .i64 0, .int .i64 (ad : Nat), .int .u64 (seed.toNat : Nat), .bool false, .slice (some ⟨b0, 0, none⟩) W0.length c0, .slice (some ⟨b1, 0, none⟩) W1.length c1, .slice (some ⟨b2, 0, none⟩) W2.length c2, .slice (some ⟨b3, 0, none⟩) W3.length c3], Vec 22 1 (some ⟨b0, 0, none⟩) W0.length c0 (w64 W0), Vec 22 1 (some ⟨b1, 0, none⟩) W1.length c1 (w64 W1), Vec 22 1 (some ⟨b2, 0, none⟩) W2.length c2 (w64 W2), Vec 22 1 (some ⟨b3, 0, none⟩) W3.length c3 (w64 W3), F]; exact en)
  rintro K ⟨v, hv4⟩ hK
  dsimp only at hv4 ⊢
  rcases v with _ | _ | _ | _ | v
  · show TC _ _ _ _ _ _ _ _ (obj b4 178 [.int .i64 0, .int .i64 0, .int .i64 0, .int .i64 0] :: _)
    repeat' (first | ((fail_if_success (refine atD ?_)); refine sts ?_) | refine And.intro ?_ ?_ | (intro e; exfalso; omega) | (intro e; subst e) | intro _)
    refine drx [obj b4 178 [.int .i64 0, .int .i64 0, .int .i64 0, .int .i64 0]] ?_
    refine tks [0, 1, 2, 6, 3, 7, 4, 8, 5, 9, 10, 11, 12] 1 ?_; repeat' (first | refine sts ?_ | refine And.intro ?_ ?_ | (intro e; exfalso; omega) | (intro e; subst e) | intro _)
    refine hv0 13 fun x13 => ?_
    simp only [Nat.mul_one, List.set_cons_zero]
    rw [plS_def]
    repeat' (first | refine sts ?_ | refine And.intro ?_ ?_ | (intro e; exfalso; omega) | (intro e; subst e) | intro _)
    exact again hK ⟨1, by omega⟩ (by dsimp only; omega) (he := by show Ent _ [obj b4 178 [.int .i64 (plS (sumB seed (txt k)) w 0 : Nat), .int .i64 0, .int .i64 0, .int .i64 0], obj q 159 [.int .i64 (w : Nat), .int .i64 0, .int .i64 (ad : Nat), .int .u64 (seed.toNat : Nat), .bool false, .slice (some ⟨b0, 0, none⟩) W0.length c0, .slice (some ⟨b1, 0, none⟩) W1.length c1, .slice (some ⟨b2, 0, none⟩) W2.length c2, .slice (some ⟨b3, 0, none⟩) W3.length c3], Vec 22 1 (some ⟨b0, 0, none⟩) W0.length c0 (w64 W0), Vec 22 1 (some ⟨b1, 0, none⟩) W1.length c1 (w64 W1), Vec 22 1 (some ⟨b2, 0, none⟩) W2.length c2 (w64 W2), Vec 22 1 (some ⟨b3, 0, none⟩) W3.length c3 (w64 W3), F]; exact en)
  · show TC _ _ _ _ _ _ _ _ (obj b4 178 [.int .i64 (plS (sumB seed (txt k)) w 0 : Nat), .int .i64 0, .int .i64 0, .int .i64 0] :: _)
    repeat' (first | ((fail_if_success (refine atD ?_)); refine sts ?_) | refine And.intro ?_ ?_ | (intro e; exfalso; omega) | (intro e; subst e) | intro _)
    refine drx [obj b4 178 [.int .i64 (plS (sumB seed (txt k)) w 0 : Nat), .int .i64 0, .int .i64 0, .int .i64 0]] ?_
    refine tks [0, 1, 2, 6, 3, 7, 4, 8, 5, 9, 10, 11, 12] 1 ?_; repeat' (first | refine sts ?_ | refine And.intro ?_ ?_ | (intro e; exfalso; omega) | (intro e; subst e) | intro _)
    refine hv0 13 fun x13 => ?_
    simp only [Nat.mul_one]
    rw [plS_def]
    repeat' (first | refine sts ?_ | refine And.intro ?_ ?_ | (intro e; exfalso; omega) | (intro e; subst e) | intro _)
    exact again hK ⟨2, by omega⟩ (by dsimp only; omega) (he := by show Ent _ [obj b4 178 [.int .i64 (plS (sumB seed (txt k)) w 0 : Nat), .int .i64 (plS (sumB seed (txt k)) w 1 : Nat), .int .i64 0, .int .i64 0], obj q 159 [.int .i64 (w : Nat), .int .i64 0, .int .i64 (ad : Nat), .int .u64 (seed.toNat : Nat), .bool false, .slice (some ⟨b0, 0, none⟩) W0.length c0, .slice (some ⟨b1, 0, none⟩) W1.length c1, .slice (some ⟨b2, 0, none⟩) W2.length c2, .slice (some ⟨b3, 0, none⟩) W3.length c3], Vec 22 1 (some ⟨b0, 0, none⟩) W0.length c0 (w64 W0), Vec 22 1 (some ⟨b1, 0, none⟩) W1.length c1 (w64 W1), Vec 22 1 (some ⟨b2, 0, none⟩) W2.length c2 (w64 W2), Vec 22 1 (some ⟨b3, 0, none⟩) W3.length c3 (w64 W3), F]; exact en)
  · show TC _ _ _ _ _ _ _ _ (obj b4 178 [.int .i64 (plS (sumB seed (txt k)) w 0 : Nat), .int .i64 (plS (sumB seed (txt k)) w 1 : Nat), .int .i64 0, .int .i64 0] :: _)
    repeat' (first | ((fail_if_success (refine atD ?_)); refine sts ?_) | refine And.intro ?_ ?_ | (intro e; exfalso; omega) | (intro e; subst e) | intro _)
    refine drx [obj b4 178 [.int .i64 (plS (sumB seed (txt k)) w 0 : Nat), .int .i64 (plS (sumB seed (txt k)) w 1 : Nat), .int .i64 0, .int .i64 0]] ?_
    refine tks [0, 1, 2, 6, 3, 7, 4, 8, 5, 9, 10, 11, 12] 1 ?_; repeat' (first | refine sts ?_ | refine And.intro ?_ ?_ | (intro e; exfalso; omega) | (intro e; subst e) | intro _)
    refine hv0 13 fun x13 => ?_
    simp only [Nat.mul_one]
    rw [plS_def]
    repeat' (first | refine sts ?_ | refine And.intro ?_ ?_ | (intro e; exfalso; omega) | (intro e; subst e) | intro _)
    exact again hK ⟨3, by omega⟩ (by dsimp only; omega) (he := by show Ent _ [obj b4 178 [.int .i64 (plS (sumB seed (txt k)) w 0 : Nat), .int .i64 (plS (sumB seed (txt k)) w 1 : Nat), .int .i64 (plS (sumB seed (txt k)) w 2 : Nat), .int .i64 0], obj q 159 [.int .i64 (w : Nat), .int .i64 0, .int .i64 (ad : Nat), .int .u64 (seed.toNat : Nat), .bool false, .slice (some ⟨b0, 0, none⟩) W0.length c0, .slice (some ⟨b1, 0, none⟩) W1.length c1, .slice (some ⟨b2, 0, none⟩) W2.length c2, .slice (some ⟨b3, 0, none⟩) W3.length c3], Vec 22 1 (some ⟨b0, 0, none⟩) W0.length c0 (w64 W0), Vec 22 1 (some ⟨b1, 0, none⟩) W1.length c1 (w64 W1), Vec 22 1 (some ⟨b2, 0, none⟩) W2.length c2 (w64 W2), Vec 22 1 (some ⟨b3, 0, none⟩) W3.length c3 (w64 W3), F]; exact en)
  · show TC _ _ _ _ _ _ _ _ (obj b4 178 [.int .i64 (plS (sumB seed (txt k)) w 0 : Nat), .int .i64 (plS (sumB seed (txt k)) w 1 : Nat), .int .i64 (plS (sumB seed (txt k)) w 2 : Nat), .int .i64 0] :: _)
    repeat' (first | ((fail_if_success (refine atD ?_)); refine sts ?_) | refine And.intro ?_ ?_ | (intro e; exfalso; omega) | (intro e; subst e) | intro _)
    refine drx [obj b4 178 [.int .i64 (plS (sumB seed (txt k)) w 0 : Nat), .int .i64 (plS (sumB seed (txt k)) w 1 : Nat), .int .i64 (plS (sumB seed (txt k)) w 2 : Nat), .int .i64 0]] ?_
    refine tks [0, 1, 2, 6, 3, 7, 4, 8, 5, 9, 10, 11, 12] 1 ?_; repeat' (first | refine sts ?_ | refine And.intro ?_ ?_ | (intro e; exfalso; omega) | (intro e; subst e) | intro _)
    refine hv0 13 fun x13 => ?_
    simp only [Nat.mul_one]
    rw [plS_def]
    repeat' (first | refine sts ?_ | refine And.intro ?_ ?_ | (intro e; exfalso; omega) | (intro e; subst e) | intro _)
    exact again hK ⟨4, by omega⟩ (by dsimp only; omega) (he := by show Ent _ [obj b4 178 [.int .i64 (plS (sumB seed (txt k)) w 0 : Nat), .int .i64 (plS (sumB seed (txt k)) w 1 : Nat), .int .i64 (plS (sumB seed (txt k)) w 2 : Nat), .int .i64 (plS (sumB seed (txt k)) w 3 : Nat)], obj q 159 [.int .i64 (w : Nat), .int .i64 0, .int .i64 (ad : Nat), .int .u64 (seed.toNat : Nat), .bool false, .slice (some ⟨b0, 0, none⟩) W0.length c0, .slice (some ⟨b1, 0, none⟩) W1.length c1, .slice (some ⟨b2, 0, none⟩) W2.length c2, .slice (some ⟨b3, 0, none⟩) W3.length c3], Vec 22 1 (some ⟨b0, 0, none⟩) W0.length c0 (w64 W0), Vec 22 1 (some ⟨b1, 0, none⟩) W1.length c1 (w64 W1), Vec 22 1 (some ⟨b2, 0, none⟩) W2.length c2 (w64 W2), Vec 22 1 (some ⟨b3, 0, none⟩) W3.length c3 (w64 W3), F]; exact en)
  · obtain rfl : v = 0 := by omega
    show TC _ _ _ _ _ _ _ _ (obj b4 178 [.int .i64 (plS (sumB seed (txt k)) w 0 : Nat), .int .i64 (plS (sumB seed (txt k)) w 1 : Nat), .int .i64 (plS (sumB seed (txt k)) w 2 : Nat), .int .i64 (plS (sumB seed (txt k)) w 3 : Nat)] :: _)
    repeat' (first | refine sts ?_ | refine And.intro ?_ ?_ | (intro e; exfalso; omega) | (intro e; subst e) | intro _)
    exact ra1 () rfl (he := en2 (SketchAt.shut ok))⟩
end Go.Proofs.YtdpiglociolagaaGreat

/- sketch, walked: counters asked for and counted up. -/
namespace Go.Ty
open Go.Lk Go.Sl
structure RowC (g : Int) (C0 C1 C2 C3 C : List Nat) : Prop where
  out : (g = 0 ∧ C = C0) ∨ (g = 1 ∧ C = C1) ∨ (g = 2 ∧ C = C2) ∨ (g = 3 ∧ C = C3)
theorem Pk.ask {W : List (BitVec 64)} {C : List Nat} {p : Nat} (h : Pk W C) (hp : p < C.length) : (at64 W (p / 16) >>> (p % 16 * 4)).toNat % 16 = C.getD p 0 := by
  rw [BitVec.toNat_ushiftRight, Nat.shiftRight_eq_div_pow, Nat.mul_comm, Nat.pow_mul]
  exact h.at_ p hp
def cAdd (C : List Nat) (p : Nat) : List Nat := if C.getD p 0 < 15 then C.set p (C.getD p 0 + 1) else C
theorem cAdd_yes {C : List Nat} {p : Nat} (h : C.getD p 0 < 15) : cAdd C p = C.set p (C.getD p 0 + 1) := if_pos h
theorem cAdd_no {C : List Nat} {p : Nat} (h : ¬ C.getD p 0 < 15) : cAdd C p = C := if_neg h
theorem cAdd_len {C : List Nat} {p : Nat} : (cAdd C p).length = C.length := by unfold cAdd; split <;> simp
def mns (x0 x1 x2 x3 : Nat) : Nat → Nat
  | 0 => 15
  | 1 => min 15 x0
  | 2 => min (min 15 x0) x1
  | 3 => min (min (min 15 x0) x1) x2
  | _ + 4 => min (min (min (min 15 x0) x1) x2) x3
def cnt4 (C0 C1 C2 C3 : List Nat) (w : Nat) (h : BitVec 64) : Nat := min (min (min (min 15 (C0.getD (plS h w 0) 0)) (C1.getD (plS h w 1) 0)) (C2.getD (plS h w 2) 0)) (C3.getD (plS h w 3) 0)
theorem SketchAt.factsK {base : World} {n : Nat} {ds : List Deferred} {KK : Act → World → Prop} {env : Env} {l r : List HP} {q w ad : Nat} {seed : BitVec 64} {C0 C1 C2 C3 : List Nat} (h : C0.length = w → C1.length = w → C2.length = w → C3.length = w → (∃ e, 4 ≤ e ∧ e ≤ 16 ∧ w = 2 ^ e) → (∀ p, C0.getD p 0 ≤ 15 ∧ C1.getD p 0 ≤ 15 ∧ C2.getD p 0 ≤ 15 ∧ C3.getD p 0 ≤ 15) → TK base n ds KK env l) (hr : Rem l (SketchAt q seed w C0 C1 C2 C3 ad) r := by (repeat (first | (with_reducible exact Rem.here _ _) | (with_reducible apply Rem.there) | fail)); done) : TK base n ds KK env l := by
  refine TK.know (p := ∃ W0 W1 W2 W3, SkOk w C0 C1 C2 C3 W0 W1 W2 W3) (fun _ y => ?_) fun ⟨W0, W1, W2, W3, ok⟩ => ?_
  · unfold SketchAt at hr
    obtain ⟨x, y⟩ := exs_out hr y
    obtain ⟨ok, y⟩ := lst_fact y
    exact ⟨_, _, _, _, ok⟩
  · have hb : ∀ {W : List (BitVec 64)} {C : List Nat}, Pk W C → ∀ p, C.getD p 0 ≤ 15 := fun {W C} h p => by
      by_cases hp : p < C.length
      · exact h.le15 hp
      · rw [List.getD_eq_getElem?_getD, List.getElem?_eq_none (by omega)]; exact Nat.zero_le _
    exact h ok.l0 ok.l1 ok.l2 ok.l3 ok.pw fun p => ⟨hb ok.k0 p, hb ok.k1 p, hb ok.k2 p, hb ok.k3 p⟩
theorem SketchAt.factsC {r0 : Option Nat} {P : Program} {X : Exit → Act → World → Prop} {c : Code} {base : World} {n : Nat} {ds : List Deferred} {env : Env} {l r : List HP} {q w ad : Nat} {seed : BitVec 64} {C0 C1 C2 C3 : List Nat} (h : C0.length = w → C1.length = w → C2.length = w → C3.length = w → (∃ e, 4 ≤ e ∧ e ≤ 16 ∧ w = 2 ^ e) → (∀ p, C0.getD p 0 ≤ 15 ∧ C1.getD p 0 ≤ 15 ∧ C2.getD p 0 ≤ 15 ∧ C3.getD p 0 ≤ 15) → TC r0 P base n ds c X env l) (hr : Rem l (SketchAt q seed w C0 C1 C2 C3 ad) r := by (repeat (first | (with_reducible exact Rem.here _ _) | (with_reducible apply Rem.there) | fail)); done) : TC r0 P base n ds c X env l := SketchAt.factsK h hr
end Go.Ty
namespace Go.Proofs.YtdpiglociolagaaGreat
open Go.Lk Go.Sl Go.Ty
attribute [local irreducible] TK TL TC Th Bk Nx fnPost WA TQ OpQ OpN SpecH Rd Ent IterH RoundH Rb Rp fnPostM
attribute [local irreducible] Ty.sumB Ty.plS Ty.at64 Ty.cAdd
set_option maxHeartbeats 4000000 in
instance sk_at : Known Tryz.prog 110 (∀ (q : Nat) (seed : BitVec 64) (w : Nat) (C0 C1 C2 C3 : List Nat) (ad : Nat) (g : Int) (C : List Nat) (xp : Int) (p : Nat) [NatI xp p], RowC g C0 C1 C2 C3 C → p < w → SpecH Tryz.prog 110 #[.pointer (some ⟨q, 0, none⟩), .int .i64 g, .int .i64 xp] [SketchAt q seed w C0 C1 C2 C3 ad] (fun _ : Unit => .int .i64 (C.getD p 0 : Nat)) (fun _ => [SketchAt q seed w C0 C1 C2 C3 ad])) := ⟨fun q seed w C0 C1 C2 C3 ad g C xp p _ hg hp => by
  obtain rfl : xp = (p : Int) := NatI.out
  refine spec_of Tryz.func110 rfl Tryz.ntmps110 rfl [(0, _), (1, _), (2, _)] rfl ?_; intro base F l0 hl0; (try simp only [List.cons_append] at hl0); (try simp only [List.nil_append] at hl0); subst hl0
  refine SketchAt.openC fun W0 W1 W2 W3 b0 b1 b2 b3 c0 c1 c2 c3 ok => ?_
  obtain ⟨e, he⟩ := ok.pw
  obtain ⟨hw1, hw2, _⟩ := pow_le16 he
  rcases hg.out with ⟨rfl, rfl⟩ | ⟨rfl, rfl⟩ | ⟨rfl, rfl⟩ | ⟨rfl, rfl⟩
  · have hl := ok.k0.len
    have hl2 := ok.l0
    have hj : p / 16 < W0.length := by omega
    rw [← ok.k0.ask (by rw [hl2]; exact hp)]
    repeat' (first | refine sts ?_ | refine And.intro ?_ ?_ | (intro e; exfalso; omega) | (intro e; subst e) | intro _)
    exact rt1 () rfl (he := en2 (SketchAt.shut ok))
  · have hl := ok.k1.len
    have hl2 := ok.l1
    have hj : p / 16 < W1.length := by omega
    rw [← ok.k1.ask (by rw [hl2]; exact hp)]
    repeat' (first | refine sts ?_ | refine And.intro ?_ ?_ | (intro e; exfalso; omega) | (intro e; subst e) | intro _)
    exact rt1 () rfl (he := en2 (SketchAt.shut ok))
  · have hl := ok.k2.len
    have hl2 := ok.l2
    have hj : p / 16 < W2.length := by omega
    rw [← ok.k2.ask (by rw [hl2]; exact hp)]
    repeat' (first | refine sts ?_ | refine And.intro ?_ ?_ | (intro e; exfalso; omega) | (intro e; subst e) | intro _)
    exact rt1 () rfl (he := en2 (SketchAt.shut ok))
  · have hl := ok.k3.len
    have hl2 := ok.l3
    have hj : p / 16 < W3.length := by omega
    rw [← ok.k3.ask (by rw [hl2]; exact hp)]
    repeat' (first | refine sts ?_ | refine And.intro ?_ ?_ | (intro e; exfalso; omega) | (intro e; subst e) | intro _)
    exact rt1 () rfl (he := en2 (SketchAt.shut ok))⟩
set_option maxHeartbeats 4000000 in
instance sk_count : Known Tryz.prog 84 (∀ (q : Nat) (seed : BitVec 64) (w : Nat) (C0 C1 C2 C3 : List Nat) (ad k : Nat), SpecH Tryz.prog 84 #[.pointer (some ⟨q, 0, none⟩), .string (txt k)] [SketchAt q seed w C0 C1 C2 C3 ad] (fun _ : Unit => .int .i64 (cnt4 C0 C1 C2 C3 w (sumB seed (txt k)) : Nat)) (fun _ => [SketchAt q seed w C0 C1 C2 C3 ad])) := ⟨fun q seed w C0 C1 C2 C3 ad k => by
  refine spec_of Tryz.func84 rfl Tryz.ntmps84 rfl [(0, _), (1, _)] rfl ?_; intro base F l0 hl0; (try simp only [List.cons_append] at hl0); (try simp only [List.nil_append] at hl0); subst hl0
  refine SketchAt.factsC fun l0 l1 l2 l3 hpw hb => ?_
  obtain ⟨e, he⟩ := hpw
  obtain ⟨hw1, hw2, _⟩ := pow_le16 he
  generalize hh : sumB seed (txt k) = h
  have p0 := plS_lt (h := h) (w := w) (r := 0) (by omega)
  have p1 := plS_lt (h := h) (w := w) (r := 1) (by omega)
  have p2 := plS_lt (h := h) (w := w) (r := 2) (by omega)
  have p3 := plS_lt (h := h) (w := w) (r := 3) (by omega)
  have g0 : RowC 0 C0 C1 C2 C3 C0 := ⟨.inl ⟨rfl, rfl⟩⟩
  have g1 : RowC 1 C0 C1 C2 C3 C1 := ⟨.inr (.inl ⟨rfl, rfl⟩)⟩
  have g2 : RowC 2 C0 C1 C2 C3 C2 := ⟨.inr (.inr (.inl ⟨rfl, rfl⟩))⟩
  have g3 : RowC 3 C0 C1 C2 C3 C3 := ⟨.inr (.inr (.inr ⟨rfl, rfl⟩))⟩
  haveI : Known Tryz.prog 109 (SpecH Tryz.prog 109 #[.pointer (some ⟨q, 0, none⟩), .string (txt k)] [SketchAt q seed w C0 C1 C2 C3 ad] (fun _ : Unit => .agg #[.int .i64 (plS h w 0 : Nat), .int .i64 (plS h w 1 : Nat), .int .i64 (plS h w 2 : Nat), .int .i64 (plS h w 3 : Nat)]) (fun _ => [SketchAt q seed w C0 C1 C2 C3 ad])) := ⟨by have := sk_places.out q seed w C0 C1 C2 C3 ad k; rwa [hh] at this⟩
  repeat' (first | refine sts ?_ | refine And.intro ?_ ?_ | (intro e; exfalso; omega) | (intro e; subst e) | intro _)
  refine tc_lp (ι := {v : Nat // v ≤ 4}) [5, 13] (fun e v => (5, .int .i64 (mns (C0.getD (plS h w 0) 0) (C1.getD (plS h w 1) 0) (C2.getD (plS h w 2) 0) (C3.getD (plS h w 3) 0) v.1 : Nat)) :: (13, .int .i64 (v.1 : Nat)) :: e) (fun _ => _) (fun v => 4 - v.1) ⟨0, by omega⟩ ?_ (hl := Ent.refl _)
  rintro K ⟨v, hv4⟩ hK
  dsimp only at hv4 ⊢
  have b0 := (hb (plS h w 0)).1
  have b1 := (hb (plS h w 1)).2.1
  have b2 := (hb (plS h w 2)).2.2.1
  have b3 := (hb (plS h w 3)).2.2.2
  have cmin : ∀ a b : Nat, min (a : Int) (b : Int) = ((min a b : Nat) : Int) := fun a b => by omega
  rcases v with _ | _ | _ | _ | v
  · show TC _ _ _ _ _ _ _ ((5, .int .i64 ((15 : Nat) : Int)) :: _) _
    repeat' (first | refine sts ?_ | refine And.intro ?_ ?_ | (intro e; exfalso; omega) | (intro e; subst e) | intro _)
    rw [cmin]
    exact again hK ⟨1, by omega⟩ (by dsimp only; omega)
  · show TC _ _ _ _ _ _ _ ((5, .int .i64 (((min 15 (C0.getD (plS h w 0) 0)) : Nat) : Int)) :: _) _
    repeat' (first | refine sts ?_ | refine And.intro ?_ ?_ | (intro e; exfalso; omega) | (intro e; subst e) | intro _)
    rw [cmin]
    exact again hK ⟨2, by omega⟩ (by dsimp only; omega)
  · show TC _ _ _ _ _ _ _ ((5, .int .i64 (((min (min 15 (C0.getD (plS h w 0) 0)) (C1.getD (plS h w 1) 0)) : Nat) : Int)) :: _) _
    repeat' (first | refine sts ?_ | refine And.intro ?_ ?_ | (intro e; exfalso; omega) | (intro e; subst e) | intro _)
    rw [cmin]
    exact again hK ⟨3, by omega⟩ (by dsimp only; omega)
  · show TC _ _ _ _ _ _ _ ((5, .int .i64 (((min (min (min 15 (C0.getD (plS h w 0) 0)) (C1.getD (plS h w 1) 0)) (C2.getD (plS h w 2) 0)) : Nat) : Int)) :: _) _
    repeat' (first | refine sts ?_ | refine And.intro ?_ ?_ | (intro e; exfalso; omega) | (intro e; subst e) | intro _)
    rw [cmin]
    exact again hK ⟨4, by omega⟩ (by dsimp only; omega)
  · obtain rfl : v = 0 := by omega
    show TC _ _ _ _ _ _ _ ((5, .int .i64 (((min (min (min (min 15 (C0.getD (plS h w 0) 0)) (C1.getD (plS h w 1) 0)) (C2.getD (plS h w 2) 0)) (C3.getD (plS h w 3) 0)) : Nat) : Int)) :: _) _
    repeat' (first | refine sts ?_ | refine And.intro ?_ ?_ | (intro e; exfalso; omega) | (intro e; subst e) | intro _)
    exact rt1 () rfl⟩
end Go.Proofs.YtdpiglociolagaaGreat

/- sketch, walked: a key more. -/
namespace Go.Ty
open Go.Lk Go.Sl
theorem SketchAt.shutN {r : List HP} {q w ad : Nat} {seed : BitVec 64} {C0 C1 C2 C3 : List Nat} {W0 W1 W2 W3 : List (BitVec 64)} {b0 b1 b2 b3 c0 c1 c2 c3 n0 n1 n2 n3 : Nat} {za : Int} (h1 : SkOk w C0 C1 C2 C3 W0 W1 W2 W3) (ha : za = (ad : Nat)) (e0 : n0 = W0.length) (e1 : n1 = W1.length) (e2 : n2 = W2.length) (e3 : n3 = W3.length) : Ent (obj q 159 [.int .i64 (w : Nat), .int .i64 0, .int .i64 za, .int .u64 (seed.toNat : Nat), .bool false, .slice (some ⟨b0, 0, none⟩) n0 c0, .slice (some ⟨b1, 0, none⟩) n1 c1, .slice (some ⟨b2, 0, none⟩) n2 c2, .slice (some ⟨b3, 0, none⟩) n3 c3] :: Vec 22 1 (some ⟨b0, 0, none⟩) n0 c0 (w64 W0) :: Vec 22 1 (some ⟨b1, 0, none⟩) n1 c1 (w64 W1) :: Vec 22 1 (some ⟨b2, 0, none⟩) n2 c2 (w64 W2) :: Vec 22 1 (some ⟨b3, 0, none⟩) n3 c3 (w64 W3) :: r) (SketchAt q seed w C0 C1 C2 C3 ad :: r) := by
  subst ha; subst e0; subst e1; subst e2; subst e3
  exact SketchAt.shut h1
def rw4 (A A' : List Nat) (j v : Nat) : List Nat := if j < v then A' else A
end Go.Ty
namespace Go.Proofs.YtdpiglociolagaaGreat
open Go.Lk Go.Sl Go.Ty
attribute [local irreducible] TK TL TC Th Bk Nx fnPost WA TQ OpQ OpN SpecH Rd Ent IterH RoundH Rb Rp fnPostM
attribute [local irreducible] Ty.sumB Ty.plS Ty.at64 Ty.cAdd
set_option maxHeartbeats 8000000 in
instance sk_add : Known Tryz.prog 67 (∀ (q : Nat) (seed : BitVec 64) (w : Nat) (C0 C1 C2 C3 : List Nat) (ad k : Nat) (h : BitVec 64), sumB seed (txt k) = h → ad ≤ 4611686018427387904 → SpecH Tryz.prog 67 #[.pointer (some ⟨q, 0, none⟩), .string (txt k)] [SketchAt q seed w C0 C1 C2 C3 ad] (fun _ : Unit => .tuple #[.bool false, .int .i64 0]) (fun _ => [SketchAt q seed w (cAdd C0 (plS h w 0)) (cAdd C1 (plS h w 1)) (cAdd C2 (plS h w 2)) (cAdd C3 (plS h w 3)) (ad + 1)])) := ⟨fun q seed w C0 C1 C2 C3 ad k h hh hadd => by
  refine spec_of Tryz.func67 rfl Tryz.ntmps67 rfl [(0, _), (1, _)] rfl ?_; intro base F l0 hl0; (try simp only [List.cons_append] at hl0); (try simp only [List.nil_append] at hl0); subst hl0
  refine SketchAt.factsC fun l0 l1 l2 l3 hpw _ => ?_
  obtain ⟨e, he⟩ := hpw
  obtain ⟨hw1, hw2, _⟩ := pow_le16 he
  have p0 := plS_lt (h := h) (w := w) (r := 0) (by omega)
  have p1 := plS_lt (h := h) (w := w) (r := 1) (by omega)
  have p2 := plS_lt (h := h) (w := w) (r := 2) (by omega)
  have p3 := plS_lt (h := h) (w := w) (r := 3) (by omega)
  haveI : Known Tryz.prog 109 (SpecH Tryz.prog 109 #[.pointer (some ⟨q, 0, none⟩), .string (txt k)] [SketchAt q seed w C0 C1 C2 C3 ad] (fun _ : Unit => .agg #[.int .i64 (plS h w 0 : Nat), .int .i64 (plS h w 1 : Nat), .int .i64 (plS h w 2 : Nat), .int .i64 (plS h w 3 : Nat)]) (fun _ => [SketchAt q seed w C0 C1 C2 C3 ad])) := ⟨by have := sk_places.out q seed w C0 C1 C2 C3 ad k; rwa [hh] at this⟩
  repeat' (first | refine sts ?_ | refine And.intro ?_ ?_ | (intro e; exfalso; omega) | (intro e; subst e) | intro _)
  refine tc_lp (ι := {v : Nat // v ≤ 4}) [13] (fun e v => (13, .int .i64 (v.1 : Nat)) :: e) (fun v => [SketchAt q seed w (rw4 C0 (cAdd C0 (plS h w 0)) 0 v.1) (rw4 C1 (cAdd C1 (plS h w 1)) 1 v.1) (rw4 C2 (cAdd C2 (plS h w 2)) 2 v.1) (rw4 C3 (cAdd C3 (plS h w 3)) 3 v.1) ad, F]) (fun v => 4 - v.1) ⟨0, by omega⟩ ?_ (hl := by show Ent _ [SketchAt q seed w C0 C1 C2 C3 ad, F]; exact en)
  rintro K ⟨v, hv4⟩ hK
  dsimp only at hv4 ⊢
  rcases v with _ | _ | _ | _ | v
  · show TC _ _ _ _ _ _ _ _ [SketchAt q seed w C0 C1 C2 C3 ad, F]
    have g : RowC 0 C0 C1 C2 C3 C0 := ⟨.inl ⟨rfl, rfl⟩⟩
    by_cases hlt : C0.getD (plS h w 0) 0 < 15
    · have e1 := cAdd_yes hlt
      repeat' (first | ((fail_if_success (refine atD ?_)); refine sts ?_) | refine And.intro ?_ ?_ | (intro e; exfalso; omega) | (intro e; subst e) | intro _)
      refine SketchAt.openC fun W0 W1 W2 W3 b0 b1 b2 b3 c0 c1 c2 c3 ok => ?_
      have hl := ok.k0.len
      have hj : plS h w 0 / 16 < W0.length := by omega
      have ok2 : SkOk w (cAdd C0 (plS h w 0)) C1 C2 C3 (W0.set (plS h w 0 / 16) (at64 W0 (plS h w 0 / 16) + 1#64 <<< (plS h w 0 % 16 * 4))) W1 W2 W3 := ⟨by rw [e1]; exact ok.k0.add (by omega) hlt, ok.k1, ok.k2, ok.k3, by rw [e1, List.length_set]; exact ok.l0, ok.l1, ok.l2, ok.l3, ok.pw⟩
      refine drx [Vec 22 1 (some ⟨b0, 0, none⟩) W0.length c0 (w64 W0)] ?_
      refine tks [0, 1, 6, 10, 2, 7, 11, 3, 12, 4, 13, 5, 8] 4 ?_; repeat' (first | refine sts ?_ | refine And.intro ?_ ?_ | (intro e; exfalso; omega) | (intro e; subst e) | intro _)
      refine hvr 9 ?_
      refine tks [14, 15] 1 ?_; repeat' (first | refine sts ?_ | refine And.intro ?_ ?_ | (intro e; exfalso; omega) | (intro e; subst e) | intro _)
      refine hv0 16 fun x16 => ?_
      repeat' (first | refine sts ?_ | refine And.intro ?_ ?_ | (intro e; exfalso; omega) | (intro e; subst e) | intro _)
      exact again hK ⟨1, by omega⟩ (by dsimp only; omega) (he := by show Ent _ [SketchAt q seed w (cAdd C0 (plS h w 0)) C1 C2 C3 ad, F]; exact en2 (SketchAt.shutN ok2 rfl (by rw [List.length_set]) rfl rfl rfl))
    · have e1 := cAdd_no hlt
      repeat' (first | refine sts ?_ | refine And.intro ?_ ?_ | (intro e; exfalso; omega) | (intro e; subst e) | intro _)
      exact again hK ⟨1, by omega⟩ (by dsimp only; omega) (he := by show Ent _ [SketchAt q seed w (cAdd C0 (plS h w 0)) C1 C2 C3 ad, F]; rw [e1]; exact en)
  · show TC _ _ _ _ _ _ _ _ [SketchAt q seed w (cAdd C0 (plS h w 0)) C1 C2 C3 ad, F]
    have g : RowC 1 (cAdd C0 (plS h w 0)) C1 C2 C3 C1 := ⟨.inr (.inl ⟨rfl, rfl⟩)⟩
    by_cases hlt : C1.getD (plS h w 1) 0 < 15
    · have e1 := cAdd_yes hlt
      repeat' (first | ((fail_if_success (refine atD ?_)); refine sts ?_) | refine And.intro ?_ ?_ | (intro e; exfalso; omega) | (intro e; subst e) | intro _)
      refine SketchAt.openC fun W0 W1 W2 W3 b0 b1 b2 b3 c0 c1 c2 c3 ok => ?_
      have hl := ok.k1.len
      have hj : plS h w 1 / 16 < W1.length := by omega
      have ok2 : SkOk w (cAdd C0 (plS h w 0)) (cAdd C1 (plS h w 1)) C2 C3 W0 (W1.set (plS h w 1 / 16) (at64 W1 (plS h w 1 / 16) + 1#64 <<< (plS h w 1 % 16 * 4))) W2 W3 := ⟨ok.k0, by rw [e1]; exact ok.k1.add (by omega) hlt, ok.k2, ok.k3, ok.l0, by rw [e1, List.length_set]; exact ok.l1, ok.l2, ok.l3, ok.pw⟩
      refine drx [Vec 22 1 (some ⟨b1, 0, none⟩) W1.length c1 (w64 W1)] ?_
      refine tks [0, 1, 6, 10, 2, 7, 11, 3, 12, 4, 13, 5, 8] 4 ?_; repeat' (first | refine sts ?_ | refine And.intro ?_ ?_ | (intro e; exfalso; omega) | (intro e; subst e) | intro _)
      refine hvr 9 ?_
      refine tks [14, 15] 1 ?_; repeat' (first | refine sts ?_ | refine And.intro ?_ ?_ | (intro e; exfalso; omega) | (intro e; subst e) | intro _)
      refine hv0 16 fun x16 => ?_
      repeat' (first | refine sts ?_ | refine And.intro ?_ ?_ | (intro e; exfalso; omega) | (intro e; subst e) | intro _)
      exact again hK ⟨2, by omega⟩ (by dsimp only; omega) (he := by show Ent _ [SketchAt q seed w (cAdd C0 (plS h w 0)) (cAdd C1 (plS h w 1)) C2 C3 ad, F]; exact en2 (SketchAt.shutN ok2 rfl rfl (by rw [List.length_set]) rfl rfl))
    · have e1 := cAdd_no hlt
      repeat' (first | refine sts ?_ | refine And.intro ?_ ?_ | (intro e; exfalso; omega) | (intro e; subst e) | intro _)
      exact again hK ⟨2, by omega⟩ (by dsimp only; omega) (he := by show Ent _ [SketchAt q seed w (cAdd C0 (plS h w 0)) (cAdd C1 (plS h w 1)) C2 C3 ad, F]; rw [e1]; exact en)
  · show TC _ _ _ _ _ _ _ _ [SketchAt q seed w (cAdd C0 (plS h w 0)) (cAdd C1 (plS h w 1)) C2 C3 ad, F]
    have g : RowC 2 (cAdd C0 (plS h w 0)) (cAdd C1 (plS h w 1)) C2 C3 C2 := ⟨.inr (.inr (.inl ⟨rfl, rfl⟩))⟩
    by_cases hlt : C2.getD (plS h w 2) 0 < 15
    · have e1 := cAdd_yes hlt
      repeat' (first | ((fail_if_success (refine atD ?_)); refine sts ?_) | refine And.intro ?_ ?_ | (intro e; exfalso; omega) | (intro e; subst e) | intro _)
      refine SketchAt.openC fun W0 W1 W2 W3 b0 b1 b2 b3 c0 c1 c2 c3 ok => ?_
      have hl := ok.k2.len
      have hj : plS h w 2 / 16 < W2.length := by omega
      have ok2 : SkOk w (cAdd C0 (plS h w 0)) (cAdd C1 (plS h w 1)) (cAdd C2 (plS h w 2)) C3 W0 W1 (W2.set (plS h w 2 / 16) (at64 W2 (plS h w 2 / 16) + 1#64 <<< (plS h w 2 % 16 * 4))) W3 := ⟨ok.k0, ok.k1, by rw [e1]; exact ok.k2.add (by omega) hlt, ok.k3, ok.l0, ok.l1, by rw [e1, List.length_set]; exact ok.l2, ok.l3, ok.pw⟩
      refine drx [Vec 22 1 (some ⟨b2, 0, none⟩) W2.length c2 (w64 W2)] ?_
      refine tks [0, 1, 6, 10, 2, 7, 11, 3, 12, 4, 13, 5, 8] 4 ?_; repeat' (first | refine sts ?_ | refine And.intro ?_ ?_ | (intro e; exfalso; omega) | (intro e; subst e) | intro _)
      refine hvr 9 ?_
      refine tks [14, 15] 1 ?_; repeat' (first | refine sts ?_ | refine And.intro ?_ ?_ | (intro e; exfalso; omega) | (intro e; subst e) | intro _)
      refine hv0 16 fun x16 => ?_
      repeat' (first | refine sts ?_ | refine And.intro ?_ ?_ | (intro e; exfalso; omega) | (intro e; subst e) | intro _)
      exact again hK ⟨3, by omega⟩ (by dsimp only; omega) (he := by show Ent _ [SketchAt q seed w (cAdd C0 (plS h w 0)) (cAdd C1 (plS h w 1)) (cAdd C2 (plS h w 2)) C3 ad, F]; exact en2 (SketchAt.shutN ok2 rfl rfl rfl (by rw [List.length_set]) rfl))
    · have e1 := cAdd_no hlt
      repeat' (first | refine sts ?_ | refine And.intro ?_ ?_ | (intro e; exfalso; omega) | (intro e; subst e) | intro _)
      exact again hK ⟨3, by omega⟩ (by dsimp only; omega) (he := by show Ent _ [SketchAt q seed w (cAdd C0 (plS h w 0)) (cAdd C1 (plS h w 1)) (cAdd C2 (plS h w 2)) C3 ad, F]; rw [e1]; exact en)
  · show TC _ _ _ _ _ _ _ _ [SketchAt q seed w (cAdd C0 (plS h w 0)) (cAdd C1 (plS h w 1)) (cAdd C2 (plS h w 2)) C3 ad, F]
    have g : RowC 3 (cAdd C0 (plS h w 0)) (cAdd C1 (plS h w 1)) (cAdd C2 (plS h w 2)) C3 C3 := ⟨.inr (.inr (.inr ⟨rfl, rfl⟩))⟩
    by_cases hlt : C3.getD (plS h w 3) 0 < 15
    · have e1 := cAdd_yes hlt
      repeat' (first | ((fail_if_success (refine atD ?_)); refine sts ?_) | refine And.intro ?_ ?_ | (intro e; exfalso; omega) | (intro e; subst e) | intro _)
      refine SketchAt.openC fun W0 W1 W2 W3 b0 b1 b2 b3 c0 c1 c2 c3 ok => ?_
      have hl := ok.k3.len
      have hj : plS h w 3 / 16 < W3.length := by omega
      have ok2 : SkOk w (cAdd C0 (plS h w 0)) (cAdd C1 (plS h w 1)) (cAdd C2 (plS h w 2)) (cAdd C3 (plS h w 3)) W0 W1 W2 (W3.set (plS h w 3 / 16) (at64 W3 (plS h w 3 / 16) + 1#64 <<< (plS h w 3 % 16 * 4))) := ⟨ok.k0, ok.k1, ok.k2, by rw [e1]; exact ok.k3.add (by omega) hlt, ok.l0, ok.l1, ok.l2, by rw [e1, List.length_set]; exact ok.l3, ok.pw⟩
      refine drx [Vec 22 1 (some ⟨b3, 0, none⟩) W3.length c3 (w64 W3)] ?_
      refine tks [0, 1, 6, 10, 2, 7, 11, 3, 12, 4, 13, 5, 8] 4 ?_; repeat' (first | refine sts ?_ | refine And.intro ?_ ?_ | (intro e; exfalso; omega) | (intro e; subst e) | intro _)
      refine hvr 9 ?_
      refine tks [14, 15] 1 ?_; repeat' (first | refine sts ?_ | refine And.intro ?_ ?_ | (intro e; exfalso; omega) | (intro e; subst e) | intro _)
      refine hv0 16 fun x16 => ?_
      repeat' (first | refine sts ?_ | refine And.intro ?_ ?_ | (intro e; exfalso; omega) | (intro e; subst e) | intro _)
      exact again hK ⟨4, by omega⟩ (by dsimp only; omega) (he := by show Ent _ [SketchAt q seed w (cAdd C0 (plS h w 0)) (cAdd C1 (plS h w 1)) (cAdd C2 (plS h w 2)) (cAdd C3 (plS h w 3)) ad, F]; exact en2 (SketchAt.shutN ok2 rfl rfl rfl rfl (by rw [List.length_set])))
    · have e1 := cAdd_no hlt
      repeat' (first | refine sts ?_ | refine And.intro ?_ ?_ | (intro e; exfalso; omega) | (intro e; subst e) | intro _)
      exact again hK ⟨4, by omega⟩ (by dsimp only; omega) (he := by show Ent _ [SketchAt q seed w (cAdd C0 (plS h w 0)) (cAdd C1 (plS h w 1)) (cAdd C2 (plS h w 2)) (cAdd C3 (plS h w 3)) ad, F]; rw [e1]; exact en)
  · obtain rfl : v = 0 := by omega
    show TC _ _ _ _ _ _ _ _ [SketchAt q seed w (cAdd C0 (plS h w 0)) (cAdd C1 (plS h w 1)) (cAdd C2 (plS h w 2)) (cAdd C3 (plS h w 3)) ad, F]
    refine SketchAt.openC fun W0 W1 W2 W3 b0 b1 b2 b3 c0 c1 c2 c3 ok => ?_
    repeat' (first | ((fail_if_success (refine atD ?_)); refine sts ?_) | refine And.intro ?_ ?_ | (intro e; exfalso; omega) | (intro e; subst e) | intro _)
    refine drx [] ?_
    refine tks [0, 4, 1, 5, 2, 6, 3, 7, 8] 0 ?_; repeat' (first | refine sts ?_ | refine And.intro ?_ ?_ | (intro e; exfalso; omega) | (intro e; subst e) | intro _)
    exact rt2 () rfl (he := en2 (SketchAt.shutN ok rfl rfl rfl rfl rfl))⟩
end Go.Proofs.YtdpiglociolagaaGreat
