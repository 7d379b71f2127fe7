/- Numbers of 64 bits; arrays in memory; '==' on arrays. For whatever program. -/
import Derived.Test.YtdpiglociolagaaGreatSlCv
import Derived.ChangeKeysEq
namespace Go.Sl
class BV (x : Int) (a : outParam (BitVec 64)) : Prop where
  out : x = (a.toNat : Int)
instance (priority := high) bv_cast (a : BitVec 64) : BV ((a.toNat : Nat) : Int) a := ⟨rfl⟩
instance : BV 0 0#64 := ⟨rfl⟩
instance : BV 1 1#64 := ⟨rfl⟩
instance : BV 18446744073709551615 (BitVec.allOnes 64) := ⟨by decide⟩
theorem wrap64 (x : Int) : IntKind.u64.wrap x = x % 18446744073709551616 := rfl
theorem wrap64_bv (a : BitVec 64) : IntKind.u64.wrap (a.toNat : Int) = (a.toNat : Int) := by
  have := a.isLt
  rw [wrap64]; omega
theorem c64 : ((2 ^ 64 : Nat) : Int) = 18446744073709551616 := by decide
theorem ofInt64 (a : BitVec 64) : BitVec.ofInt 64 ((a.toNat : Nat) : Int) = a := by
  rw [BitVec.ofInt_natCast, BitVec.ofNat_toNat, BitVec.setWidth_eq]
theorem run_or64 {P : Program} (a b : BitVec 64) (w : World) : (Op.intBits .or .u64 (a.toNat : Int) (b.toNat : Int)).run P w = .ok (.int .u64 ((a ||| b).toNat : Nat)) w := by
  show Result.ok (Value.int .u64 (IntKind.u64.wrap ((BitVec.ofInt 64 (a.toNat : Int) ||| BitVec.ofInt 64 (b.toNat : Int)).toNat : Int))) w = _
  rw [ofInt64, ofInt64, wrap64_bv]
theorem run_and64 {P : Program} (a b : BitVec 64) (w : World) : (Op.intBits .and .u64 (a.toNat : Int) (b.toNat : Int)).run P w = .ok (.int .u64 ((a &&& b).toNat : Nat)) w := by
  show Result.ok (Value.int .u64 (IntKind.u64.wrap ((BitVec.ofInt 64 (a.toNat : Int) &&& BitVec.ofInt 64 (b.toNat : Int)).toNat : Int))) w = _
  rw [ofInt64, ofInt64, wrap64_bv]
theorem run_xor64 {P : Program} (a b : BitVec 64) (w : World) : (Op.intBits .xor .u64 (a.toNat : Int) (b.toNat : Int)).run P w = .ok (.int .u64 ((a ^^^ b).toNat : Nat)) w := by
  show Result.ok (Value.int .u64 (IntKind.u64.wrap ((BitVec.ofInt 64 (a.toNat : Int) ^^^ BitVec.ofInt 64 (b.toNat : Int)).toNat : Int))) w = _
  rw [ofInt64, ofInt64, wrap64_bv]
theorem run_andn64 {P : Program} (a b : BitVec 64) (w : World) : (Op.intBits .andNot .u64 (a.toNat : Int) (b.toNat : Int)).run P w = .ok (.int .u64 ((a &&& ~~~b).toNat : Nat)) w := by
  show Result.ok (Value.int .u64 (IntKind.u64.wrap ((BitVec.ofInt 64 (a.toNat : Int) &&& ~~~BitVec.ofInt 64 (b.toNat : Int)).toNat : Int))) w = _
  rw [ofInt64, ofInt64, wrap64_bv]
section
variable {r : Option Nat} {P : Program} {n : Nat} {ds : List Deferred} {env : Env} {lc : List HP} {dst : Option Tmp} {ty : TypeId} {pos : String} {af : Array Edge} {g : Option (Nat × Bool)} {all : Array Oper} {t : TypeId} {x y : Operand} {yt : TypeId} {i j : Int} {a b : BitVec 64}
theorem opq_or64 (hw : Want all ⟨dst, .binOp .or t x y yt, ty, pos, af, g⟩ env) (hx : ev env x = some (.int .u64 i)) (hy : ev env y = some (.int .u64 j)) (ha : BV i a) (hb : BV j b) : OpQ r P all ⟨dst, .binOp .or t x y yt, ty, pos, af, g⟩ n ds env lc (.int .u64 ((a ||| b).toNat : Nat)) :=
  opq_bin hw hx hy (eqGuard_int _ _ _ _ _ _ _ _) fun w => by rw [ha.out, hb.out]; exact run_or64 a b w
theorem opq_and64 (hw : Want all ⟨dst, .binOp .and t x y yt, ty, pos, af, g⟩ env) (hx : ev env x = some (.int .u64 i)) (hy : ev env y = some (.int .u64 j)) (ha : BV i a) (hb : BV j b) : OpQ r P all ⟨dst, .binOp .and t x y yt, ty, pos, af, g⟩ n ds env lc (.int .u64 ((a &&& b).toNat : Nat)) :=
  opq_bin hw hx hy (eqGuard_int _ _ _ _ _ _ _ _) fun w => by rw [ha.out, hb.out]; exact run_and64 a b w
theorem opq_andn64 (hw : Want all ⟨dst, .binOp .andNot t x y yt, ty, pos, af, g⟩ env) (hx : ev env x = some (.int .u64 i)) (hy : ev env y = some (.int .u64 j)) (ha : BV i a) (hb : BV j b) : OpQ r P all ⟨dst, .binOp .andNot t x y yt, ty, pos, af, g⟩ n ds env lc (.int .u64 ((a &&& ~~~b).toNat : Nat)) :=
  opq_bin hw hx hy (eqGuard_int _ _ _ _ _ _ _ _) fun w => by rw [ha.out, hb.out]; exact run_andn64 a b w
theorem opq_xor64 (hw : Want all ⟨dst, .binOp .xor t x y yt, ty, pos, af, g⟩ env) (hx : ev env x = some (.int .u64 i)) (hy : ev env y = some (.int .u64 j)) (ha : BV i a) (hb : BV j b) : OpQ r P all ⟨dst, .binOp .xor t x y yt, ty, pos, af, g⟩ n ds env lc (.int .u64 ((a ^^^ b).toNat : Nat)) :=
  opq_bin hw hx hy (eqGuard_int _ _ _ _ _ _ _ _) fun w => by rw [ha.out, hb.out]; exact run_xor64 a b w
theorem opq_mul64 (hw : Want all ⟨dst, .binOp .mul t x y yt, ty, pos, af, g⟩ env) (hx : ev env x = some (.int .u64 i)) (hy : ev env y = some (.int .u64 j)) (ha : BV i a) (hb : BV j b) : OpQ r P all ⟨dst, .binOp .mul t x y yt, ty, pos, af, g⟩ n ds env lc (.int .u64 ((a * b).toNat : Nat)) :=
  opq_as (opq_mul hw hx hy) (congrArg (Value.int .u64) (by rw [ha.out, hb.out, wrap64, BitVec.toNat_mul, Int.natCast_emod, Int.natCast_mul, c64]))
theorem opq_shl64 {m : Nat} {k : IntKind} (hw : Want all ⟨dst, .binOp .shl t x y yt, ty, pos, af, g⟩ env) (hx : ev env x = some (.int .u64 i)) (hy : ev env y = some (.int k j)) (ha : BV i a) (hb : NatI j m) (hm : m < 64) : OpQ r P all ⟨dst, .binOp .shl t x y yt, ty, pos, af, g⟩ n ds env lc (.int .u64 ((a <<< m).toNat : Nat)) :=
  opq_bin hw hx hy (eqGuard_int _ _ _ _ _ _ _ _) fun w => by
    rw [ha.out, hb.out]
    have h1 : min (m : Int).toNat IntKind.u64.bits = m := by show min (m : Int).toNat 64 = m; omega
    have e : IntKind.u64.wrap ((a.toNat : Int) * 2 ^ min (m : Int).toNat IntKind.u64.bits) = (((a <<< m).toNat : Nat) : Int) := by
      rw [h1, wrap64, BitVec.toNat_shiftLeft, Nat.shiftLeft_eq, Int.natCast_emod, Int.natCast_mul, Int.natCast_pow, c64]; rfl
    have h0 : ¬ ((m : Int) < 0) := by omega
    have e2 : (binOp .shl t (.int .u64 (a.toNat : Int)) (.int k (m : Int))) = (pure (.int .u64 (IntKind.u64.wrap ((a.toNat : Int) * 2 ^ min (m : Int).toNat IntKind.u64.bits))) : Sem Value) := by
      show Op.shift .shl .u64 _ k _ = _
      unfold Op.shift
      rw [if_neg h0]
    rw [e2, e]; rfl
theorem opq_shr64 {m : Nat} {k : IntKind} (hw : Want all ⟨dst, .binOp .shr t x y yt, ty, pos, af, g⟩ env) (hx : ev env x = some (.int .u64 i)) (hy : ev env y = some (.int k j)) (ha : BV i a) (hb : NatI j m) (hm : m < 64) : OpQ r P all ⟨dst, .binOp .shr t x y yt, ty, pos, af, g⟩ n ds env lc (.int .u64 ((a >>> m).toNat : Nat)) :=
  opq_bin hw hx hy (eqGuard_int _ _ _ _ _ _ _ _) fun w => by
    rw [ha.out, hb.out]
    have h1 : min (m : Int).toNat IntKind.u64.bits = m := by show min (m : Int).toNat 64 = m; omega
    have e : (a.toNat : Int).fdiv (2 ^ min (m : Int).toNat IntKind.u64.bits) = (((a >>> m).toNat : Nat) : Int) := by
      rw [h1, BitVec.toNat_ushiftRight, Nat.shiftRight_eq_div_pow, Int.fdiv_eq_ediv_of_nonneg _ (Int.pow_nonneg (by decide)), Int.natCast_ediv, Int.natCast_pow]; rfl
    have h0 : ¬ ((m : Int) < 0) := by omega
    have e2 : (binOp .shr t (.int .u64 (a.toNat : Int)) (.int k (m : Int))) = (pure (.int .u64 ((a.toNat : Int).fdiv (2 ^ min (m : Int).toNat IntKind.u64.bits))) : Sem Value) := by
      show Op.shift .shr .u64 _ k _ = _
      unfold Op.shift
      rw [if_neg h0]
    rw [e2, e]; rfl
theorem opq_neg64 (hw : Want all ⟨dst, .unOp .neg t x, ty, pos, af, g⟩ env) (hx : ev env x = some (.int .u64 i)) (ha : BV i a) : OpQ r P all ⟨dst, .unOp .neg t x, ty, pos, af, g⟩ n ds env lc (.int .u64 ((-a).toNat : Nat)) :=
  opq_as (opq_neg hw hx) (congrArg (Value.int .u64) (by
    have := a.isLt
    rw [ha.out, wrap64, BitVec.toNat_neg]; omega))
/-! ### Arrays in memory -/
theorem opq_ixArr {e : TypeId} {b o len m size bytes : Nat} {k : IntKind} {z : Value} (hw : Want all ⟨dst, .indexAddr t x y, ty, pos, af, g⟩ env) (hx : ev env x = some (.pointer (some ⟨b, o, none⟩))) (hy : ev env y = some (.int k i)) (hi : NatI i m) [hu : UL P t (.array len e)] [hti : TI P e z size bytes] (hm : m < len) :
    OpQ r P all ⟨dst, .indexAddr t x y, ty, pos, af, g⟩ n ds env lc (.pointer (some ⟨b, o + m * size, none⟩)) :=
  opq_pure hw (by simp) fun ac w ha => by
    have e1 := ha.ev (x := x) (by simp [Op.operands]) hx
    have e2 := ha.ev (x := y) (by simp [Op.operands]) hy
    rw [hi.out] at e2
    obtain ⟨i0, hi0, _, hs, _⟩ := info_parts hti.out
    have h3 : Addr.add ⟨b, o, none⟩ (m * size) = ⟨b, o + m * size, none⟩ := by unfold Addr.add; split <;> simp_all
    have hsz : (sizeOf e).run P w = .ok size w := by simp [sizeOf, typeInfo, hi0, hs]
    have h4 : (0 : Int) ≤ (m : Int) ∧ (m : Int) < (len : Int) := by omega
    simp [execOp, e1, e2, Instr.indexAt, Instr.sureAddr, asIntOf, run_underlying hu.out, hm, hsz, h3]
inductive TakeL : List Value → Nat → List Value → Prop
  | nil {cs : List Value} : TakeL cs 0 []
  | cons {c : Value} {cs vs : List Value} {m : Nat} (h : TakeL cs m vs) : TakeL (c :: cs) (m + 1) (c :: vs)
inductive SubL : List Value → Nat → Nat → List Value → Prop
  | here {cs vs : List Value} {m : Nat} (h : TakeL cs m vs) : SubL cs 0 m vs
  | there {c : Value} {cs vs : List Value} {k m : Nat} (h : SubL cs k m vs) : SubL (c :: cs) (k + 1) m vs
theorem TakeL.out {cs vs : List Value} {m : Nat} (h : TakeL cs m vs) : vs.length = m ∧ ∀ (j : Nat) v, vs[j]? = some v → cs[j]? = some v := by
  induction h with
  | nil => exact ⟨rfl, fun j v h => by simp at h⟩
  | cons h ih =>
    refine ⟨by rw [List.length_cons, ih.1], fun j v hv => ?_⟩
    cases j with
    | zero => simpa using hv
    | succ j => simpa using ih.2 j v (by simpa using hv)
theorem SubL.out {cs vs : List Value} {k m : Nat} (h : SubL cs k m vs) : vs.length = m ∧ ∀ (j : Nat) v, vs[j]? = some v → cs[k + j]? = some v := by
  induction h with
  | here h => exact ⟨h.out.1, fun j v hv => by rw [Nat.zero_add]; exact h.out.2 j v hv⟩
  | there h ih => exact ⟨ih.1, fun j v hv => by rw [Nat.add_right_comm]; simpa using ih.2 j v hv⟩
theorem opq_loadSub {b off T size : Nat} {cs vs : List Value} {r' : List HP} (hw : Want all ⟨dst, .load t x, ty, pos, af, g⟩ env) (hx : ev env x = some (.pointer (some ⟨b, off, none⟩))) [ht : IAgg P t size] (hr : Rem lc (obj b T cs) r') (hs : SubL cs off size vs) :
    OpQ r P all ⟨dst, .load t x, ty, pos, af, g⟩ n ds env lc (.agg vs.toArray) :=
  opq_loadAgg hw hx (fun h hl => ⟨rfl, fun j v hj => ⟨cs.toArray, T, (0, 0), true, lst_blk (hr.out hl), by simpa using hs.out.2 j v hj⟩⟩) hs.out.1
inductive OverL : List Value → List Value → List Value → Prop
  | nil {cs : List Value} : OverL [] cs cs
  | cons {v c : Value} {vs cs cs' : List Value} (h : OverL vs cs cs') : OverL (v :: vs) (c :: cs) (v :: cs')
inductive SetAtN : Nat → List Value → List Value → List Value → Prop
  | here {vs cs cs' : List Value} (h : OverL vs cs cs') : SetAtN 0 vs cs cs'
  | there {i : Nat} {c : Value} {vs cs cs' : List Value} (h : SetAtN i vs cs cs') : SetAtN (i + 1) vs (c :: cs) (c :: cs')
inductive BldM (places : List (Nat × Nat)) : List Nat → List Value → List Value → List Value → Prop
  | nil {cs : List Value} : BldM places [] [] cs cs
  | cons {i off size : Nat} {is : List Nat} {v : Value} {ws vs cs cs1 cs2 : List Value} (hp : places[i]? = some (off, size)) (hv : IsCells v ws) (hl : ws.length = size) (h : SetAtN off ws cs cs1) (t : BldM places is vs cs1 cs2) : BldM places (i :: is) (v :: vs) cs cs2
theorem OverL.out {vs cs cs' : List Value} (h : OverL vs cs cs') : vs.length ≤ cs.length ∧ ∀ pre : List Value, setL (pre ++ cs) pre.length vs = pre ++ cs' := by
  induction h with
  | nil => exact ⟨by simp, fun pre => rfl⟩
  | @cons v c vs cs cs' h ih =>
    refine ⟨by simpa using ih.1, fun pre => ?_⟩
    have h2 := ih.2 (pre ++ [v])
    simp only [List.length_append, List.length_singleton, List.append_assoc, List.singleton_append] at h2
    show setL ((pre ++ c :: cs).set pre.length v) (pre.length + 1) vs = _
    rw [show (pre ++ c :: cs).set pre.length v = pre ++ v :: cs by simp, h2]
theorem SetAtN.out {i : Nat} {vs cs cs' : List Value} (h : SetAtN i vs cs cs') : i + vs.length ≤ cs.length ∧ ∀ pre : List Value, setL (pre ++ cs) (pre.length + i) vs = pre ++ cs' := by
  induction h with
  | here h => exact ⟨by have := h.out.1; omega, fun pre => by rw [Nat.add_zero]; exact h.out.2 pre⟩
  | @there i c vs cs cs' h ih =>
    refine ⟨by have := ih.1; simp only [List.length_cons]; omega, fun pre => ?_⟩
    have h2 := ih.2 (pre ++ [c])
    simp only [List.length_append, List.length_singleton, List.append_assoc, List.singleton_append] at h2
    rw [show pre.length + (i + 1) = pre.length + 1 + i by omega]; exact h2
theorem BldM.out {places : List (Nat × Nat)} {is : List Nat} {vs cs cs' : List Value} (h : BldM places is vs cs cs') : bld places (is.zip vs) cs = some cs' := by
  induction h with
  | nil => rfl
  | @cons i off size is v ws vs cs cs1 cs2 hp hv hl h t ih =>
    obtain ⟨h1, _⟩ := hv.eq
    obtain ⟨h2, h3⟩ := h.out
    have h4 := h3 []
    simp only [List.nil_append, List.length_nil, Nat.zero_add] at h4
    simp only [List.zip_cons_cons, bld, hp, h1, List.toList_toArray]
    rw [if_neg (by rw [hl] at h2; rw [hl]; omega), h4]
    exact ih
theorem opq_buildM {parts : Array (Nat × Operand)} {vs cs zs : List Value} {places : List (Nat × Nat)} (hw : Want all ⟨dst, .build t parts, ty, pos, af, g⟩ env) (hb : BL P t places zs) (hx : Evs env (parts.toList.map (·.2)) vs) (hc : BldM places (parts.toList.map (·.1)) vs zs cs) :
    OpQ r P all ⟨dst, .build t parts, ty, pos, af, g⟩ n ds env lc (.agg cs.toArray) := by
  have hz : parts = ((parts.toList.map (·.1)).zip (parts.toList.map (·.2))).toArray := by
    apply Array.ext'
    have : ∀ l : List (Nat × Operand), l = (l.map (·.1)).zip (l.map (·.2)) := by
      intro l
      induction l with
      | nil => rfl
      | cons x l ih => simp only [List.map_cons, List.zip_cons_cons]; rw [← ih]
    simpa using this parts.toList
  exact opq_build hw hz (by simp) hx hc.out
theorem opq_buildZ {e : TypeId} {k size bytes bytes' : Nat} {ze : Value} {zs : List Value} (hw : Want all ⟨dst, .build t #[], ty, pos, af, g⟩ env) (hu : UL P t (.array k e)) (ht : TI P t (.agg zs.toArray) size bytes) (hi : TI P e ze 1 bytes') : OpQ r P all ⟨dst, .build t #[], ty, pos, af, g⟩ n ds env lc (.agg zs.toArray) :=
  opq_pure hw (by simp) fun a w ha => by
    obtain ⟨i0, hi0, _, hs0, _⟩ := info_parts hi.out
    obtain ⟨i1, hi1, hz1, _, _⟩ := info_parts ht.out
    have hsz : (sizeOf e).run P w = .ok 1 w := by simp [sizeOf, typeInfo, hi0, hs0]
    have hzr : (zeroValue t).run P w = .ok (.agg zs.toArray) w := by simp [zeroValue, typeInfo, hi1, hz1]
    have hb : (Instr.build t #[]).run P w = .ok (.agg zs.toArray) w := by
      unfold Instr.build
      rw [Sem.run_bind, hzr]
      simp only [Result.andThen]
      rw [Sem.run_bind, run_underlying hu.out]
      simp only [Result.andThen]
      rw [Sem.run_bind, hsz]
      simp only [Result.andThen, Value.cells, Instr.fill]
      rfl
    simp [execOp, hb]
/-! ### '==' on arrays of numbers -/
class EqA (P : Program) (t : TypeId) (k : outParam IntKind) (len : outParam Nat) : Prop where
  out : ((!P.eqGuardType P.depth t) && (match P.underlying t with | some (.array m e) => Nat.beq m len && (match P.underlying e with | some (.int k') => k == k' | _ => false) && (P.info? e).isSome && Nat.beq (P.cellsOf e) 1 | _ => false)) = true
def allK (k : IntKind) : List Value → Bool
  | [] => true
  | .int k' _ :: vs => (k' == k) && allK k vs
  | _ => false
theorem run_eqItems {d : Nat} {e : TypeId} {k k' : IntKind} {XS YS : Array Value} {w : World} (he : P.underlying e = some (.int k')) : ∀ (m i : Nat) (xs ys : List Value), allK k xs = true → allK k ys = true → xs.length = m → ys.length = m → XS.toList.drop i = xs → YS.toList.drop i = ys → (Op.eqItems (d + 1) e 1 XS YS (List.range' i m)).run P w = .ok (ceqB xs ys) w
  | 0, _, [], [], _, _, _, _, _, _ => by simp [Op.eqItems, ceqB]
  | m + 1, i, .int k1 a :: xs, .int k2 b :: ys, hx, hy, lx, ly, dx, dy => by
    have hget : ∀ (A : Array Value) (x : Value) (r : List Value), A.toList.drop i = x :: r → A[i]? = some x ∧ A.toList.drop (i + 1) = r := fun A x r h => by
      have h1 : A.toList[i]? = some x := by
        have := congrArg (·[0]?) h
        simpa [List.getElem?_drop] using this
      refine ⟨by simpa using h1, ?_⟩
      rw [← List.drop_drop (i := 1) (j := i), h]; rfl
    obtain ⟨g1, g2⟩ := hget XS _ _ dx
    obtain ⟨g3, g4⟩ := hget YS _ _ dy
    simp only [allK, Bool.and_eq_true, beq_iff_eq] at hx hy
    obtain ⟨rfl, hx⟩ := hx
    obtain ⟨rfl, hy⟩ := hy
    have ha : (isAgg e).run P w = .ok false w := by simp [isAgg, run_underlying he]
    have p1 : (part e XS (i * 1)).run P w = .ok (.int k2 a) w := by simp [part, ha, g1]
    have p2 : (part e YS (i * 1)).run P w = .ok (.int k2 b) w := by simp [part, ha, g3]
    have p3 : (Op.equalIn (d + 1) e (.int k2 a) (.int k2 b)).run P w = .ok (a == b) w := by simp [Op.equalIn, run_underlying he]
    have ih := run_eqItems (d := d) (w := w) (k := k2) he m (i + 1) xs ys hx hy (by simpa using lx) (by simpa using ly) g2 g4
    rw [List.range'_succ]
    simp only [Op.eqItems, Sem.run_bind, p1, p2, p3, Result.andThen_ok, ceqB, vEq]
    cases hab : (a == b) with
    | true => simp [ih]
    | false => simp
theorem run_eqA {k : IntKind} {len : Nat} {xs ys : List Value} (he : EqA P t k len) (hx : allK k xs = true) (hy : allK k ys = true) (lx : xs.length = len) (ly : ys.length = len) (d : Nat) (w : World) : (Op.equalIn (d + 2) t (.agg xs.toArray) (.agg ys.toArray)).run P w = .ok (ceqB xs ys) w := by
  have h := he.out
  simp only [Bool.and_eq_true, Bool.not_eq_true'] at h
  obtain ⟨_, h3⟩ := h
  cases hu : P.underlying t with
  | none => rw [hu] at h3; cases h3
  | some u =>
    cases u with
    | array m e =>
      rw [hu] at h3
      simp only [Bool.and_eq_true] at h3
      obtain ⟨⟨⟨h4, h5⟩, h6⟩, h7⟩ := h3
      obtain rfl := Nat.eq_of_beq_eq_true h4
      have h7' : P.cellsOf e = 1 := Nat.eq_of_beq_eq_true h7
      obtain ⟨inf, hi⟩ := Option.isSome_iff_exists.1 h6
      have hk : ∃ k', P.underlying e = some (.int k') := by
        cases hq : P.underlying e with
        | none => rw [hq] at h5; cases h5
        | some q => rw [hq] at h5; cases q <;> first | exact ⟨_, rfl⟩ | cases h5
      obtain ⟨k', hk⟩ := hk
      rw [run_equalIn_array w (d + 1) xs.toArray ys.toArray hu hi, h7', List.range_eq_range']
      exact run_eqItems hk m 0 xs ys hx hy lx ly rfl rfl
    | _ => rw [hu] at h3; cases h3
theorem eqA_guard {k : IntKind} {len : Nat} {xs ys : List Value} (he : EqA P t k len) (op : BinOp) (w : World) : (eqGuard op t x y (.agg xs.toArray) (.agg ys.toArray)).run P w = .ok () w := by
  have h := he.out
  simp only [Bool.and_eq_true, Bool.not_eq_true'] at h
  exact run_eqGuard_agg w op t x y _ _ h.1
def arrB (k : IntKind) (len : Nat) (xs ys : List Value) : Bool := allK k xs && (allK k ys && (Nat.beq xs.length len && Nat.beq ys.length len))
variable {k : IntKind} {len : Nat} {xs ys : List Value} {p : Prop}
theorem opq_eqA {q : Bool} (hw : Want all ⟨dst, .binOp .eql t x y yt, ty, pos, af, g⟩ env) (hx : ev env x = some (.agg xs.toArray)) (hy : ev env y = some (.agg ys.toArray)) (he : EqA P t k len) (hk : arrB k len xs ys = true) (hb : ceqB xs ys = q) :
    OpQ r P all ⟨dst, .binOp .eql t x y yt, ty, pos, af, g⟩ n ds env lc (.bool q) := by
  simp only [arrB, Bool.and_eq_true] at hk
  exact opq_bin hw hx hy (eqA_guard he _) fun w => by rw [run_eql_struct, run_eqA he hk.1 hk.2.1 (Nat.eq_of_beq_eq_true hk.2.2.1) (Nat.eq_of_beq_eq_true hk.2.2.2) 9998 w]; simp [hb]
theorem opq_neA {q : Bool} (hw : Want all ⟨dst, .binOp .neq t x y yt, ty, pos, af, g⟩ env) (hx : ev env x = some (.agg xs.toArray)) (hy : ev env y = some (.agg ys.toArray)) (he : EqA P t k len) (hk : arrB k len xs ys = true) (hb : ceqB xs ys = q) :
    OpQ r P all ⟨dst, .binOp .neq t x y yt, ty, pos, af, g⟩ n ds env lc (.bool !q) := by
  simp only [arrB, Bool.and_eq_true] at hk
  exact opq_bin hw hx hy (eqA_guard he _) fun w => by rw [run_neq_struct, run_eqA he hk.1 hk.2.1 (Nat.eq_of_beq_eq_true hk.2.2.1) (Nat.eq_of_beq_eq_true hk.2.2.2) 9998 w]; simp [hb]
theorem opq_eqA1 (hw : Want all ⟨dst, .binOp .eql t x y yt, ty, pos, af, g⟩ env) (hx : ev env x = some (.agg xs.toArray)) (hy : ev env y = some (.agg ys.toArray)) (he : EqA P t k len) (hk : arrB k len xs ys = true) (hb : ceqB xs ys = true) :
    OpQ r P all ⟨dst, .binOp .eql t x y yt, ty, pos, af, g⟩ n ds env lc (.bool true) := opq_eqA hw hx hy he hk hb
theorem opq_eqA0 (hw : Want all ⟨dst, .binOp .eql t x y yt, ty, pos, af, g⟩ env) (hx : ev env x = some (.agg xs.toArray)) (hy : ev env y = some (.agg ys.toArray)) (he : EqA P t k len) (hk : arrB k len xs ys = true) (hb : ceqB xs ys = false) :
    OpQ r P all ⟨dst, .binOp .eql t x y yt, ty, pos, af, g⟩ n ds env lc (.bool false) := opq_eqA hw hx hy he hk hb
theorem opq_eqAD (hw : Want all ⟨dst, .binOp .eql t x y yt, ty, pos, af, g⟩ env) (hx : ev env x = some (.agg xs.toArray)) (hy : ev env y = some (.agg ys.toArray)) (he : EqA P t k len) (hk : arrB k len xs ys = true) (hb : (ceqB xs ys = true) ↔ p) :
    OpQ r P all ⟨dst, .binOp .eql t x y yt, ty, pos, af, g⟩ n ds env lc (.bool (@decide p (Classical.propDecidable p))) := by
  refine opq_eqA hw hx hy he hk ?_
  by_cases h : p
  · rw [hb.2 h]; exact (@decide_eq_true p (Classical.propDecidable p) h).symm
  · rw [Bool.eq_false_iff.2 fun e => h (hb.1 e)]; exact (@decide_eq_false p (Classical.propDecidable p) h).symm
theorem opq_neA1 (hw : Want all ⟨dst, .binOp .neq t x y yt, ty, pos, af, g⟩ env) (hx : ev env x = some (.agg xs.toArray)) (hy : ev env y = some (.agg ys.toArray)) (he : EqA P t k len) (hk : arrB k len xs ys = true) (hb : ceqB xs ys = true) :
    OpQ r P all ⟨dst, .binOp .neq t x y yt, ty, pos, af, g⟩ n ds env lc (.bool false) := opq_neA hw hx hy he hk hb
theorem opq_neA0 (hw : Want all ⟨dst, .binOp .neq t x y yt, ty, pos, af, g⟩ env) (hx : ev env x = some (.agg xs.toArray)) (hy : ev env y = some (.agg ys.toArray)) (he : EqA P t k len) (hk : arrB k len xs ys = true) (hb : ceqB xs ys = false) :
    OpQ r P all ⟨dst, .binOp .neq t x y yt, ty, pos, af, g⟩ n ds env lc (.bool true) := opq_neA hw hx hy he hk hb
theorem opq_neAD (hw : Want all ⟨dst, .binOp .neq t x y yt, ty, pos, af, g⟩ env) (hx : ev env x = some (.agg xs.toArray)) (hy : ev env y = some (.agg ys.toArray)) (he : EqA P t k len) (hk : arrB k len xs ys = true) (hb : (ceqB xs ys = true) ↔ p) :
    OpQ r P all ⟨dst, .binOp .neq t x y yt, ty, pos, af, g⟩ n ds env lc (.bool (@decide (¬ p) (Classical.propDecidable _))) := by
  by_cases h : p
  · rw [show (@decide (¬ p) (Classical.propDecidable _)) = false from @decide_eq_false (¬ p) (Classical.propDecidable _) (fun k => k h)]
    exact opq_neA1 hw hx hy he hk (hb.2 h)
  · rw [show (@decide (¬ p) (Classical.propDecidable _)) = true from @decide_eq_true (¬ p) (Classical.propDecidable _) h]
    exact opq_neA0 hw hx hy he hk (Bool.eq_false_iff.2 fun e => h (hb.1 e))
end
section
variable {r : Option Nat} {P : Program} {base : World} {n : Nat} {ds : List Deferred} {Q : Exit → Act → World → Prop} {env : Env} {lc l : List HP}
theorem stZ {g q : Prop} (h : q → g := by
  first | (show _ → TL _ _ _ _ _ _ _ _ _ _) | (show _ → TQ _ _ _ _ _ _ _ _ _) | fail
  first
  | (apply tl_q; (focus (first | (apply opq_or64; (focus ((first | exact want_none rfl | exact want_yes rfl rfl rfl rfl rfl | fail))); exact rfl; exact rfl; (focus (infer_instance)); (focus (infer_instance))) | (apply opq_and64; (focus ((first | exact want_none rfl | exact want_yes rfl rfl rfl rfl rfl | fail))); exact rfl; exact rfl; (focus (infer_instance)); (focus (infer_instance))) | (apply opq_andn64; (focus ((first | exact want_none rfl | exact want_yes rfl rfl rfl rfl rfl | fail))); exact rfl; exact rfl; (focus (infer_instance)); (focus (infer_instance))) | (apply opq_xor64; (focus ((first | exact want_none rfl | exact want_yes rfl rfl rfl rfl rfl | fail))); exact rfl; exact rfl; (focus (infer_instance)); (focus (infer_instance))) | (apply opq_mul64; (focus ((first | exact want_none rfl | exact want_yes rfl rfl rfl rfl rfl | fail))); exact rfl; exact rfl; (focus (infer_instance)); (focus (infer_instance))) | (apply opq_shl64; (focus ((first | exact want_none rfl | exact want_yes rfl rfl rfl rfl rfl | fail))); exact rfl; exact rfl; (focus (infer_instance)); (focus (infer_instance)); (focus (omega))) | (apply opq_shr64; (focus ((first | exact want_none rfl | exact want_yes rfl rfl rfl rfl rfl | fail))); exact rfl; exact rfl; (focus (infer_instance)); (focus (infer_instance)); (focus (omega))) | (apply opq_neg64; (focus ((first | exact want_none rfl | exact want_yes rfl rfl rfl rfl rfl | fail))); exact rfl; (focus (infer_instance))) | (apply opq_ixArr; (focus ((first | exact want_none rfl | exact want_yes rfl rfl rfl rfl rfl | fail))); exact rfl; exact rfl; (focus (infer_instance)); (focus (omega))) | (apply opq_loadSub; (focus ((first | exact want_none rfl | exact want_yes rfl rfl rfl rfl rfl | fail))); exact rfl; (focus ((repeat (first | (with_reducible exact Rem.here _ _) | (with_reducible apply Rem.there) | fail)); done)); (focus ((repeat (first | exact TakeL.nil | apply TakeL.cons | (apply SubL.here) | (apply SubL.there) | fail)); done))) | (apply opq_buildM; (focus ((first | exact want_none rfl | exact want_yes rfl rfl rfl rfl rfl | fail))); (focus (infer_instance)); (focus ((repeat (first | exact Evs.nil | (apply Evs.cons; exact rfl) | fail)); done)); (focus ((repeat (first | exact BldM.nil | (apply BldM.cons; exact rfl; (focus (first | exact IsCells.one rfl | exact IsCells.agg _ rfl | fail)); exact rfl; (focus (repeat (first | exact OverL.nil | apply OverL.cons | apply SetAtN.here | apply SetAtN.there | fail)))) | fail)); done))) | (apply opq_buildZ; (focus ((first | exact want_none rfl | exact want_yes rfl rfl rfl rfl rfl | fail))); (focus (infer_instance)); (focus (infer_instance)); (focus (infer_instance))) | fail)); exact rfl; exact Nat.lt_of_ble_eq rfl)
  | (apply tq_cons; (focus (first | (apply opq_or64; (focus ((first | exact want_none rfl | exact want_yes rfl rfl rfl rfl rfl | fail))); exact rfl; exact rfl; (focus (infer_instance)); (focus (infer_instance))) | (apply opq_and64; (focus ((first | exact want_none rfl | exact want_yes rfl rfl rfl rfl rfl | fail))); exact rfl; exact rfl; (focus (infer_instance)); (focus (infer_instance))) | (apply opq_andn64; (focus ((first | exact want_none rfl | exact want_yes rfl rfl rfl rfl rfl | fail))); exact rfl; exact rfl; (focus (infer_instance)); (focus (infer_instance))) | (apply opq_xor64; (focus ((first | exact want_none rfl | exact want_yes rfl rfl rfl rfl rfl | fail))); exact rfl; exact rfl; (focus (infer_instance)); (focus (infer_instance))) | (apply opq_mul64; (focus ((first | exact want_none rfl | exact want_yes rfl rfl rfl rfl rfl | fail))); exact rfl; exact rfl; (focus (infer_instance)); (focus (infer_instance))) | (apply opq_shl64; (focus ((first | exact want_none rfl | exact want_yes rfl rfl rfl rfl rfl | fail))); exact rfl; exact rfl; (focus (infer_instance)); (focus (infer_instance)); (focus (omega))) | (apply opq_shr64; (focus ((first | exact want_none rfl | exact want_yes rfl rfl rfl rfl rfl | fail))); exact rfl; exact rfl; (focus (infer_instance)); (focus (infer_instance)); (focus (omega))) | (apply opq_neg64; (focus ((first | exact want_none rfl | exact want_yes rfl rfl rfl rfl rfl | fail))); exact rfl; (focus (infer_instance))) | (apply opq_ixArr; (focus ((first | exact want_none rfl | exact want_yes rfl rfl rfl rfl rfl | fail))); exact rfl; exact rfl; (focus (infer_instance)); (focus (omega))) | (apply opq_loadSub; (focus ((first | exact want_none rfl | exact want_yes rfl rfl rfl rfl rfl | fail))); exact rfl; (focus ((repeat (first | (with_reducible exact Rem.here _ _) | (with_reducible apply Rem.there) | fail)); done)); (focus ((repeat (first | exact TakeL.nil | apply TakeL.cons | (apply SubL.here) | (apply SubL.there) | fail)); done))) | (apply opq_buildM; (focus ((first | exact want_none rfl | exact want_yes rfl rfl rfl rfl rfl | fail))); (focus (infer_instance)); (focus ((repeat (first | exact Evs.nil | (apply Evs.cons; exact rfl) | fail)); done)); (focus ((repeat (first | exact BldM.nil | (apply BldM.cons; exact rfl; (focus (first | exact IsCells.one rfl | exact IsCells.agg _ rfl | fail)); exact rfl; (focus (repeat (first | exact OverL.nil | apply OverL.cons | apply SetAtN.here | apply SetAtN.there | fail)))) | fail)); done))) | (apply opq_buildZ; (focus ((first | exact want_none rfl | exact want_yes rfl rfl rfl rfl rfl | fail))); (focus (infer_instance)); (focus (infer_instance)); (focus (infer_instance))) | fail)); exact rfl)
  | fail) : q → g := h
theorem stZE {g q : Prop} (h : q → g := by
  first | (show _ → TL _ _ _ _ _ _ _ _ _ _) | (show _ → TQ _ _ _ _ _ _ _ _ _) | fail
  first
  | (apply tl_q; (focus (first | (apply opq_eqA1; (focus ((first | exact want_none rfl | exact want_yes rfl rfl rfl rfl rfl | fail))); exact rfl; exact rfl; (focus (infer_instance)); exact rfl; (focus (first | (simp only [ceqB, vEq, Bool.and_eq_true, beq_iff_eq, and_true, Bool.and_true]; (repeat (first | assumption | exact rfl | (refine And.intro ?_ ?_) | omega | fail)); done) | fail))) | (apply opq_eqA0; (focus ((first | exact want_none rfl | exact want_yes rfl rfl rfl rfl rfl | fail))); exact rfl; exact rfl; (focus (infer_instance)); exact rfl; (focus (first | (refine Bool.eq_false_iff.2 ?_; simp only [ceqB, vEq, Bool.and_eq_true, beq_iff_eq, and_true, Bool.and_true]; first | assumption | (intro h0; first | omega | (simp_all; done) | fail) | fail) | fail))) | (apply opq_eqAD; (focus ((first | exact want_none rfl | exact want_yes rfl rfl rfl rfl rfl | fail))); exact rfl; exact rfl; (focus (infer_instance)); exact rfl; (focus (simp only [ceqB, vEq, Bool.and_eq_true, beq_iff_eq, and_true, Bool.and_true]; exact Iff.rfl))) | (apply opq_neA1; (focus ((first | exact want_none rfl | exact want_yes rfl rfl rfl rfl rfl | fail))); exact rfl; exact rfl; (focus (infer_instance)); exact rfl; (focus (first | (simp only [ceqB, vEq, Bool.and_eq_true, beq_iff_eq, and_true, Bool.and_true]; (repeat (first | assumption | exact rfl | (refine And.intro ?_ ?_) | omega | fail)); done) | fail))) | (apply opq_neA0; (focus ((first | exact want_none rfl | exact want_yes rfl rfl rfl rfl rfl | fail))); exact rfl; exact rfl; (focus (infer_instance)); exact rfl; (focus (first | (refine Bool.eq_false_iff.2 ?_; simp only [ceqB, vEq, Bool.and_eq_true, beq_iff_eq, and_true, Bool.and_true]; first | assumption | (intro h0; first | omega | (simp_all; done) | fail) | fail) | fail))) | (apply opq_neAD; (focus ((first | exact want_none rfl | exact want_yes rfl rfl rfl rfl rfl | fail))); exact rfl; exact rfl; (focus (infer_instance)); exact rfl; (focus (simp only [ceqB, vEq, Bool.and_eq_true, beq_iff_eq, and_true, Bool.and_true]; exact Iff.rfl))) | fail)); exact rfl; exact Nat.lt_of_ble_eq rfl)
  | (apply tq_cons; (focus (first | (apply opq_eqA1; (focus ((first | exact want_none rfl | exact want_yes rfl rfl rfl rfl rfl | fail))); exact rfl; exact rfl; (focus (infer_instance)); exact rfl; (focus (first | (simp only [ceqB, vEq, Bool.and_eq_true, beq_iff_eq, and_true, Bool.and_true]; (repeat (first | assumption | exact rfl | (refine And.intro ?_ ?_) | omega | fail)); done) | fail))) | (apply opq_eqA0; (focus ((first | exact want_none rfl | exact want_yes rfl rfl rfl rfl rfl | fail))); exact rfl; exact rfl; (focus (infer_instance)); exact rfl; (focus (first | (refine Bool.eq_false_iff.2 ?_; simp only [ceqB, vEq, Bool.and_eq_true, beq_iff_eq, and_true, Bool.and_true]; first | assumption | (intro h0; first | omega | (simp_all; done) | fail) | fail) | fail))) | (apply opq_eqAD; (focus ((first | exact want_none rfl | exact want_yes rfl rfl rfl rfl rfl | fail))); exact rfl; exact rfl; (focus (infer_instance)); exact rfl; (focus (simp only [ceqB, vEq, Bool.and_eq_true, beq_iff_eq, and_true, Bool.and_true]; exact Iff.rfl))) | (apply opq_neA1; (focus ((first | exact want_none rfl | exact want_yes rfl rfl rfl rfl rfl | fail))); exact rfl; exact rfl; (focus (infer_instance)); exact rfl; (focus (first | (simp only [ceqB, vEq, Bool.and_eq_true, beq_iff_eq, and_true, Bool.and_true]; (repeat (first | assumption | exact rfl | (refine And.intro ?_ ?_) | omega | fail)); done) | fail))) | (apply opq_neA0; (focus ((first | exact want_none rfl | exact want_yes rfl rfl rfl rfl rfl | fail))); exact rfl; exact rfl; (focus (infer_instance)); exact rfl; (focus (first | (refine Bool.eq_false_iff.2 ?_; simp only [ceqB, vEq, Bool.and_eq_true, beq_iff_eq, and_true, Bool.and_true]; first | assumption | (intro h0; first | omega | (simp_all; done) | fail) | fail) | fail))) | (apply opq_neAD; (focus ((first | exact want_none rfl | exact want_yes rfl rfl rfl rfl rfl | fail))); exact rfl; exact rfl; (focus (infer_instance)); exact rfl; (focus (simp only [ceqB, vEq, Bool.and_eq_true, beq_iff_eq, and_true, Bool.and_true]; exact Iff.rfl))) | fail)); exact rfl)
  | fail) : q → g := h
theorem stZD {g q : Prop} (h : q → g := by
  first | (show _ → TL _ _ _ _ _ _ _ _ _ _) | (show _ → TQ _ _ _ _ _ _ _ _ _) | fail
  first
  | (apply tl_q; (focus (first | (apply opq_eqA1; (focus ((first | exact want_none rfl | exact want_yes rfl rfl rfl rfl rfl | fail))); exact rfl; exact rfl; (focus (infer_instance)); exact rfl; (focus (decide +kernel))) | (apply opq_eqA0; (focus ((first | exact want_none rfl | exact want_yes rfl rfl rfl rfl rfl | fail))); exact rfl; exact rfl; (focus (infer_instance)); exact rfl; (focus (decide +kernel))) | (apply opq_neA1; (focus ((first | exact want_none rfl | exact want_yes rfl rfl rfl rfl rfl | fail))); exact rfl; exact rfl; (focus (infer_instance)); exact rfl; (focus (decide +kernel))) | (apply opq_neA0; (focus ((first | exact want_none rfl | exact want_yes rfl rfl rfl rfl rfl | fail))); exact rfl; exact rfl; (focus (infer_instance)); exact rfl; (focus (decide +kernel))) | fail)); exact rfl; exact Nat.lt_of_ble_eq rfl)
  | (apply tq_cons; (focus (first | (apply opq_eqA1; (focus ((first | exact want_none rfl | exact want_yes rfl rfl rfl rfl rfl | fail))); exact rfl; exact rfl; (focus (infer_instance)); exact rfl; (focus (decide +kernel))) | (apply opq_eqA0; (focus ((first | exact want_none rfl | exact want_yes rfl rfl rfl rfl rfl | fail))); exact rfl; exact rfl; (focus (infer_instance)); exact rfl; (focus (decide +kernel))) | (apply opq_neA1; (focus ((first | exact want_none rfl | exact want_yes rfl rfl rfl rfl rfl | fail))); exact rfl; exact rfl; (focus (infer_instance)); exact rfl; (focus (decide +kernel))) | (apply opq_neA0; (focus ((first | exact want_none rfl | exact want_yes rfl rfl rfl rfl rfl | fail))); exact rfl; exact rfl; (focus (infer_instance)); exact rfl; (focus (decide +kernel))) | fail)); exact rfl)
  | (apply tl_q; (focus (first | (apply opq_eqA1; (focus ((first | exact want_none rfl | exact want_yes rfl rfl rfl rfl rfl | fail))); exact rfl; exact rfl; (focus (infer_instance)); exact rfl; (focus (first | (simp only [ceqB, vEq, Bool.and_eq_true, beq_iff_eq, and_true, Bool.and_true]; (repeat (first | assumption | exact rfl | (refine And.intro ?_ ?_) | omega | fail)); done) | fail))) | (apply opq_eqA0; (focus ((first | exact want_none rfl | exact want_yes rfl rfl rfl rfl rfl | fail))); exact rfl; exact rfl; (focus (infer_instance)); exact rfl; (focus (first | (refine Bool.eq_false_iff.2 ?_; simp only [ceqB, vEq, Bool.and_eq_true, beq_iff_eq, and_true, Bool.and_true]; first | assumption | (intro h0; first | omega | (simp_all; done) | fail) | fail) | fail))) | (apply opq_eqAD; (focus ((first | exact want_none rfl | exact want_yes rfl rfl rfl rfl rfl | fail))); exact rfl; exact rfl; (focus (infer_instance)); exact rfl; (focus (simp only [ceqB, vEq, Bool.and_eq_true, beq_iff_eq, and_true, Bool.and_true]; exact Iff.rfl))) | (apply opq_neA1; (focus ((first | exact want_none rfl | exact want_yes rfl rfl rfl rfl rfl | fail))); exact rfl; exact rfl; (focus (infer_instance)); exact rfl; (focus (first | (simp only [ceqB, vEq, Bool.and_eq_true, beq_iff_eq, and_true, Bool.and_true]; (repeat (first | assumption | exact rfl | (refine And.intro ?_ ?_) | omega | fail)); done) | fail))) | (apply opq_neA0; (focus ((first | exact want_none rfl | exact want_yes rfl rfl rfl rfl rfl | fail))); exact rfl; exact rfl; (focus (infer_instance)); exact rfl; (focus (first | (refine Bool.eq_false_iff.2 ?_; simp only [ceqB, vEq, Bool.and_eq_true, beq_iff_eq, and_true, Bool.and_true]; first | assumption | (intro h0; first | omega | (simp_all; done) | fail) | fail) | fail))) | (apply opq_neAD; (focus ((first | exact want_none rfl | exact want_yes rfl rfl rfl rfl rfl | fail))); exact rfl; exact rfl; (focus (infer_instance)); exact rfl; (focus (simp only [ceqB, vEq, Bool.and_eq_true, beq_iff_eq, and_true, Bool.and_true]; exact Iff.rfl))) | fail)); exact rfl; exact Nat.lt_of_ble_eq rfl)
  | (apply tq_cons; (focus (first | (apply opq_eqA1; (focus ((first | exact want_none rfl | exact want_yes rfl rfl rfl rfl rfl | fail))); exact rfl; exact rfl; (focus (infer_instance)); exact rfl; (focus (first | (simp only [ceqB, vEq, Bool.and_eq_true, beq_iff_eq, and_true, Bool.and_true]; (repeat (first | assumption | exact rfl | (refine And.intro ?_ ?_) | omega | fail)); done) | fail))) | (apply opq_eqA0; (focus ((first | exact want_none rfl | exact want_yes rfl rfl rfl rfl rfl | fail))); exact rfl; exact rfl; (focus (infer_instance)); exact rfl; (focus (first | (refine Bool.eq_false_iff.2 ?_; simp only [ceqB, vEq, Bool.and_eq_true, beq_iff_eq, and_true, Bool.and_true]; first | assumption | (intro h0; first | omega | (simp_all; done) | fail) | fail) | fail))) | (apply opq_eqAD; (focus ((first | exact want_none rfl | exact want_yes rfl rfl rfl rfl rfl | fail))); exact rfl; exact rfl; (focus (infer_instance)); exact rfl; (focus (simp only [ceqB, vEq, Bool.and_eq_true, beq_iff_eq, and_true, Bool.and_true]; exact Iff.rfl))) | (apply opq_neA1; (focus ((first | exact want_none rfl | exact want_yes rfl rfl rfl rfl rfl | fail))); exact rfl; exact rfl; (focus (infer_instance)); exact rfl; (focus (first | (simp only [ceqB, vEq, Bool.and_eq_true, beq_iff_eq, and_true, Bool.and_true]; (repeat (first | assumption | exact rfl | (refine And.intro ?_ ?_) | omega | fail)); done) | fail))) | (apply opq_neA0; (focus ((first | exact want_none rfl | exact want_yes rfl rfl rfl rfl rfl | fail))); exact rfl; exact rfl; (focus (infer_instance)); exact rfl; (focus (first | (refine Bool.eq_false_iff.2 ?_; simp only [ceqB, vEq, Bool.and_eq_true, beq_iff_eq, and_true, Bool.and_true]; first | assumption | (intro h0; first | omega | (simp_all; done) | fail) | fail) | fail))) | (apply opq_neAD; (focus ((first | exact want_none rfl | exact want_yes rfl rfl rfl rfl rfl | fail))); exact rfl; exact rfl; (focus (infer_instance)); exact rfl; (focus (simp only [ceqB, vEq, Bool.and_eq_true, beq_iff_eq, and_true, Bool.and_true]; exact Iff.rfl))) | fail)); exact rfl)
  | fail) : q → g := h
end
end Go.Sl
