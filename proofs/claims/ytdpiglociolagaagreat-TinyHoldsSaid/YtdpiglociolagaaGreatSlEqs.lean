/- '==' on structs of numbers and truth values; slices written out, of elements of several cells. For whatever program. -/
import Derived.Test.YtdpiglociolagaaGreatSlX
import Derived.Laws.StructEq
namespace Go.Sl
inductive CK
  | b
  | i (k : IntKind)
def fieldsB (P : Program) : Nat → List Field → List CK → Bool
  | _, [], [] => true
  | i, f :: fs, .b :: ks => (f.name != "_") && Nat.beq f.offset i && (match P.underlying f.type with | some .bool => true | _ => false) && fieldsB P (i + 1) fs ks
  | i, f :: fs, .i k :: ks => (f.name != "_") && Nat.beq f.offset i && (match P.underlying f.type with | some (.int k') => k == k' | _ => false) && fieldsB P (i + 1) fs ks
  | _, _, _ => false
def kindB : List CK → List Value → List Value → Bool
  | [], [], [] => true
  | .b :: ks, .bool _ :: xs, .bool _ :: ys => kindB ks xs ys
  | .i k :: ks, .int k1 _ :: xs, .int k2 _ :: ys => (k1 == k) && ((k2 == k) && kindB ks xs ys)
  | _, _, _ => false
def vEq : Value → Value → Bool
  | .bool a, .bool b => a == b
  | .int _ a, .int _ b => a == b
  | _, _ => true
def ceqB : List Value → List Value → Bool
  | x :: xs, y :: ys => vEq x y && ceqB xs ys
  | _, _ => true
def eqsB (P : Program) (t : TypeId) (ks : List CK) : Bool := (!P.eqGuardType P.depth t) && ((!P.stoodInHeld t) && (match P.underlying t with | some (.struct fs) => fieldsB P 0 fs.toList ks | _ => false))
class EqS (P : Program) (t : TypeId) (ks : outParam (List CK)) : Prop where
  out : eqsB P t ks = true
theorem run_eqFields {P : Program} {d : Nat} {XS YS : Array Value} {w : World} : ∀ (fs : List Field) (ks : List CK) (i : Nat) (xs ys : List Value), fieldsB P i fs ks = true → kindB ks xs ys = true → XS.toList.drop i = xs → YS.toList.drop i = ys → (Op.eqFields (d + 1) XS YS fs).run P w = .ok (ceqB xs ys) w
  | [], [], _, [], [], _, _, _, _ => by simp [Op.eqFields, ceqB]
  | f :: fs, k :: ks, i, xs, ys, hf, hk, hx, hy => by
    have hget : ∀ (A : Array Value) (x : Value) (r : List Value), A.toList.drop i = x :: r → A[i]? = some x ∧ A.toList.drop (i + 1) = r := fun A x r h => by
      have h1 : A.toList[i]? = some x := by
        have := congrArg (·[0]?) h
        simpa [List.getElem?_drop] using this
      refine ⟨by simpa using h1, ?_⟩
      rw [← List.drop_drop (i := 1) (j := i), h]; rfl
    cases k with
    | b =>
      match xs, ys, hk with
      | .bool a :: xs, .bool b :: ys, hk =>
        simp only [fieldsB, Bool.and_eq_true] at hf
        obtain ⟨⟨⟨f1, f2⟩, f3⟩, f4⟩ := hf
        obtain ⟨g1, g2⟩ := hget XS _ _ hx
        obtain ⟨g3, g4⟩ := hget YS _ _ hy
        have hu : P.underlying f.type = some .bool := by
          cases h : P.underlying f.type with
          | none => rw [h] at f3; cases f3
          | some t => rw [h] at f3; cases t <;> first | rfl | cases f3
        have ho : f.offset = i := Nat.eq_of_beq_eq_true f2
        have hn : f.name ≠ "_" := by simpa using f1
        have ha : (isAgg f.type).run P w = .ok false w := by simp [isAgg, run_underlying hu]
        have p1 : (part f.type XS f.offset).run P w = .ok (.bool a) w := by simp [part, ha, ho, g1]
        have p2 : (part f.type YS f.offset).run P w = .ok (.bool b) w := by simp [part, ha, ho, g3]
        have p3 : (Op.equalIn (d + 1) f.type (.bool a) (.bool b)).run P w = .ok (a == b) w := by simp [Op.equalIn, run_underlying hu]
        have ih := run_eqFields (d := d) (w := w) fs ks (i + 1) xs ys f4 hk g2 g4
        simp only [Op.eqFields, if_pos hn, Sem.run_bind, p1, p2, p3, Result.andThen_ok, ceqB, vEq]
        cases hab : (a == b) with
        | true => simp [ih]
        | false => simp
    | i k =>
      match xs, ys, hk with
      | .int k1 a :: xs, .int k2 b :: ys, hj =>
        simp only [fieldsB, Bool.and_eq_true] at hf
        simp only [kindB, Bool.and_eq_true, beq_iff_eq] at hj
        obtain ⟨rfl, rfl, hj⟩ := hj
        obtain ⟨⟨⟨f1, f2⟩, f3⟩, f4⟩ := hf
        obtain ⟨g1, g2⟩ := hget XS _ _ hx
        obtain ⟨g3, g4⟩ := hget YS _ _ hy
        have hu : ∃ k', P.underlying f.type = some (.int k') := by
          cases h : P.underlying f.type with
          | none => rw [h] at f3; cases f3
          | some t => rw [h] at f3; cases t <;> first | exact ⟨_, rfl⟩ | cases f3
        obtain ⟨k', hu⟩ := hu
        have ho : f.offset = i := Nat.eq_of_beq_eq_true f2
        have hn : f.name ≠ "_" := by simpa using f1
        have ha : (isAgg f.type).run P w = .ok false w := by simp [isAgg, run_underlying hu]
        have p1 : (part f.type XS f.offset).run P w = .ok (.int k2 a) w := by simp [part, ha, ho, g1]
        have p2 : (part f.type YS f.offset).run P w = .ok (.int k2 b) w := by simp [part, ha, ho, g3]
        have p3 : (Op.equalIn (d + 1) f.type (.int k2 a) (.int k2 b)).run P w = .ok (a == b) w := by simp [Op.equalIn, run_underlying hu]
        have ih := run_eqFields (d := d) (w := w) fs ks (i + 1) xs ys f4 hj g2 g4
        simp only [Op.eqFields, if_pos hn, Sem.run_bind, p1, p2, p3, Result.andThen_ok, ceqB, vEq]
        cases hab : (a == b) with
        | true => simp [ih]
        | false => simp
  | [], _ :: _, _, _, _, hf, _, _, _ => by cases hf
  | _ :: _, [], _, _, _, hf, _, _, _ => by cases hf
  | [], [], _, _ :: _, _, _, hk, _, _ => by cases hk
  | [], [], _, [], _ :: _, _, hk, _, _ => by cases hk
section
variable {r : Option Nat} {P : Program} {n : Nat} {ds : List Deferred} {env : Env} {lc : List HP} {dst : Option Tmp} {ty : TypeId} {pos : String} {af : Array Edge} {g : Option (Nat × Bool)} {all : Array Oper} {t : TypeId} {x y : Operand} {yt : TypeId} {xs ys : List Value} {ks : List CK} {p : Prop}
theorem run_eqS (he : EqS P t ks) (hk : kindB ks xs ys = true) (d : Nat) (w : World) : (Op.equalIn (d + 2) t (.agg xs.toArray) (.agg ys.toArray)).run P w = .ok (ceqB xs ys) w := by
  have h := he.out
  simp only [eqsB, Bool.and_eq_true, Bool.not_eq_true'] at h
  obtain ⟨_, h2, h3⟩ := h
  cases hu : P.underlying t with
  | none => rw [hu] at h3; cases h3
  | some u =>
    cases u with
    | struct fs =>
      rw [hu] at h3
      have hf : P.fieldsOf t = fs := by unfold Program.fieldsOf; rw [hu]
      rw [run_equalIn_struct w (d + 1) t xs.toArray ys.toArray (by rw [hf]; exact hu) h2, hf]
      exact run_eqFields fs.toList ks 0 xs ys h3 hk rfl rfl
    | _ => rw [hu] at h3; cases h3
theorem eqS_guard (he : EqS P t ks) (op : BinOp) (w : World) : (eqGuard op t x y (.agg xs.toArray) (.agg ys.toArray)).run P w = .ok () w := by
  have h := he.out
  simp only [eqsB, Bool.and_eq_true, Bool.not_eq_true'] at h
  exact run_eqGuard_agg w op t x y _ _ h.1
theorem opq_eqS {b : Bool} (hw : Want all ⟨dst, .binOp .eql t x y yt, ty, pos, af, g⟩ env) (hx : ev env x = some (.agg xs.toArray)) (hy : ev env y = some (.agg ys.toArray)) (he : EqS P t ks) (hk : kindB ks xs ys = true) (hb : ceqB xs ys = b) :
    OpQ r P all ⟨dst, .binOp .eql t x y yt, ty, pos, af, g⟩ n ds env lc (.bool b) :=
  opq_bin hw hx hy (eqS_guard he _) fun w => by rw [run_eql_struct, run_eqS he hk 9998 w]; simp [hb]
theorem opq_neS {b : Bool} (hw : Want all ⟨dst, .binOp .neq t x y yt, ty, pos, af, g⟩ env) (hx : ev env x = some (.agg xs.toArray)) (hy : ev env y = some (.agg ys.toArray)) (he : EqS P t ks) (hk : kindB ks xs ys = true) (hb : ceqB xs ys = b) :
    OpQ r P all ⟨dst, .binOp .neq t x y yt, ty, pos, af, g⟩ n ds env lc (.bool !b) :=
  opq_bin hw hx hy (eqS_guard he _) fun w => by rw [run_neq_struct, run_eqS he hk 9998 w]; simp [hb]
theorem opq_eqS1 (hw : Want all ⟨dst, .binOp .eql t x y yt, ty, pos, af, g⟩ env) (hx : ev env x = some (.agg xs.toArray)) (hy : ev env y = some (.agg ys.toArray)) (he : EqS P t ks) (hk : kindB ks xs ys = true) (hb : ceqB xs ys = true) :
    OpQ r P all ⟨dst, .binOp .eql t x y yt, ty, pos, af, g⟩ n ds env lc (.bool true) := opq_eqS hw hx hy he hk hb
theorem opq_eqS0 (hw : Want all ⟨dst, .binOp .eql t x y yt, ty, pos, af, g⟩ env) (hx : ev env x = some (.agg xs.toArray)) (hy : ev env y = some (.agg ys.toArray)) (he : EqS P t ks) (hk : kindB ks xs ys = true) (hb : ceqB xs ys = false) :
    OpQ r P all ⟨dst, .binOp .eql t x y yt, ty, pos, af, g⟩ n ds env lc (.bool false) := opq_eqS hw hx hy he hk hb
theorem opq_eqSD (hw : Want all ⟨dst, .binOp .eql t x y yt, ty, pos, af, g⟩ env) (hx : ev env x = some (.agg xs.toArray)) (hy : ev env y = some (.agg ys.toArray)) (he : EqS P t ks) (hk : kindB ks xs ys = true) (hb : (ceqB xs ys = true) ↔ p) :
    OpQ r P all ⟨dst, .binOp .eql t x y yt, ty, pos, af, g⟩ n ds env lc (.bool (@decide p (Classical.propDecidable p))) := by
  refine opq_eqS hw hx hy he hk ?_
  by_cases h : p
  · rw [hb.2 h]; exact (@decide_eq_true p (Classical.propDecidable p) h).symm
  · rw [Bool.eq_false_iff.2 fun e => h (hb.1 e)]; exact (@decide_eq_false p (Classical.propDecidable p) h).symm
theorem opq_neS1 (hw : Want all ⟨dst, .binOp .neq t x y yt, ty, pos, af, g⟩ env) (hx : ev env x = some (.agg xs.toArray)) (hy : ev env y = some (.agg ys.toArray)) (he : EqS P t ks) (hk : kindB ks xs ys = true) (hb : ceqB xs ys = true) :
    OpQ r P all ⟨dst, .binOp .neq t x y yt, ty, pos, af, g⟩ n ds env lc (.bool false) := opq_neS hw hx hy he hk hb
theorem opq_neS0 (hw : Want all ⟨dst, .binOp .neq t x y yt, ty, pos, af, g⟩ env) (hx : ev env x = some (.agg xs.toArray)) (hy : ev env y = some (.agg ys.toArray)) (he : EqS P t ks) (hk : kindB ks xs ys = true) (hb : ceqB xs ys = false) :
    OpQ r P all ⟨dst, .binOp .neq t x y yt, ty, pos, af, g⟩ n ds env lc (.bool true) := opq_neS hw hx hy he hk hb
theorem opq_neSD (hw : Want all ⟨dst, .binOp .neq t x y yt, ty, pos, af, g⟩ env) (hx : ev env x = some (.agg xs.toArray)) (hy : ev env y = some (.agg ys.toArray)) (he : EqS P t ks) (hk : kindB ks xs ys = true) (hb : (ceqB xs ys = true) ↔ p) :
    OpQ r P all ⟨dst, .binOp .neq t x y yt, ty, pos, af, g⟩ n ds env lc (.bool (@decide (¬ p) (Classical.propDecidable _))) := by
  by_cases h : p
  · rw [show (@decide (¬ p) (Classical.propDecidable _)) = false from @decide_eq_false (¬ p) (Classical.propDecidable _) (fun k => k h)]
    exact opq_neS1 hw hx hy he hk (hb.2 h)
  · rw [show (@decide (¬ p) (Classical.propDecidable _)) = true from @decide_eq_true (¬ p) (Classical.propDecidable _) h]
    exact opq_neS0 hw hx hy he hk (Bool.eq_false_iff.2 fun e => h (hb.1 e))
end
inductive CsL (size : Nat) : List Value → List Value → Prop
  | nil : CsL size [] []
  | cons {v : Value} {c vs cs : List Value} (h : IsCells v c) (hl : c.length = size) (t : CsL size vs cs) : CsL size (v :: vs) (c ++ cs)
theorem CsL.len {size : Nat} {vs cs : List Value} (h : CsL size vs cs) : cs.length = vs.length * size := by
  induction h with
  | nil => simp
  | cons _ hl _ ih => rw [List.length_append, ih, hl, List.length_cons, Nat.add_mul]; omega
theorem fill_rows {size : Nat} : ∀ {vs cs : List Value} (j : Nat) (pre zs : List Value), CsL size vs cs → pre.length = j * size → zs.length = cs.length → Instr.fill (fun i => some (i * size, size)) (pre ++ zs).toArray ((ixs1 j vs.length).zip vs) = some (pre ++ cs).toArray
  | _, _, j, pre, zs, .nil, _, hz => by
    have : zs = [] := List.eq_nil_of_length_eq_zero (by simpa using hz)
    subst this; simp [Instr.fill, ixs1]
  | _, _, j, pre, zs, .cons (v := v) (c := c) (vs := vs) (cs := cs) h hl t, hp, hz => by
    obtain ⟨h1, _⟩ := h.eq
    have hzl : c.length ≤ zs.length := by rw [hz, List.length_append]; omega
    have hz1 : zs = zs.take c.length ++ zs.drop c.length := (List.take_append_drop _ _).symm
    have hz2 : (zs.take c.length).length = c.length := by rw [List.length_take]; omega
    have hz3 : (zs.drop c.length).length = cs.length := by rw [List.length_drop, hz, List.length_append]; omega
    simp only [List.length_cons, ixs1, List.zip_cons_cons]
    unfold Instr.fill
    simp only [h1, List.size_toArray, hl]
    have e : (c.toArray.zipIdx.foldl (fun cs (x, k) => cs.setIfInBounds (j * size + k) x) (pre ++ zs).toArray) = (pre ++ c ++ zs.drop c.length).toArray := by
      have h2 := zip_fold c 0 (j * size) (pre ++ zs)
      rw [Nat.add_zero] at h2
      rw [← Array.foldl_toList, Array.toList_zipIdx]
      refine h2.trans ?_
      congr 1
      have h3 := setL_over c pre (zs.take c.length) (zs.drop c.length) hz2
      rw [List.append_assoc, ← hz1, hp] at h3
      exact h3
    have hc : ¬ (j * size + size > (pre ++ zs).length) := by rw [List.length_append, hp]; omega
    simp only [ne_eq, not_true_eq_false, decide_false, Bool.false_or]
    rw [if_neg (by simpa using hc), e]
    have := fill_rows (j + 1) (pre ++ c) (zs.drop c.length) t (by rw [List.length_append, hp, hl, Nat.add_mul]; omega) hz3
    rw [this, List.append_assoc]
section
variable {r : Option Nat} {P : Program} {base : World} {n : Nat} {ds : List Deferred} {Q : Exit → Act → World → Prop} {env : Env} {lc l : List HP}
theorem opn_buildSliceN {t e : TypeId} {k size : Nat} {z : Value} {bytes : Nat} {parts : Array (Nat × Operand)} {vs cs cs' : List Value} {dst : Option Tmp} {ty : TypeId} {pos : String} {af : Array Edge} {g : Option (Nat × Bool)} {all : Array Oper} (hw : Want all ⟨dst, .buildSlice t k parts, ty, pos, af, g⟩ env) (hx : Evs env (parts.toList.map (·.2)) vs) (hp : parts.toList.map (·.1) = ixs1 0 k) (hc : CsL size vs cs) (hvl : vs.length = k) (hk : (Nat.ble 1 (k * size) && Nat.ble (k * size) 16777216) = true) (hcs : cs = cs') [hu : UL P t (.slice e)] [hi : TI P e z size bytes] :
    OpN r P all ⟨dst, .buildSlice t k parts, ty, pos, af, g⟩ n ds env l (fun b : Nat => .slice (some ⟨b, 0, none⟩) k k) (fun b => Vec e size (some ⟨b, 0, none⟩) k k cs' :: l) := by
  subst hcs
  have hz : parts = ((parts.toList.map (·.1)).zip (parts.toList.map (·.2))).toArray := by
    apply Array.ext'
    have : ∀ l : List (Nat × Operand), l = (l.map (·.1)).zip (l.map (·.2)) := by
      intro l
      induction l with
      | nil => rfl
      | cons x l ih => simp only [List.map_cons, List.zip_cons_cons]; rw [← ih]
    simpa using this parts.toList
  simp only [Bool.and_eq_true] at hk
  have hk1 := Nat.le_of_ble_eq_true hk.1
  have hk2 := Nat.le_of_ble_eq_true hk.2
  have hlen := hc.len
  rw [hvl] at hlen
  refine opn_buildSlice (cs := cs) hw hz (by simp) hx (fun w => ?_) hlen
  obtain ⟨i0, hi0, hz0, hs0, _⟩ := info_parts hi.out
  rw [hp]
  have hsz : (sizeOf e).run P w = .ok size w := by simp [sizeOf, typeInfo, hi0, hs0]
  have hfill : ∀ zs : Array Value, zs.size = k * size → Instr.fill (fun i => some (i * size, size)) zs ((ixs1 0 k).zip vs) = some cs.toArray := by
    intro zs hzs
    have := fill_rows 0 [] zs.toList hc (by simp) (by simp [hzs, hlen])
    rw [hvl] at this
    simpa using this
  unfold Instr.buildSlice
  rw [Sem.run_bind, run_underlying hu.out]
  simp only [Result.andThen]
  rw [Sem.run_bind, hsz]
  simp only [Result.andThen]
  rw [if_neg (by omega)]
  have hne : ¬ k * size = 0 := by omega
  simp only [hne, if_false]
  have hz1 : (zeroValue e).run P w = .ok z w := by simp [zeroValue, typeInfo, hi0, hz0]
  have hf := hfill ((Array.range (k * size)).map (z.cells[· % z.cells.size]!)) (by simp)
  simp [hz1, hf, newRow]
theorem stBl {g q : Prop} (h : q → g := by
  first | (show _ → TL _ _ _ _ _ _ _ _ _ _) | (show _ → TQ _ _ _ _ _ _ _ _ _) | fail
  first
  | (apply tl_m; exact rfl; exact Nat.lt_of_ble_eq rfl; (focus ((apply opn_buildSliceN; (focus ((first | exact want_none rfl | exact want_yes rfl rfl rfl rfl rfl | fail))); (focus ((repeat (first | exact Evs.nil | (apply Evs.cons; exact rfl) | fail)); done)); exact rfl; (focus ((repeat (first | exact CsL.nil | (apply CsL.cons; (focus (first | exact IsCells.one rfl | exact IsCells.agg _ rfl | fail)); exact rfl) | fail)); done)); exact rfl; exact rfl; (focus (simp only [List.cons_append, List.nil_append, List.append_nil]; exact rfl))))); intro h; (try dsimp only [List.cons_append, List.nil_append]); first | exact fun _ => h | exact h | fail)
  | (apply tl_q; (focus (first | (apply opq_eqS1; (focus ((first | exact want_none rfl | exact want_yes rfl rfl rfl rfl rfl | fail))); exact rfl; exact rfl; (focus (infer_instance)); exact rfl; (focus (first | (simp only [ceqB, vEq, Bool.and_eq_true, beq_iff_eq, and_true, Bool.and_true]; (repeat (first | assumption | exact rfl | (refine And.intro ?_ ?_) | omega | fail)); done) | fail))) | (apply opq_eqS0; (focus ((first | exact want_none rfl | exact want_yes rfl rfl rfl rfl rfl | fail))); exact rfl; exact rfl; (focus (infer_instance)); exact rfl; (focus (first | (refine Bool.eq_false_iff.2 ?_; simp only [ceqB, vEq, Bool.and_eq_true, beq_iff_eq, and_true, Bool.and_true]; first | assumption | (intro h0; first | omega | (simp_all; done) | fail) | fail) | fail))) | (apply opq_eqSD; (focus ((first | exact want_none rfl | exact want_yes rfl rfl rfl rfl rfl | fail))); exact rfl; exact rfl; (focus (infer_instance)); exact rfl; (focus (simp only [ceqB, vEq, Bool.and_eq_true, beq_iff_eq, and_true, Bool.and_true]; exact Iff.rfl))) | (apply opq_neS1; (focus ((first | exact want_none rfl | exact want_yes rfl rfl rfl rfl rfl | fail))); exact rfl; exact rfl; (focus (infer_instance)); exact rfl; (focus (first | (simp only [ceqB, vEq, Bool.and_eq_true, beq_iff_eq, and_true, Bool.and_true]; (repeat (first | assumption | exact rfl | (refine And.intro ?_ ?_) | omega | fail)); done) | fail))) | (apply opq_neS0; (focus ((first | exact want_none rfl | exact want_yes rfl rfl rfl rfl rfl | fail))); exact rfl; exact rfl; (focus (infer_instance)); exact rfl; (focus (first | (refine Bool.eq_false_iff.2 ?_; simp only [ceqB, vEq, Bool.and_eq_true, beq_iff_eq, and_true, Bool.and_true]; first | assumption | (intro h0; first | omega | (simp_all; done) | fail) | fail) | fail))) | (apply opq_neSD; (focus ((first | exact want_none rfl | exact want_yes rfl rfl rfl rfl rfl | fail))); exact rfl; exact rfl; (focus (infer_instance)); exact rfl; (focus (simp only [ceqB, vEq, Bool.and_eq_true, beq_iff_eq, and_true, Bool.and_true]; exact Iff.rfl))) | fail)); exact rfl; exact Nat.lt_of_ble_eq rfl)
  | (apply tq_cons; (focus (first | (apply opq_eqS1; (focus ((first | exact want_none rfl | exact want_yes rfl rfl rfl rfl rfl | fail))); exact rfl; exact rfl; (focus (infer_instance)); exact rfl; (focus (first | (simp only [ceqB, vEq, Bool.and_eq_true, beq_iff_eq, and_true, Bool.and_true]; (repeat (first | assumption | exact rfl | (refine And.intro ?_ ?_) | omega | fail)); done) | fail))) | (apply opq_eqS0; (focus ((first | exact want_none rfl | exact want_yes rfl rfl rfl rfl rfl | fail))); exact rfl; exact rfl; (focus (infer_instance)); exact rfl; (focus (first | (refine Bool.eq_false_iff.2 ?_; simp only [ceqB, vEq, Bool.and_eq_true, beq_iff_eq, and_true, Bool.and_true]; first | assumption | (intro h0; first | omega | (simp_all; done) | fail) | fail) | fail))) | (apply opq_eqSD; (focus ((first | exact want_none rfl | exact want_yes rfl rfl rfl rfl rfl | fail))); exact rfl; exact rfl; (focus (infer_instance)); exact rfl; (focus (simp only [ceqB, vEq, Bool.and_eq_true, beq_iff_eq, and_true, Bool.and_true]; exact Iff.rfl))) | (apply opq_neS1; (focus ((first | exact want_none rfl | exact want_yes rfl rfl rfl rfl rfl | fail))); exact rfl; exact rfl; (focus (infer_instance)); exact rfl; (focus (first | (simp only [ceqB, vEq, Bool.and_eq_true, beq_iff_eq, and_true, Bool.and_true]; (repeat (first | assumption | exact rfl | (refine And.intro ?_ ?_) | omega | fail)); done) | fail))) | (apply opq_neS0; (focus ((first | exact want_none rfl | exact want_yes rfl rfl rfl rfl rfl | fail))); exact rfl; exact rfl; (focus (infer_instance)); exact rfl; (focus (first | (refine Bool.eq_false_iff.2 ?_; simp only [ceqB, vEq, Bool.and_eq_true, beq_iff_eq, and_true, Bool.and_true]; first | assumption | (intro h0; first | omega | (simp_all; done) | fail) | fail) | fail))) | (apply opq_neSD; (focus ((first | exact want_none rfl | exact want_yes rfl rfl rfl rfl rfl | fail))); exact rfl; exact rfl; (focus (infer_instance)); exact rfl; (focus (simp only [ceqB, vEq, Bool.and_eq_true, beq_iff_eq, and_true, Bool.and_true]; exact Iff.rfl))) | fail)); exact rfl)
  | (apply tl_q; (focus (first | (apply opq_as; (focus (apply opq_quo; (focus ((first | exact want_none rfl | exact want_yes rfl rfl rfl rfl rfl | fail))); exact rfl; exact rfl; (focus (omega)); (focus (omega)))); (focus (exact congrArg (Value.int _) (by first | exact IntWalk.i64_in _ (by omega) | exact IntWalk.u32_in _ (by omega) | exact IntWalk.u8_in _ (by omega) | exact IntWalk.u64_in _ (by omega) | exact IntWalk.u16_in _ (by omega) | exact IntWalk.i32_in _ (by omega) | fail)))) | (apply opq_rem; (focus ((first | exact want_none rfl | exact want_yes rfl rfl rfl rfl rfl | fail))); exact rfl; exact rfl; (focus (omega)); (focus (omega))) | fail)); exact rfl; exact Nat.lt_of_ble_eq rfl)
  | (apply tq_cons; (focus (first | (apply opq_as; (focus (apply opq_quo; (focus ((first | exact want_none rfl | exact want_yes rfl rfl rfl rfl rfl | fail))); exact rfl; exact rfl; (focus (omega)); (focus (omega)))); (focus (exact congrArg (Value.int _) (by first | exact IntWalk.i64_in _ (by omega) | exact IntWalk.u32_in _ (by omega) | exact IntWalk.u8_in _ (by omega) | exact IntWalk.u64_in _ (by omega) | exact IntWalk.u16_in _ (by omega) | exact IntWalk.i32_in _ (by omega) | fail)))) | (apply opq_rem; (focus ((first | exact want_none rfl | exact want_yes rfl rfl rfl rfl rfl | fail))); exact rfl; exact rfl; (focus (omega)); (focus (omega))) | fail)); exact rfl)
  | fail) : q → g := h
theorem stBlD {g q : Prop} (h : q → g := by
  first | (show _ → TL _ _ _ _ _ _ _ _ _ _) | (show _ → TQ _ _ _ _ _ _ _ _ _) | fail
  first
  | (apply tl_m; exact rfl; exact Nat.lt_of_ble_eq rfl; (focus ((apply opn_buildSliceN; (focus ((first | exact want_none rfl | exact want_yes rfl rfl rfl rfl rfl | fail))); (focus ((repeat (first | exact Evs.nil | (apply Evs.cons; exact rfl) | fail)); done)); exact rfl; (focus ((repeat (first | exact CsL.nil | (apply CsL.cons; (focus (first | exact IsCells.one rfl | exact IsCells.agg _ rfl | fail)); exact rfl) | fail)); done)); exact rfl; exact rfl; (focus (simp only [List.cons_append, List.nil_append, List.append_nil]; exact rfl))))); intro h; (try dsimp only [List.cons_append, List.nil_append]); first | exact fun _ => h | exact h | fail)
  | (apply tl_q; (focus (first | (apply opq_eqS1; (focus ((first | exact want_none rfl | exact want_yes rfl rfl rfl rfl rfl | fail))); exact rfl; exact rfl; (focus (infer_instance)); exact rfl; (focus (decide +kernel))) | (apply opq_eqS0; (focus ((first | exact want_none rfl | exact want_yes rfl rfl rfl rfl rfl | fail))); exact rfl; exact rfl; (focus (infer_instance)); exact rfl; (focus (decide +kernel))) | (apply opq_neS1; (focus ((first | exact want_none rfl | exact want_yes rfl rfl rfl rfl rfl | fail))); exact rfl; exact rfl; (focus (infer_instance)); exact rfl; (focus (decide +kernel))) | (apply opq_neS0; (focus ((first | exact want_none rfl | exact want_yes rfl rfl rfl rfl rfl | fail))); exact rfl; exact rfl; (focus (infer_instance)); exact rfl; (focus (decide +kernel))) | fail)); exact rfl; exact Nat.lt_of_ble_eq rfl)
  | (apply tq_cons; (focus (first | (apply opq_eqS1; (focus ((first | exact want_none rfl | exact want_yes rfl rfl rfl rfl rfl | fail))); exact rfl; exact rfl; (focus (infer_instance)); exact rfl; (focus (decide +kernel))) | (apply opq_eqS0; (focus ((first | exact want_none rfl | exact want_yes rfl rfl rfl rfl rfl | fail))); exact rfl; exact rfl; (focus (infer_instance)); exact rfl; (focus (decide +kernel))) | (apply opq_neS1; (focus ((first | exact want_none rfl | exact want_yes rfl rfl rfl rfl rfl | fail))); exact rfl; exact rfl; (focus (infer_instance)); exact rfl; (focus (decide +kernel))) | (apply opq_neS0; (focus ((first | exact want_none rfl | exact want_yes rfl rfl rfl rfl rfl | fail))); exact rfl; exact rfl; (focus (infer_instance)); exact rfl; (focus (decide +kernel))) | fail)); exact rfl)
  | (apply tl_q; (focus (first | (apply opq_eqS1; (focus ((first | exact want_none rfl | exact want_yes rfl rfl rfl rfl rfl | fail))); exact rfl; exact rfl; (focus (infer_instance)); exact rfl; (focus (first | (simp only [ceqB, vEq, Bool.and_eq_true, beq_iff_eq, and_true, Bool.and_true]; (repeat (first | assumption | exact rfl | (refine And.intro ?_ ?_) | omega | fail)); done) | fail))) | (apply opq_eqS0; (focus ((first | exact want_none rfl | exact want_yes rfl rfl rfl rfl rfl | fail))); exact rfl; exact rfl; (focus (infer_instance)); exact rfl; (focus (first | (refine Bool.eq_false_iff.2 ?_; simp only [ceqB, vEq, Bool.and_eq_true, beq_iff_eq, and_true, Bool.and_true]; first | assumption | (intro h0; first | omega | (simp_all; done) | fail) | fail) | fail))) | (apply opq_eqSD; (focus ((first | exact want_none rfl | exact want_yes rfl rfl rfl rfl rfl | fail))); exact rfl; exact rfl; (focus (infer_instance)); exact rfl; (focus (simp only [ceqB, vEq, Bool.and_eq_true, beq_iff_eq, and_true, Bool.and_true]; exact Iff.rfl))) | (apply opq_neS1; (focus ((first | exact want_none rfl | exact want_yes rfl rfl rfl rfl rfl | fail))); exact rfl; exact rfl; (focus (infer_instance)); exact rfl; (focus (first | (simp only [ceqB, vEq, Bool.and_eq_true, beq_iff_eq, and_true, Bool.and_true]; (repeat (first | assumption | exact rfl | (refine And.intro ?_ ?_) | omega | fail)); done) | fail))) | (apply opq_neS0; (focus ((first | exact want_none rfl | exact want_yes rfl rfl rfl rfl rfl | fail))); exact rfl; exact rfl; (focus (infer_instance)); exact rfl; (focus (first | (refine Bool.eq_false_iff.2 ?_; simp only [ceqB, vEq, Bool.and_eq_true, beq_iff_eq, and_true, Bool.and_true]; first | assumption | (intro h0; first | omega | (simp_all; done) | fail) | fail) | fail))) | (apply opq_neSD; (focus ((first | exact want_none rfl | exact want_yes rfl rfl rfl rfl rfl | fail))); exact rfl; exact rfl; (focus (infer_instance)); exact rfl; (focus (simp only [ceqB, vEq, Bool.and_eq_true, beq_iff_eq, and_true, Bool.and_true]; exact Iff.rfl))) | fail)); exact rfl; exact Nat.lt_of_ble_eq rfl)
  | (apply tq_cons; (focus (first | (apply opq_eqS1; (focus ((first | exact want_none rfl | exact want_yes rfl rfl rfl rfl rfl | fail))); exact rfl; exact rfl; (focus (infer_instance)); exact rfl; (focus (first | (simp only [ceqB, vEq, Bool.and_eq_true, beq_iff_eq, and_true, Bool.and_true]; (repeat (first | assumption | exact rfl | (refine And.intro ?_ ?_) | omega | fail)); done) | fail))) | (apply opq_eqS0; (focus ((first | exact want_none rfl | exact want_yes rfl rfl rfl rfl rfl | fail))); exact rfl; exact rfl; (focus (infer_instance)); exact rfl; (focus (first | (refine Bool.eq_false_iff.2 ?_; simp only [ceqB, vEq, Bool.and_eq_true, beq_iff_eq, and_true, Bool.and_true]; first | assumption | (intro h0; first | omega | (simp_all; done) | fail) | fail) | fail))) | (apply opq_eqSD; (focus ((first | exact want_none rfl | exact want_yes rfl rfl rfl rfl rfl | fail))); exact rfl; exact rfl; (focus (infer_instance)); exact rfl; (focus (simp only [ceqB, vEq, Bool.and_eq_true, beq_iff_eq, and_true, Bool.and_true]; exact Iff.rfl))) | (apply opq_neS1; (focus ((first | exact want_none rfl | exact want_yes rfl rfl rfl rfl rfl | fail))); exact rfl; exact rfl; (focus (infer_instance)); exact rfl; (focus (first | (simp only [ceqB, vEq, Bool.and_eq_true, beq_iff_eq, and_true, Bool.and_true]; (repeat (first | assumption | exact rfl | (refine And.intro ?_ ?_) | omega | fail)); done) | fail))) | (apply opq_neS0; (focus ((first | exact want_none rfl | exact want_yes rfl rfl rfl rfl rfl | fail))); exact rfl; exact rfl; (focus (infer_instance)); exact rfl; (focus (first | (refine Bool.eq_false_iff.2 ?_; simp only [ceqB, vEq, Bool.and_eq_true, beq_iff_eq, and_true, Bool.and_true]; first | assumption | (intro h0; first | omega | (simp_all; done) | fail) | fail) | fail))) | (apply opq_neSD; (focus ((first | exact want_none rfl | exact want_yes rfl rfl rfl rfl rfl | fail))); exact rfl; exact rfl; (focus (infer_instance)); exact rfl; (focus (simp only [ceqB, vEq, Bool.and_eq_true, beq_iff_eq, and_true, Bool.and_true]; exact Iff.rfl))) | fail)); exact rfl)
  | (apply tl_q; (focus (first | (apply opq_as; (focus (apply opq_quo; (focus ((first | exact want_none rfl | exact want_yes rfl rfl rfl rfl rfl | fail))); exact rfl; exact rfl; (focus (omega)); (focus (omega)))); (focus (exact congrArg (Value.int _) (by first | exact IntWalk.i64_in _ (by omega) | exact IntWalk.u32_in _ (by omega) | exact IntWalk.u8_in _ (by omega) | exact IntWalk.u64_in _ (by omega) | exact IntWalk.u16_in _ (by omega) | exact IntWalk.i32_in _ (by omega) | fail)))) | (apply opq_rem; (focus ((first | exact want_none rfl | exact want_yes rfl rfl rfl rfl rfl | fail))); exact rfl; exact rfl; (focus (omega)); (focus (omega))) | fail)); exact rfl; exact Nat.lt_of_ble_eq rfl)
  | (apply tq_cons; (focus (first | (apply opq_as; (focus (apply opq_quo; (focus ((first | exact want_none rfl | exact want_yes rfl rfl rfl rfl rfl | fail))); exact rfl; exact rfl; (focus (omega)); (focus (omega)))); (focus (exact congrArg (Value.int _) (by first | exact IntWalk.i64_in _ (by omega) | exact IntWalk.u32_in _ (by omega) | exact IntWalk.u8_in _ (by omega) | exact IntWalk.u64_in _ (by omega) | exact IntWalk.u16_in _ (by omega) | exact IntWalk.i32_in _ (by omega) | fail)))) | (apply opq_rem; (focus ((first | exact want_none rfl | exact want_yes rfl rfl rfl rfl rfl | fail))); exact rfl; exact rfl; (focus (omega)); (focus (omega))) | fail)); exact rfl)
  | fail) : q → g := h
end
end Go.Sl
