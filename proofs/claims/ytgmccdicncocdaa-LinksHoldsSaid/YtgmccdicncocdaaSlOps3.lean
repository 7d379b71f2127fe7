/- More rules of the walk: new memory, stores into slices, append, len, reslicing. For whatever program. -/
import Derived.Test.YtgmccdicncocdaaSlOps2
namespace Go.Sl
section
variable {r : Option Nat} {P : Program} {n : Nat} {ds : List Deferred} {env : Env} {lc l l' : List HP} {all : Array Oper}
variable {z : Value} {bytes size : Nat} {cs zs : List Value} {x' : Operand} {dst : Option Tmp} {ty : TypeId} {pos : String} {af : Array Edge} {g : Option (Nat × Bool)}

/-! ### A slice that is owned -/
theorem lst_vec {E sz : Nat} {a : Option Addr} {k cap : Nat} {cs : List Value} {h : Hp} (x : lst (Vec E sz a k cap cs :: l) h) :
    (a = none ∧ k = 0 ∧ cap = 0 ∧ cs = []) ∨ ∃ b junk, a = some ⟨b, 0, none⟩ ∧ k ≤ cap ∧ cs.length = k * sz ∧ (cs ++ junk).length = cap * sz ∧ lst (blk b (.cells (cs ++ junk).toArray E (0, 0)) :: l) h := by
  obtain ⟨p, q, hd, rfl, hp, hq⟩ := x
  rcases hp with ⟨h1, h2, h3, h4, _⟩ | ⟨b, junk, h1, h2, h3, h4, h5⟩
  · exact .inl ⟨h1, h2, h3, h4⟩
  · exact .inr ⟨b, junk, h1, h2, h3, h4, p, q, hd, rfl, h5, hq⟩
theorem lst_vec_mk {E sz : Nat} {b k cap : Nat} {cs junk : List Value} {h : Hp} (h1 : k ≤ cap) (h2 : cs.length = k * sz) (h3 : (cs ++ junk).length = cap * sz) (x : lst (blk b (.cells (cs ++ junk).toArray E (0, 0)) :: l) h) : lst (Vec E sz (some ⟨b, 0, none⟩) k cap cs :: l) h :=
  sep_mono (fun _ y => .inr ⟨b, junk, rfl, h1, h2, h3, y⟩) (fun _ y => y) x
theorem lst_vec_nil {E sz : Nat} {h : Hp} (x : lst l h) : lst (Vec E sz none 0 0 [] :: l) h := ⟨fun _ => none, h, fun _ => .inl rfl, by funext k; rfl, .inl ⟨rfl, rfl, rfl, rfl, rfl⟩, x⟩
theorem St.vec {base : World} {w : World} {E sz : Nat} {a : Option Addr} {k cap : Nat} {cs : List Value} {r' : List HP} (hs : St base l w) (hr : Rem l (Vec E sz a k cap cs) r') :
    (a = none ∧ k = 0 ∧ cap = 0 ∧ cs = []) ∨ ∃ b junk, a = some ⟨b, 0, none⟩ ∧ k ≤ cap ∧ cs.length = k * sz ∧ (cs ++ junk).length = cap * sz ∧ St base (blk b (.cells (cs ++ junk).toArray E (0, 0)) :: r') w := by
  obtain ⟨hp, hf, hl⟩ := hs.heap
  rcases lst_vec (hr.out hl) with h | ⟨b, junk, h1, h2, h3, h4, h5⟩
  · exact .inl h
  · exact .inr ⟨b, junk, h1, h2, h3, h4, hs.os, hs.tape, hs.output, hp, hf, h5⟩
theorem St.vec_mk {base : World} {w : World} {E sz : Nat} {b k cap : Nat} {cs junk : List Value} (h1 : k ≤ cap) (h2 : cs.length = k * sz) (h3 : (cs ++ junk).length = cap * sz) (x : St base (blk b (.cells (cs ++ junk).toArray E (0, 0)) :: l) w) : St base (Vec E sz (some ⟨b, 0, none⟩) k cap cs :: l) w :=
  x.ent fun _ y => lst_vec_mk h1 h2 h3 y
/-- Of an owned slice with an element: where it lies. -/
theorem TK.vecAt {base : World} {K : Act → World → Prop} {E sz : Nat} {a : Option Addr} {k cap : Nat} {cs : List Value} {r' : List HP} (hr : Rem l (Vec E sz a k cap cs) r') (hk : 0 < k) (h : (∃ b, a = some ⟨b, 0, none⟩) → TK base n ds K env l) : TK base n ds K env l := fun ac w ha hw => by
  obtain ⟨_, _, hl⟩ := hw.heap
  rcases lst_vec (hr.out hl) with ⟨_, h0, _⟩ | ⟨b, _, h1, _⟩
  · omega
  · exact h ⟨b, h1⟩ ac w ha hw
theorem TK.vecLen {base : World} {K : Act → World → Prop} {E sz : Nat} {a : Option Addr} {k cap : Nat} {cs : List Value} {r' : List HP} (hr : Rem l (Vec E sz a k cap cs) r') (h : cs.length = k * sz ∧ k ≤ cap → TK base n ds K env l) : TK base n ds K env l := fun ac w ha hw => by
  obtain ⟨_, _, hl⟩ := hw.heap
  rcases lst_vec (hr.out hl) with ⟨_, h0, h1, h2⟩ | ⟨b, _, h1, h2, h3, _⟩
  · exact h ⟨by simp [h0, h2], by omega⟩ ac w ha hw
  · exact h ⟨h3, h2⟩ ac w ha hw

/-- The list 'cs' with 'vs' written from 'off' on. -/
def setL (cs : List Value) (off : Nat) : List Value → List Value
  | [] => cs
  | v :: vs => setL (cs.set off v) (off + 1) vs
theorem setL_length {vs : List Value} : ∀ {cs : List Value} {off : Nat}, (setL cs off vs).length = cs.length := by
  induction vs with
  | nil => intros; rfl
  | cons v vs ih => intro cs off; simp [setL, ih]
theorem setL_append {vs : List Value} : ∀ {cs junk : List Value} {off : Nat}, off + vs.length ≤ cs.length → setL (cs ++ junk) off vs = setL cs off vs ++ junk := by
  induction vs with
  | nil => intros; rfl
  | cons v vs ih =>
    intro cs junk off h
    simp only [List.length_cons] at h
    simp only [setL]
    rw [List.set_append_left _ _ (by omega), ih (by simp; omega)]
theorem run_storeCells_set {b : Nat} {T : TypeId} : ∀ (vs : List Value) (i off : Nat) (cs : List Value) (w : World), w.heap[b]? = some (.cells cs.toArray T (0, 0)) → off + i + vs.length ≤ cs.length → (∀ v ∈ vs, plain v = true) →
    ∃ w', (storeCells ⟨b, off, none⟩ vs i).run P w = .ok () w' ∧ w'.os = w.os ∧ w'.tape = w.tape ∧ w'.output = w.output ∧ ∀ k, w'.heap[k]? = if k = b then some (.cells (setL cs (off + i) vs).toArray T (0, 0)) else w.heap[k]?
  | [], i, off, cs, w, hb, _, _ => ⟨w, by simp [storeCells], rfl, rfl, rfl, fun k => by by_cases hk : k = b <;> simp [hk, setL, hb]⟩
  | v :: vs, i, off, cs, w, hb, hl, hp => by
    simp only [List.length_cons] at hl
    have ha : Addr.add ⟨b, off, none⟩ i = ⟨b, off + i, none⟩ := by unfold Addr.add; split <;> simp_all
    have hst := run_store1 (P := P) (_base := w) (off := off + i) (v := v) (hp v (by simp)) hb (by simp; omega)
    have hb' : (w.setCell ⟨b, off + i, none⟩ v).heap[b]? = some (.cells (cs.set (off + i) v).toArray T (0, 0)) := by simp [World.setCell, Array.getElem?_modify, hb]
    obtain ⟨w', h1, h2, h3, h4, h5⟩ := run_storeCells_set vs (i + 1) off (cs.set (off + i) v) _ hb' (by simp; omega) (fun u hu => hp u (by simp [hu]))
    refine ⟨w', ?_, h2, h3, h4, fun k => ?_⟩
    · rw [storeCells]; simp [ha, hst, h1]
    · rw [h5 k]
      by_cases hk : k = b
      · simp [hk, setL, Nat.add_assoc]
      · have hk' : ¬ b = k := fun e => hk e.symm
        simp [hk, World.setCell, Array.getElem?_modify, hk']
def plains : List Value → Bool
  | [] => true
  | v :: vs => plain v && plains vs
theorem plains_mem {vs : List Value} (h : plains vs = true) : ∀ v ∈ vs, plain v = true := by
  induction vs with
  | nil => intro v hv; cases hv
  | cons u vs ih =>
    simp only [plains, Bool.and_eq_true] at h
    intro v hv
    rcases List.mem_cons.1 hv with rfl | hv
    · exact h.1
    · exact ih h.2 v hv
/-- A value is the cells 'vs'. -/
inductive IsCells : Value → List Value → Prop
  | one {v : Value} (h : plain v = true) : IsCells v [v]
  | agg (vs : List Value) (h : plains vs = true) : IsCells (.agg vs.toArray) vs
theorem IsCells.eq {v : Value} {vs : List Value} (h : IsCells v vs) : v.cells = vs.toArray ∧ ∀ u ∈ vs, plain u = true := by
  cases h with
  | one h => exact ⟨plain_cells h, by simpa using h⟩
  | agg vs h => exact ⟨rfl, plains_mem h⟩
/-- A store of whatever size into an owned slice. -/
theorem opn_storeVec {t : TypeId} {x y : Operand} {b off E sz k cap size : Nat} {cs vs : List Value} {v : Value} (hw : Want all ⟨dst, .store t x y, ty, pos, af, g⟩ env) (hx : ev env x = some (.pointer (some ⟨b, off, none⟩))) (hy : ev env y = some v) (hv : IsCells v vs) [hsz : TI P t z size bytes] (hvs : vs.length = size)
    (hr : Rep (Vec E sz (some ⟨b, 0, none⟩) k cap cs) (Vec E sz (some ⟨b, 0, none⟩) k cap (setL cs off vs)) l l') (ho : off + vs.length ≤ cs.length) : OpN r P all ⟨dst, .store t x y, ty, pos, af, g⟩ n ds env l (fun _ : Unit => undef) (fun _ => l') :=
  opn_run hw (by simp) fun base a w ha hs => by
    have h1 := ha.ev (x := x) (by simp [Op.operands]) hx
    have h2 := ha.ev (x := y) (by simp [Op.operands]) hy
    obtain ⟨i0, hi0, _, hsz', _⟩ := info_parts hsz.out
    obtain ⟨q, hq1, hq2⟩ := hr.rem
    rcases hs.vec hq1 with ⟨h0, _⟩ | ⟨b', junk, hb', hk, hl, hl2, hb⟩
    · cases h0
    simp only [Option.some.injEq, Addr.mk.injEq, and_true] at hb'
    subst hb'
    have hblk := hb.block (.here _ _)
    obtain ⟨w', hst, e1, e2, e3, e4⟩ := run_storeCells_set (P := P) vs 0 off (cs ++ junk) w hblk (by simp; omega) hv.eq.2
    refine ⟨(), w', .inr ⟨rfl, ?_⟩, St.ent ?_ (fun _ y => hq2.back y)⟩
    · simp [execOp, h1, h2, Instr.storeAt, storeVar, Instr.sureAddr, hv.eq.1, sizeOf, typeInfo, hi0, hsz', hvs, hst]
    · refine St.vec_mk (junk := junk) hk (by rw [setL_length]; exact hl) (by simpa [setL_length] using hl2) ?_
      have hset := hb.setBlock' (.here _ _) w' e1 e2 e3 e4
      rw [Nat.add_zero, setL_append ho] at hset
      exact hset

/-! ### New memory -/
theorem run_new {base : World} {w : World} (_hs : St base l w) (T : TypeId) (c : Array Value) : (newRow T c).run P w = .ok ⟨w.heap.size, 0, none⟩ { w with heap := w.heap.push (.cells c T) } := by
  rfl
theorem opn_alloc {t : TypeId} {size : Nat} {cs : List Value} (hw : Want all ⟨dst, .alloc t, ty, pos, af, g⟩ env) [hi : TI P t z size bytes] (hz : IsCells z cs) :
    OpN r P all ⟨dst, .alloc t, ty, pos, af, g⟩ n ds env l (fun b : Nat => .pointer (some ⟨b, 0, none⟩)) (fun b => obj b t cs :: l) :=
  opn_run hw (by simp) fun base a w ha hs => by
    obtain ⟨i0, hi0, hz0, _, _⟩ := info_parts hi.out
    refine ⟨w.heap.size, _, .inl ?_, hs.alloc _⟩
    simp [execOp, Instr.alloc, zeroValue, typeInfo, hi0, hz0, newVar, hz.eq.1, run_new hs]
theorem opn_box {t : TypeId} {x : Operand} {v : Value} {cs : List Value} (hw : Want all ⟨dst, .box t x, ty, pos, af, g⟩ env) (hx : ev env x = some v) (hz : IsCells v cs) :
    OpN r P all ⟨dst, .box t x, ty, pos, af, g⟩ n ds env l (fun b : Nat => .pointer (some ⟨b, 0, none⟩)) (fun b => obj b t cs :: l) :=
  opn_run hw (by simp) fun base a w ha hs => by
    have h1 := ha.ev (x := x) (by simp [Op.operands]) hx
    refine ⟨w.heap.size, _, .inl ?_, hs.alloc _⟩
    simp [execOp, h1, Instr.box, newVar, hz.eq.1, run_new hs]

/-! ### Structs and slices written out -/
/-- The parts of a struct put in their places. -/
def bld (places : List (Nat × Nat)) : List (Nat × Value) → List Value → Option (List Value)
  | [], cs => some cs
  | (i, v) :: rest, cs =>
    match places[i]? with
    | none => none
    | some (off, size) => if v.cells.toList.length ≠ size ∨ off + v.cells.toList.length > cs.length then none else bld places rest (setL cs off v.cells.toList)
theorem zip_fold (vs : List Value) : ∀ (k off : Nat) (cs : List Value), ((vs.zipIdx k).foldl (fun (acc : Array Value) (x : Value × Nat) => acc.setIfInBounds (off + x.2) x.1) cs.toArray) = (setL cs (off + k) vs).toArray := by
  induction vs with
  | nil => intros; rfl
  | cons v vs ih =>
    intro k off cs
    simp only [List.zipIdx_cons, List.foldl_cons, setL, List.setIfInBounds_toArray]
    rw [ih (k + 1) off, Nat.add_assoc]
theorem fill_bld {places : List (Nat × Nat)} : ∀ (parts : List (Nat × Value)) (cs cs' : List Value), bld places parts cs = some cs' → Instr.fill (fun i => places[i]?) cs.toArray parts = some cs'.toArray
  | [], cs, cs', h => by simp [bld] at h; simp [Instr.fill, h]
  | (i, v) :: rest, cs, cs', h => by
    unfold bld at h
    unfold Instr.fill
    cases hp : places[i]? with
    | none => rw [hp] at h; cases h
    | some os =>
      obtain ⟨off, size⟩ := os
      rw [hp] at h
      simp only [] at h ⊢
      split at h
      · cases h
      · rename_i hc
        simp only [Array.length_toList, not_or, Decidable.not_not, Nat.not_lt] at hc
        have e : (v.cells.zipIdx.foldl (fun cs (c, j) => cs.setIfInBounds (off + j) c) cs.toArray) = (setL cs off v.cells.toList).toArray := by
          have := zip_fold v.cells.toList 0 off cs
          rw [Nat.add_zero] at this
          rw [← this, ← Array.foldl_toList, Array.toList_zipIdx]
        have hc2 : ¬ (off + v.cells.size > cs.length) := by omega
        simp only [hc.1, ne_eq, not_true_eq_false, decide_false, Bool.false_or, List.size_toArray]
        rw [if_neg (by rw [hc.1] at hc2; simpa using hc2), e]
        exact fill_bld rest _ cs' h
class BL (P : Program) (t : TypeId) (places : outParam (List (Nat × Nat))) (zs : outParam (List Value)) : Prop where
  out : ∀ (parts : List (Nat × Value)) (w : World), (Instr.build t parts.toArray).run P w = (match Instr.fill (fun i => places[i]?) zs.toArray parts with | some cs => (.ok (.agg cs) w : Result Value) | none => .halt (.stuck "build: no such field, or a part of the wrong size") w)
theorem bl_mk {t : TypeId} {fields : Array Field} {places : List (Nat × Nat)} {zs : List Value} {size bytes : Nat} (hu : P.underlying t = some (.struct fields)) (hp : ∀ w, (fields.mapM (m := Sem) fun f => do pure (f.offset, ← sizeOf f.type)).run P w = .ok places.toArray w) [hz : TI P t (.agg zs.toArray) size bytes] : BL P t places zs := ⟨fun parts w => by
  obtain ⟨i0, hi0, hz0, _, _⟩ := info_parts hz.out
  have h1 : (zeroValue t).run P w = .ok (.agg zs.toArray) w := by simp [zeroValue, typeInfo, hi0, hz0]
  have h2 := hp w
  unfold Instr.build
  rw [Sem.run_bind, h1]
  simp only [Result.andThen]
  rw [Sem.run_bind, run_underlying hu]
  simp only [Result.andThen]
  rw [Sem.run_bind, h2]
  simp only [Result.andThen, Value.cells, List.getElem?_toArray]
  cases Instr.fill (fun i => places[i]?) zs.toArray parts <;> rfl⟩
/-- The operands' values. -/
inductive Evs (e : Env) : List Operand → List Value → Prop
  | nil : Evs e [] []
  | cons {x : Operand} {v : Value} {xs : List Operand} {vs : List Value} (h : ev e x = some v) (t : Evs e xs vs) : Evs e (x :: xs) (v :: vs)
theorem Evs.map {xs : List Operand} {vs : List Value} {o : Oper} {a : Act} (h : Evs env xs vs) (ha : AO all o n ds env a) (hx : ∀ x ∈ xs, x ∈ o.op.operands.toList) : xs.map a.eval = vs := by
  induction h with
  | nil => rfl
  | cons h _ ih =>
    simp only [List.map_cons]
    rw [ha.ev (hx _ (by simp)) h, ih (fun x hx' => hx x (by simp [hx']))]
theorem opq_build {t : TypeId} {ixs : List Nat} {xs : List Operand} {parts : Array (Nat × Operand)} {vs cs zs : List Value} {places : List (Nat × Nat)} (hw : Want all ⟨dst, .build t parts, ty, pos, af, g⟩ env) (hp : parts = (ixs.zip xs).toArray) (hlen : ixs.length = xs.length) (hx : Evs env xs vs) [hb : BL P t places zs] (hc : bld places (ixs.zip vs) zs = some cs) :
    OpQ r P all ⟨dst, .build t parts, ty, pos, af, g⟩ n ds env lc (.agg cs.toArray) :=
  opq_pure hw (by simp) fun a w ha => by
    subst hp
    have h1 := hx.map ha (fun x hx' => by
      simp only [Op.operands]
      rw [List.map_snd_zip (by omega)]; exact hx')
    have h2 : ((ixs.zip xs).toArray.map fun (i, x) => (i, a.eval x)) = (ixs.zip vs).toArray := by
      rw [← h1]
      simp only [List.map_toArray]
      congr 1
      clear h1 hx hw hc ha hlen
      induction ixs generalizing xs with
      | nil => simp
      | cons i ixs ih => cases xs with
        | nil => simp
        | cons x xs => simp [ih]
    have h3 := hb.out (ixs.zip vs) w
    rw [fill_bld _ _ _ hc] at h3
    simp [execOp, h2, h3]
theorem repl_nil (_size : Nat) (f : Nat → Value) : ((Array.range 0).map f) = #[] := by simp
/-- A slice written out, of elements of one cell. -/
theorem opn_buildSlice {t e : TypeId} {k : Nat} {ixs : List Nat} {xs : List Operand} {parts : Array (Nat × Operand)} {vs : List Value} (hw : Want all ⟨dst, .buildSlice t k parts, ty, pos, af, g⟩ env) (hp : parts = (ixs.zip xs).toArray) (hlen : ixs.length = xs.length) (hx : Evs env xs vs) [_hu : UL P t (.slice e)] [_hi : TI P e z size bytes]
    (hb : ∀ w : World, (Instr.buildSlice t k (ixs.zip vs).toArray).run P w = .ok (.slice (some ⟨w.heap.size, 0, none⟩) k k) (w.alloc (.cells cs.toArray e))) (hcs : cs.length = k * size) :
    OpN r P all ⟨dst, .buildSlice t k parts, ty, pos, af, g⟩ n ds env l (fun b : Nat => .slice (some ⟨b, 0, none⟩) k k) (fun b => Vec e size (some ⟨b, 0, none⟩) k k cs :: l) :=
  opn_run hw (by simp) fun base a w ha hs => by
    subst hp
    have h1 := hx.map ha (fun x hx' => by
      simp only [Op.operands]
      rw [List.map_snd_zip (by omega)]; exact hx')
    have h2 : ((ixs.zip xs).toArray.map fun (i, x) => (i, a.eval x)) = (ixs.zip vs).toArray := by
      rw [← h1]
      simp only [List.map_toArray]
      congr 1
      clear h1 hx hw ha hlen hb
      induction ixs generalizing xs with
      | nil => simp
      | cons i ixs ih => cases xs with
        | nil => simp
        | cons x xs => simp [ih]
    have ha' := hs.alloc (.cells cs.toArray e)
    refine ⟨w.heap.size, w.alloc (.cells cs.toArray e), .inl ?_, St.vec_mk (junk := []) (Nat.le_refl _) hcs (by simpa using hcs) (by rw [List.append_nil]; exact ha')⟩
    simp [execOp, h2, hb w]

/-! ### make, append, len -/
theorem flatten_rep_get (zs : List Value) : ∀ (k j : Nat), j < k * zs.length → (List.replicate k zs).flatten[j]? = zs[j % zs.length]?
  | 0, j, h => by simp at h
  | k + 1, j, h => by
    have hpos : 0 < zs.length := by
      rcases Nat.eq_zero_or_pos zs.length with h0 | h0
      · rw [h0] at h; simp at h
      · exact h0
    rw [List.replicate_succ, List.flatten_cons]
    by_cases hj : j < zs.length
    · rw [List.getElem?_append_left hj, Nat.mod_eq_of_lt hj]
    · rw [List.getElem?_append_right (by omega), flatten_rep_get zs k (j - zs.length) (by rw [Nat.add_mul] at h; omega)]
      congr 1
      rw [← Nat.mod_eq_sub_mod (by omega)]
theorem made_flat {k : Nat} (hz : IsCells z zs) (hlz : zs.length = size) (hsz : 0 < size) : madeCells z.cells (k * size) = (List.replicate k zs).flatten.toArray := by
  apply Array.ext'
  apply List.ext_getElem?
  intro j
  by_cases hj : j < k * size
  · have h1 := flatten_rep_get zs k j (by rw [hlz]; exact hj)
    simp only [h1, madeCells, hz.eq.1, hlz]
    have h2 : j % size < zs.length := by rw [hlz]; exact Nat.mod_lt _ hsz
    simp [hj, hlz, List.getElem?_eq_getElem h2]
  · rw [List.getElem?_eq_none (by rw [Array.length_toList, size_madeCells]; omega), List.getElem?_eq_none (by simp [hlz]; omega)]
theorem opn_makeSlice {t e : TypeId} {x : Operand} {kx : IntKind} {k : Nat} (hw : Want all ⟨dst, .makeSlice t x x', ty, pos, af, g⟩ env) (hx : ev env x = some (.int kx k)) (hx' : ev env x' = some (.int kx k)) [hu : UL P t (.slice e)] [hi : TI P e z size bytes] (hz : IsCells z zs) (hlz : zs.length = size) (hb : k * bytes ≤ 140737488355328) (hk : k ≤ 9223372036854775807) (hsz : 0 < size) :
    OpN r P all ⟨dst, .makeSlice t x x', ty, pos, af, g⟩ n ds env l (fun b : Nat => .slice (some ⟨b, 0, none⟩) k k) (fun b => Vec e size (some ⟨b, 0, none⟩) k k (List.replicate k zs).flatten :: l) :=
  opn_run hw (by simp) fun base a w ha hs => by
    have h1 := ha.ev (x := x) (by simp [Op.operands]) hx
    have h2 := ha.ev (x := x') (by simp [Op.operands]) hx'
    obtain ⟨i0, hi0, hz0, hs0, hb0⟩ := info_parts hi.out
    have hb' : (bytes : Int) * k ≤ 281474976710656 := by
      have h3 : bytes * k ≤ 140737488355328 := by rw [Nat.mul_comm]; exact hb
      rw [← Int.natCast_mul]; omega
    have hrun := run_make (P := P) w t e i0 z hu.out hi0 hz0 kx kx k k (by omega) (by omega) (by rw [hb0]; exact hb') (by omega)
    simp only [Int.toNat_natCast] at hrun
    have hlen : (List.replicate k zs).flatten.length = k * size := by rw [List.length_flatten, List.map_replicate, List.sum_replicate_nat, hlz]
    have ha' := hs.alloc (.cells (List.replicate k zs).flatten.toArray e)
    refine ⟨w.heap.size, w.alloc (.cells (List.replicate k zs).flatten.toArray e), .inl ?_, St.vec_mk (junk := []) (Nat.le_refl _) hlen (by simpa using hlen) (by rw [List.append_nil]; exact ha')⟩
    have hmade : madeCells z.cells (k * i0.size) = (List.replicate k zs).flatten.toArray := hs0 ▸ made_flat hz (hs0 ▸ hlz) (hs0 ▸ hsz)
    rw [hmade] at hrun
    simp [execOp, h1, h2, hrun]
end
end Go.Sl
