/- The rules of the walk, one for each kind of operation. For whatever program. -/
import Derived.Test.YtgmccdicncocdaaSlStep
import Derived.WalkKit
import Derived.WalkSpells
import Derived.WalkLawsBesides
namespace Go.Sl

/-- What the program says of a type. -/
class UL (P : Program) (t : TypeId) (d : outParam TypeDesc) : Prop where
  out : P.underlying t = some d
class FA (P : Program) (s : TypeId) (i : Nat) (off : outParam Nat) : Prop where
  out : ∀ (a : Addr) (w : World), (Instr.fieldAt s (.pointer (some a)) i).run P w = .ok (.pointer (some (a.add off))) w
class TI (P : Program) (t : TypeId) (z : outParam Value) (size bytes : outParam Nat) : Prop where
  out : (P.info? t).map (fun i => (i.zero, i.size, i.bytes)) = some (some z, size, bytes)

/-- The operation is wanted. -/
def Want (all : Array Oper) (o : Oper) (env : Env) : Prop := ∀ tmps : Array Value, (∀ t ∈ o.looksAt all, ∀ v, look env t = some v → tmps.getD t undef = v) → Region.wanted o (yielded all tmps) = true
theorem want_none {all : Array Oper} {o : Oper} {env : Env} (hg : o.guard = none) : Want all o env := fun _ _ => wanted_none hg
theorem want_yes {all : Array Oper} {o oj : Oper} {env : Env} {j dj : Nat} {t u : Bool} (hg : o.guard = some (j, u)) (hj : all[j]? = some oj) (hdj : oj.dst = some dj) (hv : look env dj = some (.bool t)) (hu : (t == u) = true) : Want all o env := fun tmps h => by
  rw [wanted_of hg hj hdj (h dj ?_ _ hv)]; exact hu
  unfold Oper.looksAt
  rw [hg]
  exact List.mem_append_right _ (by simp [hj, hdj])

section
variable {r : Option Nat} {P : Program} {n : Nat} {ds : List Deferred} {env : Env} {lc l l' : List HP} {all : Array Oper}
variable {z : Value} {bytes : Nat} {dst : Option Tmp} {ty : TypeId} {pos : String} {af : Array Edge} {g : Option (Nat × Bool)}

theorem opq_run {o : Oper} {v : Value} (hw : Want all o env) (hnd : ∀ c, o.op ≠ .defer c)
    (h : ∀ (base : World) (F : List HP) (a : Act) (w : World), AO all o n ds env a → St base (lc ++ F) w → (execOp a.eval o).run P w = .ok (.value v) w) : OpQ r P all o n ds env lc v := fun base F a w ha hst => by
  refine ⟨hnd, ?_⟩
  rw [if_pos (hw _ ha.val), h base F a w ha hst]
  exact ⟨rfl, hst⟩
theorem opn_run {α : Type} {o : Oper} {val : α → Value} {post : α → List HP} (hw : Want all o env) (hnd : ∀ c, o.op ≠ .defer c)
    (h : ∀ (base : World) (a : Act) (w : World), AO all o n ds env a → St base l w → ∃ x w', ((execOp a.eval o).run P w = .ok (.value (val x)) w' ∨ (val x = undef ∧ (execOp a.eval o).run P w = .ok .skip w')) ∧ St base (post x) w') : OpN r P all o n ds env l val post := fun base a w ha hst => by
  refine ⟨hnd, ?_⟩
  obtain ⟨x, w', hr, hs⟩ := h base a w ha hst
  rw [if_pos (hw _ ha.val)]
  rcases hr with hr | ⟨hu, hr⟩
  · rw [hr]; exact ⟨x, rfl, hs⟩
  · rw [hr]; exact ⟨x, hu.symm, hs⟩
theorem opq_pure {o : Oper} {v : Value} (hw : Want all o env) (hnd : ∀ c, o.op ≠ .defer c) (h : ∀ (a : Act) (w : World), AO all o n ds env a → (execOp a.eval o).run P w = .ok (.value v) w) : OpQ r P all o n ds env lc v :=
  opq_run hw hnd fun _ _ a w ha _ => h a w ha

theorem opq_move {x : Operand} {v : Value} (hw : Want all ⟨dst, .move x, ty, pos, af, g⟩ env) (hx : ev env x = some v) : OpQ r P all ⟨dst, .move x, ty, pos, af, g⟩ n ds env lc v :=
  opq_pure hw (by simp) fun a w ha => by
    have h1 := ha.ev (x := x) (by simp [Op.operands]) hx
    simp [execOp, h1]
theorem opq_assign {x : Operand} {v : Value} (hw : Want all ⟨dst, .assign x, ty, pos, af, g⟩ env) (hx : ev env x = some v) : OpQ r P all ⟨dst, .assign x, ty, pos, af, g⟩ n ds env lc v :=
  opq_pure hw (by simp) fun a w ha => by
    have h1 := ha.ev (x := x) (by simp [Op.operands]) hx
    simp [execOp, h1]
theorem opq_pick {c x y : Operand} {t : Bool} {v u : Value} (hw : Want all ⟨dst, .pick c x y, ty, pos, af, g⟩ env) (hc : ev env c = some (.bool t)) (hx : ev env x = some v) (hy : ev env y = some u) : OpQ r P all ⟨dst, .pick c x y, ty, pos, af, g⟩ n ds env lc (if t then v else u) :=
  opq_pure hw (by simp) fun a w ha => by
    have h1 := ha.ev (x := c) (by simp [Op.operands]) hc
    have h2 := ha.ev (x := x) (by simp [Op.operands]) hx
    have h3 := ha.ev (x := y) (by simp [Op.operands]) hy
    simp [execOp, h1, h2, h3, asBool]
theorem opq_pick_t {c x y : Operand} {v : Value} (hw : Want all ⟨dst, .pick c x y, ty, pos, af, g⟩ env) (hc : ev env c = some (.bool true)) (hx : ev env x = some v) : OpQ r P all ⟨dst, .pick c x y, ty, pos, af, g⟩ n ds env lc v :=
  opq_pure hw (by simp) fun a w ha => by
    have h1 := ha.ev (x := c) (by simp [Op.operands]) hc
    have h2 := ha.ev (x := x) (by simp [Op.operands]) hx
    simp [execOp, h1, h2, asBool]
theorem opq_pick_f {c x y : Operand} {v : Value} (hw : Want all ⟨dst, .pick c x y, ty, pos, af, g⟩ env) (hc : ev env c = some (.bool false)) (hx : ev env y = some v) : OpQ r P all ⟨dst, .pick c x y, ty, pos, af, g⟩ n ds env lc v :=
  opq_pure hw (by simp) fun a w ha => by
    have h1 := ha.ev (x := c) (by simp [Op.operands]) hc
    have h2 := ha.ev (x := y) (by simp [Op.operands]) hx
    simp [execOp, h1, h2, asBool]
theorem opq_nilCheck {x : Operand} {ad : Addr} (hw : Want all ⟨dst, .nilCheck x, ty, pos, af, g⟩ env) (hx : ev env x = some (.pointer (some ad))) : OpQ r P all ⟨dst, .nilCheck x, ty, pos, af, g⟩ n ds env lc (.pointer (some ad)) :=
  opq_pure hw (by simp) fun a w ha => by
    have h1 := ha.ev (x := x) (by simp [Op.operands]) hx
    simp [execOp, h1]
theorem opq_nilCheck_func {x : Operand} {f : FuncId} {c1 c2 : Array Value} (hw : Want all ⟨dst, .nilCheck x, ty, pos, af, g⟩ env) (hx : ev env x = some (.func (.func f) c1 c2)) : OpQ r P all ⟨dst, .nilCheck x, ty, pos, af, g⟩ n ds env lc (.func (.func f) c1 c2) :=
  opq_pure hw (by simp) fun a w ha => by
    have h1 := ha.ev (x := x) (by simp [Op.operands]) hx
    simp [execOp, h1]
theorem opq_fieldAddr {s : TypeId} {x : Operand} {i off : Nat} {b o : Nat} (hw : Want all ⟨dst, .fieldAddr s x i, ty, pos, af, g⟩ env) (hx : ev env x = some (.pointer (some ⟨b, o, none⟩))) [hf : FA P s i off] :
    OpQ r P all ⟨dst, .fieldAddr s x i, ty, pos, af, g⟩ n ds env lc (.pointer (some ⟨b, o + off, none⟩)) :=
  opq_pure hw (by simp) fun a w ha => by
    have h1 := ha.ev (x := x) (by simp [Op.operands]) hx
    have h2 := hf.out ⟨b, o, none⟩ w
    have h3 : Addr.add ⟨b, o, none⟩ off = ⟨b, o + off, none⟩ := by unfold Addr.add; split <;> simp_all
    rw [h3] at h2
    simp [execOp, h1, h2]
theorem opq_indexAddr {t e : TypeId} {x y : Operand} {b o len cap size bytes : Nat} {k : IntKind} {i : Int} {z : Value} (hw : Want all ⟨dst, .indexAddr t x y, ty, pos, af, g⟩ env) (hx : ev env x = some (.slice (some ⟨b, o, none⟩) len cap)) (hy : ev env y = some (.int k i))
    [hu : UL P t (.slice e)] [hi : TI P e z size bytes] (h0 : 0 ≤ i) (h1 : i < len) :
    OpQ r P all ⟨dst, .indexAddr t x y, ty, pos, af, g⟩ n ds env lc (.pointer (some ⟨b, o + i.toNat * size, none⟩)) :=
  opq_pure hw (by simp) fun a w ha => by
    have e1 := ha.ev (x := x) (by simp [Op.operands]) hx
    have e2 := ha.ev (x := y) (by simp [Op.operands]) hy
    obtain ⟨i0, hi0, _, hs, _⟩ := info_parts hi.out
    have h3 : Addr.add ⟨b, o, none⟩ (i.toNat * size) = ⟨b, o + i.toNat * size, none⟩ := by unfold Addr.add; split <;> simp_all
    have hsz : (sizeOf e).run P w = .ok size w := by simp [sizeOf, typeInfo, hi0, hs]
    simp [execOp, e1, e2, Instr.indexAt, asIntOf, run_underlying hu.out, h0, h1, hsz, h3]

/-! ### Memory -/
class NAgg (P : Program) (t : TypeId) : Prop where
  out : ∀ w : World, (isAgg t).run P w = .ok false w
class IAgg (P : Program) (t : TypeId) (size : outParam Nat) : Prop where
  out : ∀ w : World, (isAgg t).run P w = .ok true w ∧ (sizeOf t).run P w = .ok size w

theorem Rem.append {l r : List HP} {x : HP} (h : Rem l x r) (F : List HP) : Rem (l ++ F) x (r ++ F) := by
  induction h with
  | here x l => exact .here _ _
  | there y _ ih => exact .there _ ih

/-- A block of cells that is owned whole: a variable, a struct. -/
def obj (b : Nat) (T : TypeId) (cs : List Value) : HP := blk b (.cells cs.toArray T (0, 0))
/-- A slice that is owned: nil, or at the head of a block of its own; 'cs': the cells of its elements. -/
def Vec (E sz : Nat) (a : Option Addr) (n cap : Nat) (cs : List Value) : HP := fun h =>
  (a = none ∧ n = 0 ∧ cap = 0 ∧ cs = [] ∧ h = fun _ => none) ∨
  ∃ b junk, a = some ⟨b, 0, none⟩ ∧ n ≤ cap ∧ cs.length = n * sz ∧ (cs ++ junk).length = cap * sz ∧ blk b (.cells (cs ++ junk).toArray E (0, 0)) h

/-- The cells 'cs' can be read from address 'a' on. -/
def Rd (l : List HP) (a : Addr) (cs : List Value) : Prop := ∀ h, lst l h → a.spot = none ∧ ∀ j v, cs[j]? = some v → ∃ c T fr t, h a.block = some (t, .cells c T fr) ∧ c[a.off + j]? = some v
theorem Rd.cell {base : World} {a : Addr} {cs : List Value} {w : World} (h : Rd l a cs) (hs : St base l w) : ∀ j v, cs[j]? = some v → w.cell? (a.add j) = some v := fun j v hj => by
  obtain ⟨hp, hf, hl⟩ := hs.heap
  obtain ⟨h1, h2⟩ := h _ hl
  obtain ⟨c, T, fr, t, hb, hc⟩ := h2 j v hj
  have : a.add j = ⟨a.block, a.off + j, none⟩ := by
    unfold Addr.add
    split
    · rename_i h0; subst h0; cases a; simp at h1; simp [h1]
    · rfl
  rw [this, cell_of_block (hf _ _ hb)]; exact hc
theorem Rd.append {a : Addr} {cs : List Value} (h : Rd lc a cs) (F : List HP) : Rd (lc ++ F) a cs := fun x hx => h x (by
  obtain ⟨p, q, hd, rfl, hp, _⟩ := lst_unflat hx
  exact lst_join hp hd)
theorem rd_obj {b T : Nat} {cs : List Value} {r' : List HP} (h : Rem lc (obj b T cs) r') : Rd lc ⟨b, 0, none⟩ cs := fun x hx => ⟨rfl, fun j v hj => ⟨cs.toArray, T, (0, 0), true, lst_blk (h.out hx), by simpa using hj⟩⟩
theorem rd_obj1 {b T off : Nat} {cs : List Value} {v : Value} {r' : List HP} (h : Rem lc (obj b T cs) r') (hv : cs[off]? = some v) : Rd lc ⟨b, off, none⟩ [v] := fun x hx => ⟨rfl, fun j u hj => ⟨cs.toArray, T, (0, 0), true, lst_blk (h.out hx), by
  cases j with
  | zero => simp at hj; subst hj; simpa using hv
  | succ j => simp at hj⟩⟩
theorem rd_drop {b off k : Nat} {cs : List Value} (h : Rd lc ⟨b, off, none⟩ cs) : Rd lc ⟨b, off + k, none⟩ (cs.drop k) := fun x hx => ⟨rfl, fun j v hj => by
  obtain ⟨_, h2⟩ := h x hx
  obtain ⟨c, T, fr, t, h3, h4⟩ := h2 (k + j) v (by simpa [List.getElem?_drop] using hj)
  exact ⟨c, T, fr, t, h3, by simpa [Nat.add_assoc] using h4⟩⟩
theorem rd_take {b off k : Nat} {cs : List Value} (h : Rd lc ⟨b, off, none⟩ cs) : Rd lc ⟨b, off, none⟩ (cs.take k) := fun x hx => ⟨rfl, fun j v hj => by
  obtain ⟨_, h2⟩ := h x hx
  rw [List.getElem?_take] at hj
  split at hj
  · exact h2 j v hj
  · cases hj⟩
theorem rd_get {b off k : Nat} {cs : List Value} {v : Value} (h : Rd lc ⟨b, off, none⟩ cs) (hv : cs[k]? = some v) : Rd lc ⟨b, off + k, none⟩ [v] := fun x hx => ⟨rfl, fun j u hj => by
  obtain ⟨_, h2⟩ := h x hx
  cases j with
  | zero =>
    simp at hj; subst hj
    obtain ⟨c, T, fr, t, h3, h4⟩ := h2 k _ hv
    exact ⟨c, T, fr, t, h3, by simpa using h4⟩
  | succ j => simp at hj⟩
theorem rd_vec {E sz b n cap : Nat} {cs : List Value} {r' : List HP} (h : Rem lc (Vec E sz (some ⟨b, 0, none⟩) n cap cs) r') : Rd lc ⟨b, 0, none⟩ cs := fun x hx => ⟨rfl, fun j v hj => by
  obtain ⟨p, q, _, rfl, hp, _⟩ := h.out hx
  rcases hp with ⟨h0, _⟩ | ⟨b', junk, hb, _, hl, _, hp⟩
  · cases h0
  · simp only [Option.some.injEq, Addr.mk.injEq, and_true] at hb
    subst hb; subst hp
    refine ⟨(cs ++ junk).toArray, E, (0, 0), true, joinH_left (by simp), ?_⟩
    have hj' : j < cs.length := (List.getElem?_eq_some_iff.1 hj).1
    simp [List.getElem?_append_left hj', hj]⟩
/-- A slice that is shared: nil or without room, or somewhere in a block that no one writes. -/
def RoS (sz : Nat) (a : Option Addr) (m cap : Nat) (cs : List Value) : HP := fun h =>
  (m = 0 ∧ cap = 0 ∧ cs = [] ∧ h = fun _ => none) ∨
  ∃ b o c T fr, a = some ⟨b, o, none⟩ ∧ m ≤ cap ∧ cs.length = m * sz ∧ (∀ j v, cs[j]? = some v → c[o + j]? = some v) ∧ ro b (.cells c T fr) h
instance pers_roS (sz : Nat) (a : Option Addr) (m cap : Nat) (cs : List Value) : Pers (RoS sz a m cap cs) := ⟨by
  rintro h (⟨_, _, _, rfl⟩ | ⟨b, o, c, T, fr, _, _, _, _, hr⟩) k x hk
  · cases hk
  · exact (pers_ro b _).out h hr k x hk⟩
theorem rd_roS {sz b o m cap : Nat} {cs : List Value} {r' : List HP} (h : Rem lc (RoS sz (some ⟨b, o, none⟩) m cap cs) r') : Rd lc ⟨b, o, none⟩ cs := fun x hx => ⟨rfl, fun j v hj => by
  obtain ⟨p, q, _, rfl, hp, _⟩ := h.out hx
  rcases hp with ⟨_, _, h0, _⟩ | ⟨b', o', c, T, fr, hb, _, hl, hc, hp⟩
  · rw [h0] at hj; cases hj
  · simp only [Option.some.injEq, Addr.mk.injEq, and_true] at hb
    obtain ⟨rfl, rfl⟩ := hb; subst hp
    exact ⟨c, T, fr, false, joinH_left (by simp), hc j v hj⟩⟩

theorem opq_load {t : TypeId} {x : Operand} {b off : Nat} {v : Value} (hw : Want all ⟨dst, .load t x, ty, pos, af, g⟩ env) (hx : ev env x = some (.pointer (some ⟨b, off, none⟩))) [ht : NAgg P t] (hr : Rd lc ⟨b, off, none⟩ [v]) : OpQ r P all ⟨dst, .load t x, ty, pos, af, g⟩ n ds env lc v :=
  opq_run hw (by simp) fun base F a w ha hs => by
    have h1 := ha.ev (x := x) (by simp [Op.operands]) hx
    have h2 := (hr.append F).cell hs 0 v rfl
    have h3 : Addr.add ⟨b, off, none⟩ 0 = ⟨b, off, none⟩ := rfl
    rw [h3] at h2
    simp [execOp, h1, Instr.loadAt, loadVar, Instr.sureAddr, ht.out w, load, Sem.run, h2]
theorem opq_loadAgg {t : TypeId} {x : Operand} {b off size : Nat} {vs : List Value} (hw : Want all ⟨dst, .load t x, ty, pos, af, g⟩ env) (hx : ev env x = some (.pointer (some ⟨b, off, none⟩))) [ht : IAgg P t size] (hr : Rd lc ⟨b, off, none⟩ vs) (hl : vs.length = size) :
    OpQ r P all ⟨dst, .load t x, ty, pos, af, g⟩ n ds env lc (.agg vs.toArray) :=
  opq_run hw (by simp) fun base F a w ha hs => by
    have h1 := ha.ev (x := x) (by simp [Op.operands]) hx
    have h2 := run_loadCells_list (P := P) w ⟨b, off, none⟩ vs ((hr.append F).cell hs)
    rw [hl] at h2
    simp [execOp, h1, Instr.loadAt, loadVar, Instr.sureAddr, (ht.out w).1, (ht.out w).2, h2]

/-- A value of one cell. -/
def plain : Value → Bool
  | .agg _ => false
  | .tuple _ => false
  | _ => true
theorem plain_cells {v : Value} (h : plain v = true) : v.cells = #[v] := by cases v <;> simp_all [plain, Value.cells]
theorem run_store1 {_base : World} {b off : Nat} {T : TypeId} {c : Array Value} {v : Value} {w : World} (hv : plain v = true) (hb : w.heap[b]? = some (.cells c T (0, 0))) (ho : off < c.size) :
    (store ⟨b, off, none⟩ v).run P w = .ok () (w.setCell ⟨b, off, none⟩ v) := by
  have h1 := cell_of_block (off := off) hb
  have h2 := frozen_of_block (off := off) hb
  have h3 : c[off]? = some c[off] := by simp [ho]
  rw [h3] at h1
  cases v <;> simp_all [plain, store, Sem.run]
theorem opn_store {t : TypeId} {x y : Operand} {b off T : Nat} {cs : List Value} {v : Value} (hw : Want all ⟨dst, .store t x y, ty, pos, af, g⟩ env) (hx : ev env x = some (.pointer (some ⟨b, off, none⟩))) (hy : ev env y = some v) (hv : plain v = true) [hsz : TI P t z 1 bytes]
    (hr : Rep (obj b T cs) (obj b T (cs.set off v)) l l') (ho : off < cs.length) : OpN r P all ⟨dst, .store t x y, ty, pos, af, g⟩ n ds env l (fun _ : Unit => undef) (fun _ => l') :=
  opn_run hw (by simp) fun base a w ha hs => by
    have h1 := ha.ev (x := x) (by simp [Op.operands]) hx
    have h2 := ha.ev (x := y) (by simp [Op.operands]) hy
    obtain ⟨i0, hi0, _, hsz', _⟩ := info_parts hsz.out
    obtain ⟨q, hq, _⟩ := hr.rem
    have hb := hs.block hq
    have hst := run_store1 (P := P) (_base := base) (off := off) hv hb (by simpa using ho)
    refine ⟨(), w.setCell ⟨b, off, none⟩ v, .inr ⟨rfl, ?_⟩, ?_⟩
    · have h3 : Addr.add ⟨b, off, none⟩ 0 = ⟨b, off, none⟩ := rfl
      simp [execOp, h1, h2, Instr.storeAt, storeVar, Instr.sureAddr, plain_cells hv, sizeOf, typeInfo, hi0, hsz', storeCells, h3, hst]
    · refine hs.setCell (T := T) (fr := (0, 0)) v (c := cs.toArray) ?_
      have : (cs.toArray.setIfInBounds off v) = (cs.set off v).toArray := by simp
      rw [this]; exact hr
end
end Go.Sl
