/- SlM: SlMap, SlMapR, SlMapE. -/
import Derived.Test.YtdpiglociolagaaGreatSlD
import Derived.Carry
import Derived.Laws.IdiomRangeMap
import Derived.Laws.Externs
/- Maps that are owned, keyed by integers. For whatever program. -/
namespace Go.Sl
section
variable {α : Type}
def mget : List (Nat × α) → Nat → Option α
  | [], _ => none
  | (a, v) :: r, k => if a = k then some v else mget r k
def mput : List (Nat × α) → Nat → α → List (Nat × α)
  | [], k, v => [(k, v)]
  | (a, u) :: r, k, v => if a = k then (a, v) :: r else (a, u) :: mput r k v
def mdel : List (Nat × α) → Nat → List (Nat × α)
  | [], _ => []
  | (a, u) :: r, k => if a = k then r else (a, u) :: mdel r k
def mkeys (m : List (Nat × α)) : List Nat := m.map (·.1)
theorem mget_put {m : List (Nat × α)} {k : Nat} {v : α} (j : Nat) : mget (mput m k v) j = if j = k then some v else mget m j := by
  induction m with
  | nil =>
    by_cases h : j = k
    · subst h; simp [mput, mget]
    · have h' : ¬ k = j := fun e => h e.symm
      simp [mput, mget, h, h']
  | cons p r ih =>
    obtain ⟨a, u⟩ := p
    unfold mput
    by_cases h : a = k
    · subst h
      rw [if_pos rfl]
      simp only [mget]
      by_cases h2 : a = j
      · subst h2; simp
      · have h2' : ¬ j = a := fun e => h2 e.symm
        simp [h2, h2']
    · rw [if_neg h]
      simp only [mget]
      by_cases h2 : a = j
      · subst h2; simp [h]
      · simp only [h2, if_false, ih]
theorem mkeys_put {m : List (Nat × α)} {k : Nat} {v : α} : mkeys (mput m k v) = if k ∈ mkeys m then mkeys m else mkeys m ++ [k] := by
  induction m with
  | nil => simp [mput, mkeys]
  | cons p r ih =>
    obtain ⟨a, u⟩ := p
    unfold mput
    by_cases h : a = k
    · subst h; simp [mkeys]
    · have h' : ¬ k = a := fun e => h e.symm
      rw [if_neg h]
      simp only [mkeys, List.map_cons, List.mem_cons, h', false_or] at ih ⊢
      rw [ih]
      by_cases hk : k ∈ List.map (fun x => x.fst) r <;> simp [hk]
theorem mget_isSome {m : List (Nat × α)} {k : Nat} : (mget m k).isSome = true ↔ k ∈ mkeys m := by
  induction m with
  | nil => simp [mget, mkeys]
  | cons p r ih =>
    obtain ⟨a, u⟩ := p
    simp only [mget, mkeys, List.map_cons, List.mem_cons] at ih ⊢
    by_cases h : a = k
    · subst h; simp
    · have h' : ¬ k = a := fun e => h e.symm
      simp [h, h', ih]
theorem mget_none {m : List (Nat × α)} {k : Nat} : mget m k = none ↔ k ∉ mkeys m := by
  rw [← mget_isSome]; cases mget m k <;> simp
theorem mput_nodup {m : List (Nat × α)} {k : Nat} {v : α} (h : (mkeys m).Nodup) : (mkeys (mput m k v)).Nodup := by
  rw [mkeys_put]
  split
  · exact h
  · rename_i hk
    rw [List.nodup_append]
    refine ⟨h, by simp, fun a ha b hb e => ?_⟩
    simp at hb; subst hb; subst e; exact hk ha
theorem mput_len {m : List (Nat × α)} {k : Nat} {v : α} : (mput m k v).length = if (mget m k).isSome then m.length else m.length + 1 := by
  have h := congrArg List.length (mkeys_put (m := m) (k := k) (v := v))
  simp only [mkeys, List.length_map] at h
  rw [h]
  by_cases hk : k ∈ mkeys m
  · rw [if_pos (mget_isSome.2 hk)]
    simp only [mkeys] at hk
    simp [hk]
  · rw [if_neg (fun e => hk (mget_isSome.1 e))]
    simp only [mkeys] at hk
    simp [hk]
theorem mdel_of_not {m : List (Nat × α)} {k : Nat} (h : k ∉ mkeys m) : mdel m k = m := by
  induction m with
  | nil => rfl
  | cons p r ih =>
    obtain ⟨a, u⟩ := p
    simp only [mkeys, List.map_cons, List.mem_cons, not_or] at h
    unfold mdel
    rw [if_neg (fun e => h.1 e.symm), ih h.2]
theorem mkeys_del {m : List (Nat × α)} {k : Nat} : mkeys (mdel m k) = (mkeys m).erase k := by
  induction m with
  | nil => rfl
  | cons p r ih =>
    obtain ⟨a, u⟩ := p
    unfold mdel
    by_cases h : a = k
    · subst h; simp [mkeys]
    · rw [if_neg h]
      simp only [mkeys, List.map_cons] at ih ⊢
      rw [List.erase_cons_tail (by simpa using h), ih]
theorem mget_del {m : List (Nat × α)} {k : Nat} (hn : (mkeys m).Nodup) (j : Nat) : mget (mdel m k) j = if j = k then none else mget m j := by
  induction m with
  | nil => simp [mdel, mget]
  | cons p r ih =>
    obtain ⟨a, u⟩ := p
    simp only [mkeys, List.map_cons, List.nodup_cons] at hn
    unfold mdel
    by_cases h : a = k
    · subst h
      rw [if_pos rfl]
      by_cases h2 : j = a
      · subst h2
        rw [if_pos rfl, mget_none]; exact hn.1
      · have h2' : ¬ a = j := fun e => h2 e.symm
        simp [mget, h2, h2']
    · rw [if_neg h]
      simp only [mget]
      by_cases h2 : a = j
      · subst h2; simp [h]
      · simp only [h2, if_false, ih hn.2]
theorem mdel_nodup {m : List (Nat × α)} {k : Nat} (h : (mkeys m).Nodup) : (mkeys (mdel m k)).Nodup := by
  rw [mkeys_del]; exact h.erase k
theorem mdel_len {m : List (Nat × α)} {k : Nat} : (mdel m k).length = if (mget m k).isSome then m.length - 1 else m.length := by
  have h := congrArg List.length (mkeys_del (m := m) (k := k))
  simp only [mkeys, List.length_map] at h
  rw [h, List.length_erase]
  by_cases hk : k ∈ mkeys m
  · rw [if_pos (mget_isSome.2 hk)]
    simp only [mkeys] at hk
    simp [hk]
  · rw [if_neg (fun e => hk (mget_isSome.1 e))]
    simp only [mkeys] at hk
    simp [hk]
end
/-! ### The block -/
section
variable {α : Type}
def mat : List (Nat × α) → Nat → Option (Nat × α)
  | [], _ => none
  | (a, v) :: r, k => if a = k then some (0, v) else (mat r k).map fun p => (p.1 + 1, p.2)
theorem mat_get {m : List (Nat × α)} {k : Nat} : (mat m k).map (·.2) = mget m k := by
  induction m with
  | nil => rfl
  | cons p r ih =>
    obtain ⟨a, u⟩ := p
    simp only [mat, mget]
    split
    · rfl
    · rw [← ih]; cases mat r k <;> rfl
theorem mat_put {m : List (Nat × α)} {k i : Nat} {u v : α} (h : mat m k = some (i, u)) : mput m k v = m.set i (k, v) ∧ mdel m k = m.eraseIdx i ∧ m[i]? = some (k, u) := by
  induction m generalizing i with
  | nil => cases h
  | cons p r ih =>
    obtain ⟨a, x⟩ := p
    simp only [mat] at h
    split at h
    · rename_i e; subst e; cases h; simp [mput, mdel]
    · rename_i e
      cases h2 : mat r k with
      | none => rw [h2] at h; cases h
      | some q =>
        obtain ⟨j, y⟩ := q
        rw [h2] at h; cases h
        obtain ⟨h3, h4, h5⟩ := ih h2
        simp [mput, mdel, e, h3, h4, h5]
theorem mat_none {m : List (Nat × α)} {k : Nat} {v : α} (h : mat m k = none) : mput m k v = m ++ [(k, v)] ∧ mdel m k = m := by
  induction m with
  | nil => exact ⟨rfl, rfl⟩
  | cons p r ih =>
    obtain ⟨a, x⟩ := p
    simp only [mat] at h
    split at h
    · cases h
    · rename_i e
      cases h2 : mat r k with
      | some q => rw [h2] at h; cases h
      | none =>
        obtain ⟨h3, h4⟩ := ih h2
        simp [mput, mdel, e, h3, h4]
def mEnt (kk : IntKind) (V : α → Value) (p : (Nat × α) × Nat) : MapEntry := ⟨.int kk p.1.1, V p.1.2, p.2⟩
def mEnts (kk : IntKind) (V : α → Value) (m : List (Nat × α)) (bs : List Nat) : Array MapEntry := ((m.zip bs).map (mEnt kk V)).toArray
structure MWf (m : List (Nat × α)) (bs : List Nat) (clock : Nat) : Prop where
  len : bs.length = m.length
  nd : bs.Nodup
  lt : ∀ x ∈ bs, x < clock
  keys : (mkeys m).Nodup
def MapA (kk : IntKind) (V : α → Value) (b : Nat) (m : List (Nat × α)) : HP := fun h => ∃ bs clock, MWf m bs clock ∧ blk b (.map (mEnts kk V m bs) clock) h
theorem findNow_mat {kk : IntKind} {V : α → Value} {k : Nat} : ∀ {m : List (Nat × α)} {bs : List Nat} {i : Nat}, bs.length = m.length →
    Instr.findNow (.int kk) (.int kk (k : Int)) ((m.zip bs).map (mEnt kk V)) i = some ((mat m k).map fun p => (i + p.1, V p.2))
  | [], _, _, _ => rfl
  | (a, v) :: r, [], _, h => by cases h
  | (a, v) :: r, c :: bs, i, h => by
    simp only [List.zip_cons_cons, List.map_cons, Instr.findNow, mEnt, Instr.sameNow, if_true, mat]
    by_cases e : a = k
    · subst e; simp
    · have e' : ¬ k = a := fun x => e x.symm
      have e2 : ((k : Int) == (a : Int)) = false := by simpa using (show ¬ (k : Int) = a by omega)
      rw [e2]
      simp only [e, if_false]
      rw [findNow_mat (by simpa using h)]
      cases mat r k with
      | none => rfl
      | some p => simp; omega
theorem mEnts_get {kk : IntKind} {V : α → Value} {m : List (Nat × α)} {bs : List Nat} {i : Nat} {p : Nat × α} (hl : bs.length = m.length) (h : m[i]? = some p) : ∃ c, bs[i]? = some c ∧ (mEnts kk V m bs)[i]? = some (mEnt kk V (p, c)) := by
  have hi : i < m.length := (List.getElem?_eq_some_iff.1 h).1
  refine ⟨bs[i]'(by omega), List.getElem?_eq_getElem _, ?_⟩
  have hz : (m.zip bs)[i]? = some (p, bs[i]'(by omega)) := List.getElem?_zip_eq_some.2 ⟨h, List.getElem?_eq_getElem _⟩
  simp [mEnts, hz]
theorem mEnts_set {kk : IntKind} {V : α → Value} : ∀ {m : List (Nat × α)} {bs : List Nat} {i k : Nat} {u v : α}, m[i]? = some (k, u) →
    ((m.zip bs).map (mEnt kk V)).modify i (fun e => { e with key := .int kk k, val := V v }) = ((m.set i (k, v)).zip bs).map (mEnt kk V)
  | [], _, _, _, _, _, h => by cases h
  | _ :: _, [], i, _, _, _, _ => by cases i <;> simp
  | p :: r, c :: bs, 0, k, u, v, h => by
    simp at h; subst h; rfl
  | p :: r, c :: bs, i + 1, k, u, v, h => by
    simp only [List.zip_cons_cons, List.map_cons, List.modify_succ_cons, List.set_cons_succ]
    rw [mEnts_set (by simpa using h)]
theorem mEnts_erase {kk : IntKind} {V : α → Value} : ∀ {m : List (Nat × α)} {bs : List Nat} {i : Nat}, ((m.zip bs).map (mEnt kk V)).eraseIdx i = ((m.eraseIdx i).zip (bs.eraseIdx i)).map (mEnt kk V)
  | [], _, _ => by simp
  | _ :: _, [], i => by cases i <;> simp
  | p :: r, c :: bs, 0 => rfl
  | p :: r, c :: bs, i + 1 => by
    simp only [List.zip_cons_cons, List.map_cons, List.eraseIdx_cons_succ]
    rw [mEnts_erase]
end
section
variable {r : Option Nat} {P : Program} {base : World} {n : Nat} {ds : List Deferred} {Q : Exit → Act → World → Prop} {env : Env} {lc l l' : List HP} {all : Array Oper} {ro : List Oper}
variable {dst : Option Tmp} {ty : TypeId} {pos : String} {af : Array Edge} {g : Option (Nat × Bool)} {α : Type} {kk : IntKind} {V : α → Value}
class MZ (P : Program) (e : TypeId) (V : α → Value) (z : outParam α) : Prop where
  out : ∀ w, (zeroValue e).run P w = .ok (V z) w
theorem mz_of {e : TypeId} {z : α} {size bytes : Nat} [h : TI P e (V z) size bytes] : MZ P e V z := ⟨fun w => by
  obtain ⟨i0, hi0, hz0, _, _⟩ := info_parts h.out
  simp [zeroValue, typeInfo, hi0, hz0]⟩
def Hm (l : List HP) (kk : IntKind) (V : α → Value) (b : Nat) (m : List (Nat × α)) : Prop := ∀ h, lst l h → ∃ bs clock, MWf m bs clock ∧ h b = some (true, .map (mEnts kk V m bs) clock)
theorem hm_a {b : Nat} {m : List (Nat × α)} {r' : List HP} (h : Rem l (MapA kk V b m) r') : Hm l kk V b m := fun x hx => by
  obtain ⟨p, q, hd, rfl, ⟨bs, clock, hw, hb⟩, _⟩ := h.out hx
  exact ⟨bs, clock, hw, joinH_left (by rw [hb]; simp)⟩
theorem Hm.append {b : Nat} {m : List (Nat × α)} (h : Hm lc kk V b m) (F : List HP) : Hm (lc ++ F) kk V b m := fun x hx => by
  obtain ⟨p, q, hd, rfl, hp, _⟩ := lst_unflat hx
  exact h _ (lst_join hp hd)
theorem Hm.get {b : Nat} {m : List (Nat × α)} {w : World} (h : Hm l kk V b m) (hs : St base l w) : ∃ bs clock, MWf m bs clock ∧ w.heap[b]? = some (.map (mEnts kk V m bs) clock) := by
  obtain ⟨hp, hf, hl⟩ := hs.heap
  obtain ⟨bs, clock, hw, hb⟩ := h _ hl
  exact ⟨bs, clock, hw, hf _ _ hb⟩
theorem isKey_int {k : Int} : MapKept.IsKey (.int kk) (.int kk k) := rfl
theorem run_lookup {t kt e : TypeId} {b k : Nat} {bs : List Nat} {clock : Nat} {m : List (Nat × α)} {w : World} {z : α} (hu : P.underlying t = some (.map kt e)) (hk : P.underlying kt = some (.int kk)) (hz : (zeroValue e).run P w = .ok (V z) w) (hw : MWf m bs clock) (hb : w.heap[b]? = some (.map (mEnts kk V m bs) clock)) (ok : Bool) :
    (Instr.lookup t (.map (some b)) (.int kk (k : Int)) ok).run P w = .ok (if ok then .tuple #[V ((mget m k).getD z), .bool (mget m k).isSome] else V ((mget m k).getD z)) w := by
  have h1 := MapKept.run_findKey (w := w) hk (findNow_mat (V := V) (k := k) (i := 0) hw.len)
  have h2 := MapKept.run_checkKey (w := w) hk (isKey_int (kk := kk) (k := (k : Int))) (mEnts kk V m bs).isEmpty 9999
  rw [← mat_get]
  cases hm : mat m k with
  | none =>
    rw [hm] at h1
    cases ok <;> simp [Instr.lookup, run_underlying hu, MapKept.run_getObj_map hb, mEnts, Result.andThen] <;> simp_all [mEnts]
  | some p =>
    rw [hm] at h1
    cases ok <;> simp [Instr.lookup, run_underlying hu, MapKept.run_getObj_map hb, mEnts, Result.andThen] <;> simp_all [mEnts]
theorem opq_lookup2 {t kt e : TypeId} {x y : Operand} {b k : Nat} {i : Int} {m : List (Nat × α)} {z : α} (hw : Want all ⟨dst, .lookup t x y true, ty, pos, af, g⟩ env) (hx : ev env x = some (.map (some b))) (hy : ev env y = some (.int kk i)) [hu : UL P t (.map kt e)] [hk : UL P kt (.int kk)] (hr : Hm lc kk V b m) (hz : MZ P e V z) (hn : NatI i k) :
    OpQ r P all ⟨dst, .lookup t x y true, ty, pos, af, g⟩ n ds env lc (.tuple #[V ((mget m k).getD z), .bool (mget m k).isSome]) :=
  opq_run hw (by simp) fun base F a w ha hs => by
    have h1 := ha.ev (x := x) (by simp [Op.operands]) hx
    have h2 := ha.ev (x := y) (by simp [Op.operands]) hy
    obtain ⟨bs, clock, hwf, hb⟩ := (hr.append F).get hs
    have h3 := run_lookup (k := k) hu.out hk.out (hz.out w) hwf hb true
    rw [hn.out] at h2
    simp [execOp, h1, h2, h3]
theorem opq_lookup1 {t kt e : TypeId} {x y : Operand} {b k : Nat} {i : Int} {m : List (Nat × α)} {z : α} (hw : Want all ⟨dst, .lookup t x y false, ty, pos, af, g⟩ env) (hx : ev env x = some (.map (some b))) (hy : ev env y = some (.int kk i)) [hu : UL P t (.map kt e)] [hk : UL P kt (.int kk)] (hr : Hm lc kk V b m) (hz : MZ P e V z) (hn : NatI i k) :
    OpQ r P all ⟨dst, .lookup t x y false, ty, pos, af, g⟩ n ds env lc (V ((mget m k).getD z)) :=
  opq_run hw (by simp) fun base F a w ha hs => by
    have h1 := ha.ev (x := x) (by simp [Op.operands]) hx
    have h2 := ha.ev (x := y) (by simp [Op.operands]) hy
    obtain ⟨bs, clock, hwf, hb⟩ := (hr.append F).get hs
    have h3 := run_lookup (k := k) hu.out hk.out (hz.out w) hwf hb false
    rw [hn.out] at h2
    simp [execOp, h1, h2, h3]
theorem opq_lenMap {t kt e : TypeId} {x : Operand} {b : Nat} {m : List (Nat × α)} (hw : Want all ⟨dst, .call ⟨.builtin .len, #[x], #[t]⟩, ty, pos, af, g⟩ env) (hx : ev env x = some (.map (some b))) [hu : UL P t (.map kt e)] (hr : Hm lc kk V b m) : OpQ r P all ⟨dst, .call ⟨.builtin .len, #[x], #[t]⟩, ty, pos, af, g⟩ n ds env lc (.int .i64 (m.length : Nat)) :=
  opq_run hw (by simp) fun base F a w ha hs => by
    have h1 := ha.ev (x := x) (by simp [Op.operands, Call.operands]) hx
    obtain ⟨bs, clock, hwf, hb⟩ := (hr.append F).get hs
    have hl : (mEnts kk V m bs).size = m.length := by simp [mEnts, hwf.len]
    refine execOp_builtin fun C => ?_
    simp [builtin, h1, Builtin.len_, run_underlying hu.out, MapKept.run_getObj_map hb, goInt, hl]
theorem opn_makeMap {t : TypeId} (kk : IntKind) (V : α → Value) (hw : Want all ⟨dst, .makeMap t none, ty, pos, af, g⟩ env) :
    OpN r P all ⟨dst, .makeMap t none, ty, pos, af, g⟩ n ds env l (fun b : Nat => .map (some b)) (fun b => MapA kk V b [] :: l) :=
  opn_run hw (by simp) fun base a w ha hs => by
    refine ⟨w.heap.size, _, .inl ?_, (hs.alloc (.map #[] 0)).ent fun _ y => lst_cons_mono (fun _ z => ⟨[], 0, ⟨rfl, .nil, by simp, by simp [mkeys]⟩, z⟩) (fun _ z => z) y⟩
    rfl
theorem St.map {b : Nat} {m : List (Nat × α)} {w : World} {r' : List HP} (hs : St base l w) (hr : Rem l (MapA kk V b m) r') : ∃ bs clock, MWf m bs clock ∧ St base (blk b (.map (mEnts kk V m bs) clock) :: r') w := by
  obtain ⟨hp, hf, hl⟩ := hs.heap
  obtain ⟨p, q, hd, e, ⟨bs, clock, hw, hb⟩, hq⟩ := hr.out hl
  exact ⟨bs, clock, hw, hs.os, hs.tape, hs.output, hp, hf, p, q, hd, e, hb, hq⟩
theorem St.map_mk {b : Nat} {m : List (Nat × α)} {w : World} {r' : List HP} {bs : List Nat} {clock : Nat} (hw : MWf m bs clock) (hs : St base (blk b (.map (mEnts kk V m bs) clock) :: r') w) : St base (MapA kk V b m :: r') w :=
  hs.ent fun _ y => lst_cons_mono (fun _ z => ⟨bs, clock, hw, z⟩) (fun _ z => z) y
theorem opn_mapUpdate {t kt e : TypeId} {x y z : Operand} {b k : Nat} {i : Int} {m : List (Nat × α)} {v : α} {l1 : List HP} (hw : Want all ⟨dst, .mapUpdate t x y z, ty, pos, af, g⟩ env) (hx : ev env x = some (.map (some b))) (hy : ev env y = some (.int kk i)) [hu : UL P t (.map kt e)] [hk : UL P kt (.int kk)] (hr : Rem l (MapA kk V b m) l1) (hz : ev env z = some (V v)) (hn : NatI i k) :
    OpN r P all ⟨dst, .mapUpdate t x y z, ty, pos, af, g⟩ n ds env l (fun _ : Unit => undef) (fun _ => MapA kk V b (mput m k v) :: l1) :=
  opn_run hw (by simp) fun base a w ha hs => by
    have h1 := ha.ev (x := x) (by simp [Op.operands]) hx
    have h2 := ha.ev (x := y) (by simp [Op.operands]) hy
    have h3 := ha.ev (x := z) (by simp [Op.operands]) hz
    rw [hn.out] at h2
    obtain ⟨bs, clock, hwf, hs1⟩ := hs.map hr
    have hb := hs1.block (.here _ _)
    have f1 := MapKept.run_findKey (w := w) hk.out (findNow_mat (V := V) (k := k) (i := 0) hwf.len)
    have f2 := MapKept.run_checkKey (w := w) hk.out (isKey_int (kk := kk) (k := (k : Int))) false 9999
    have f3 := MapKept.run_keyThatStays (P := P) (w := w) (isKey_int (kk := kk) (k := (k : Int)))
    cases hm : mat m k with
    | none =>
      rw [hm] at f1
      have hp := (mat_none (v := v) hm).1
      have hg : mget m k = none := by rw [← mat_get, hm]; rfl
      have hc : (mEnts kk V m bs).push ⟨.int kk (k : Int), V v, clock⟩ = mEnts kk V (mput m k v) (bs ++ [clock]) := by
        rw [hp]
        unfold mEnts
        rw [List.zip_append hwf.len.symm]
        simp [mEnt]
      have hset := hs1.setObj (o' := .map (mEnts kk V (mput m k v) (bs ++ [clock])) (clock + 1)) (.here _)
      refine ⟨(), _, .inr ⟨rfl, ?_⟩, St.map_mk (bs := bs ++ [clock]) (clock := clock + 1) ⟨?_, ?_, ?_, mput_nodup hwf.keys⟩ hset⟩
      · rw [← hc]
        have f1' : (Instr.findKey kt (.int kk (k : Int)) (mEnts kk V m bs).toList).run P w = .ok none w := f1
        have h4 := MapKept.run_setObj_map (P := P) (w := w) (r := b) (.map ((mEnts kk V m bs).push ⟨.int kk (k : Int), V v, clock⟩) (clock + 1)) hb
        simp only [execOp, h1, h2, h3, Instr.mapUpdate, Sem.run_bind, run_underlying hu.out, MapKept.run_getObj_map hb, f2, f1', Result.andThen]
        rw [h4]
        rfl
      · rw [hp]; simp [hwf.len]
      · rw [List.nodup_append]
        exact ⟨hwf.nd, by simp, fun a ha b hb e => by simp at hb; subst hb; subst e; exact absurd (hwf.lt _ ha) (by omega)⟩
      · intro x hx
        rcases List.mem_append.1 hx with h | h
        · have := hwf.lt _ h; omega
        · simp at h; omega
    | some p =>
      obtain ⟨j, u⟩ := p
      rw [hm] at f1
      obtain ⟨hp, _, hj⟩ := mat_put (v := v) hm
      obtain ⟨c, hc1, hc2⟩ := mEnts_get (kk := kk) (V := V) hwf.len hj
      have hc : (mEnts kk V m bs).modify j (fun e => { e with key := .int kk (k : Int), val := V v }) = mEnts kk V (mput m k v) bs := by
        rw [hp]
        unfold mEnts
        rw [List.modify_toArray, mEnts_set hj]
      have hset := hs1.setObj (o' := .map (mEnts kk V (mput m k v) bs) clock) (.here _)
      refine ⟨(), _, .inr ⟨rfl, ?_⟩, St.map_mk (bs := bs) (clock := clock) ⟨?_, hwf.nd, hwf.lt, mput_nodup hwf.keys⟩ hset⟩
      · have h4 := MapKept.run_setObj_map (P := P) (w := w) (r := b) (.map ((mEnts kk V m bs).modify j (fun e => { e with key := .int kk (k : Int), val := V v })) clock) hb
        have hkey : ((Option.map (fun x => x.key) (mEnts kk V m bs)[j]?).getD (Value.int kk (k : Int))) = .int kk (k : Int) := by rw [hc2]; rfl
        simp only [Option.map_some, Nat.zero_add] at f1
        have f1' : (Instr.findKey kt (.int kk (k : Int)) (mEnts kk V m bs).toList).run P w = .ok (some (j, V u)) w := f1
        simp only [execOp, h1, h2, h3, Instr.mapUpdate, Sem.run_bind, run_underlying hu.out, MapKept.run_getObj_map hb, f2, f1', hkey, f3, Result.andThen]
        rw [h4, hc]
        rfl
      · rw [hp]; simp [hwf.len]
theorem opn_delete {t t2 kt e : TypeId} {x y : Operand} {b k : Nat} {i : Int} {m : List (Nat × α)} {l1 : List HP} (hw : Want all ⟨dst, .call ⟨.builtin .delete, #[x, y], #[t, t2]⟩, ty, pos, af, g⟩ env) (hx : ev env x = some (.map (some b))) (hy : ev env y = some (.int kk i)) [hu : UL P t (.map kt e)] [hk : UL P kt (.int kk)] (hr : Rem l (MapA kk V b m) l1) (hn : NatI i k) :
    OpN r P all ⟨dst, .call ⟨.builtin .delete, #[x, y], #[t, t2]⟩, ty, pos, af, g⟩ n ds env l (fun _ : Unit => .tuple #[]) (fun _ => MapA kk V b (mdel m k) :: l1) :=
  opn_run hw (by simp) fun base a w ha hs => by
    have h1 := ha.ev (x := x) (by simp [Op.operands, Call.operands]) hx
    have h2 := ha.ev (x := y) (by simp [Op.operands, Call.operands]) hy
    rw [hn.out] at h2
    obtain ⟨bs, clock, hwf, hs1⟩ := hs.map hr
    have hb := hs1.block (.here _ _)
    have f1 := MapKept.run_findKey (w := w) hk.out (findNow_mat (V := V) (k := k) (i := 0) hwf.len)
    have f2 := MapKept.run_checkKey (w := w) hk.out (isKey_int (kk := kk) (k := (k : Int))) (mEnts kk V m bs).isEmpty 9999
    cases hm : mat m k with
    | none =>
      rw [hm] at f1
      have f1' : (Instr.findKey kt (.int kk (k : Int)) (mEnts kk V m bs).toList).run P w = .ok none w := f1
      have hp := (mat_none (v := Classical.choice (show Nonempty Unit from ⟨()⟩)) (α := Unit) (m := m.map fun p => (p.1, ())) (k := k) (by
        clear hs hs1 hb f1 f1' f2 hr hwf
        induction m with
        | nil => rfl
        | cons p q ih =>
          obtain ⟨a, u⟩ := p
          simp only [mat, List.map_cons] at hm ⊢
          split at hm
          · cases hm
          · rename_i e
            rw [if_neg e]
            cases h2 : mat q k with
            | none => rw [ih h2]; rfl
            | some z => rw [h2] at hm; cases hm))
      have hp2 : mdel m k = m := mdel_of_not (mget_none.1 (by rw [← mat_get, hm]; rfl))
      have h4 := MapKept.run_setObj_map (P := P) (w := w) (r := b) (.map (mEnts kk V m bs) clock) hb
      have hset := hs1.setObj (o' := .map (mEnts kk V m bs) clock) (.here _)
      rw [hp2]
      refine ⟨(), _, .inl ?_, St.map_mk hwf hset⟩
      refine execOp_builtin fun C => ?_
      simp [builtin, h1, h2, Builtin.delete_, run_underlying hu.out, MapKept.run_getObj_map hb, f2, f1', h4, Result.andThen]
    | some p =>
      obtain ⟨j, u⟩ := p
      rw [hm] at f1
      obtain ⟨_, hp, hj⟩ := mat_put (v := u) hm
      have f1' : (Instr.findKey kt (.int kk (k : Int)) (mEnts kk V m bs).toList).run P w = .ok (some (j, V u)) w := by
        simp only [Option.map_some, Nat.zero_add] at f1
        exact f1
      have hjl : j < m.length := (List.getElem?_eq_some_iff.1 hj).1
      have hc : (mEnts kk V m bs).eraseIdxIfInBounds j = mEnts kk V (mdel m k) (bs.eraseIdx j) := by
        rw [hp]
        unfold mEnts
        rw [← mEnts_erase]
        simp [Array.eraseIdxIfInBounds, hwf.len, hjl]
      have h4 := MapKept.run_setObj_map (P := P) (w := w) (r := b) (.map ((mEnts kk V m bs).eraseIdxIfInBounds j) clock) hb
      have hset := hs1.setObj (o' := .map (mEnts kk V (mdel m k) (bs.eraseIdx j)) clock) (.here _)
      refine ⟨(), _, .inl ?_, St.map_mk (bs := bs.eraseIdx j) (clock := clock) ⟨?_, ?_, ?_, mdel_nodup hwf.keys⟩ hset⟩
      · refine execOp_builtin fun C => ?_
        rw [← hc]
        simp [builtin, h1, h2, Builtin.delete_, run_underlying hu.out, MapKept.run_getObj_map hb, f2, f1', h4, Result.andThen]
      · rw [hp, List.length_eraseIdx, List.length_eraseIdx, hwf.len]
      · exact hwf.nd.sublist (List.eraseIdx_sublist ..)
      · exact fun x hx => hwf.lt x ((List.eraseIdx_sublist ..).mem hx)
end
end Go.Sl

/- A range over a map that is owned. For whatever program. -/
namespace Go.Sl
section
variable {α : Type}
def Left (m : List (Nat × α)) (bs : List Nat) (seen : List Nat) (T : List (Nat × α)) : Prop := T = ((m.zip bs).filter fun p => !seen.contains p.2).map (·.1)
def MapIt (kk : IntKind) (V : α → Value) (b : Nat) (m : List (Nat × α)) (it : Nat) (T : List (Nat × α)) : HP := fun h => ∃ bs clock seen, MWf m bs clock ∧ Left m bs seen T ∧ lstX [blk b (.map (mEnts kk V m bs) clock), blk it (.mapIter (some b) clock seen.toArray clock)] h
theorem left_all (m : List (Nat × α)) (bs : List Nat) (h : bs.length = m.length) : Left m bs [] m := by
  unfold Left
  have : (m.zip bs).filter (fun p => !([] : List Nat).contains p.2) = m.zip bs := List.filter_eq_self.2 fun _ _ => rfl
  rw [this, List.map_fst_zip (by omega)]
end
section
variable {r : Option Nat} {P : Program} {base : World} {n : Nat} {ds : List Deferred} {Q : Exit → Act → World → Prop} {env : Env} {lc l l' : List HP} {all : Array Oper} {ro : List Oper}
variable {dst : Option Tmp} {ty : TypeId} {pos : String} {af : Array Edge} {g : Option (Nat × Bool)} {α : Type} {kk : IntKind} {V : α → Value}
theorem hm_it {b it : Nat} {m T : List (Nat × α)} {r' : List HP} (h : Rem l (MapIt kk V b m it T) r') : Hm l kk V b m := fun x hx => by
  obtain ⟨p, q, hd, rfl, ⟨bs, clock, seen, hw, _, hb⟩, _⟩ := h.out hx
  obtain ⟨p1, p2, _, rfl, hb1, _⟩ := hb
  exact ⟨bs, clock, hw, joinH_left (joinH_left (by rw [hb1]; simp))⟩
theorem St.mapIt_mk {b it : Nat} {m T : List (Nat × α)} {w : World} {r' : List HP} {bs : List Nat} {clock : Nat} {seen : List Nat} (hw : MWf m bs clock) (hL : Left m bs seen T) (hs : St base (blk b (.map (mEnts kk V m bs) clock) :: blk it (.mapIter (some b) clock seen.toArray clock) :: r') w) : St base (MapIt kk V b m it T :: r') w :=
  hs.ent fun _ y => lst_cons_mono (fun _ z => ⟨bs, clock, seen, hw, hL, z⟩) (fun _ z => z) (lstX_in (xs := [_, _]) y)
theorem opn_range {t kt e : TypeId} {x : Operand} {b : Nat} {m : List (Nat × α)} {l1 : List HP} (hw : Want all ⟨dst, .range t x, ty, pos, af, g⟩ env) (hx : ev env x = some (.map (some b))) [hu : UL P t (.map kt e)] (hr : Rem l (MapA kk V b m) l1) :
    OpN r P all ⟨dst, .range t x, ty, pos, af, g⟩ n ds env l (fun it : Nat => .pointer (some ⟨it, 0, none⟩)) (fun it => MapIt kk V b m it m :: l1) :=
  opn_run hw (by simp) fun base a w ha hs => by
    have h1 := ha.ev (x := x) (by simp [Op.operands]) hx
    obtain ⟨bs, clock, hwf, hs1⟩ := hs.map hr
    have hb := hs1.block (.here _ _)
    have hs2 := (hs1.alloc (.mapIter (some b) clock #[] clock)).ent fun _ y => lst_swap y
    refine ⟨w.heap.size, _, .inl ?_, St.mapIt_mk hwf (left_all m bs hwf.len) hs2⟩
    simp [execOp, h1, run_range_map w t kt e b _ clock hu.out hb]
end
end Go.Sl

/- Maps that are owned: an entry found or made, then set; a copy. For whatever program. -/
namespace Go.Sl
section
variable {α : Type}
theorem findIdx_born {l : List MapEntry} (hn : (l.map (·.born)).Nodup) {j : Nat} {e0 : MapEntry} (h : l[j]? = some e0) : l.findIdx? (fun e => ((e.born : Nat) : Int) == ((e0.born : Nat) : Int)) = some j := by
  induction l generalizing j with
  | nil => cases h
  | cons a r ih =>
    rw [List.map_cons, List.nodup_cons] at hn
    cases j with
    | zero => simp at h; subst h; simp [List.findIdx?_cons]
    | succ j =>
      rw [List.getElem?_cons_succ] at h
      have hne : a.born ≠ e0.born := fun e1 => hn.1 (List.mem_map.2 ⟨e0, List.mem_of_getElem? h, e1.symm⟩)
      have hb : (((a.born : Nat) : Int) == ((e0.born : Nat) : Int)) = false := by
        rw [beq_eq_false_iff_ne, ne_eq, Int.natCast_inj]; exact hne
      rw [List.findIdx?_cons, hb]
      simp [ih hn.2 h]
theorem findIdx_list (xs : Array MapEntry) (p : MapEntry → Bool) : xs.findIdx? p = xs.toList.findIdx? p := by cases xs; simp
theorem modify_at {β : Type} (f : β → β) : ∀ (l : List β) (j : Nat) (a : β), l[j]? = some a → f a = a → l.modify j f = l
  | [], _, _, h, _ => by cases h
  | b :: r, 0, a, h, e => by simp at h; subst h; simp [e]
  | b :: r, j + 1, a, h, e => by rw [List.modify_succ_cons, modify_at f r j a (by simpa using h) e]
def MapE (kk : IntKind) (V : α → Value) (b : Nat) (m : List (Nat × α)) (k st : Nat) : HP := fun h => ∃ u bs clock j, MWf (mput m k u) bs clock ∧ mat (mput m k u) k = some (j, u) ∧ bs[j]? = some st ∧ blk b (.map (mEnts kk V (mput m k u) bs) clock) h
theorem mput_put {m : List (Nat × α)} {k : Nat} {u v : α} : mput (mput m k u) k v = mput m k v := by
  induction m with
  | nil => simp [mput]
  | cons p r ih =>
    obtain ⟨a, x⟩ := p
    by_cases e : a = k
    · simp [mput, e]
    · simp [mput, e, ih]
theorem mput_same {m : List (Nat × α)} {k : Nat} {u : α} (h : mget m k = some u) : mput m k u = m := by
  induction m with
  | nil => cases h
  | cons p r ih =>
    obtain ⟨a, x⟩ := p
    simp only [mget] at h
    by_cases e : a = k
    · rw [if_pos e] at h; cases h; simp [mput, e]
    · rw [if_neg e] at h; simp [mput, e, ih h]
theorem mat_mput {m : List (Nat × α)} {k : Nat} {u : α} : ∃ j, mat (mput m k u) k = some (j, u) := by
  have h : (mat (mput m k u) k).map (·.2) = some u := by rw [mat_get, mget_put, if_pos rfl]
  cases hm : mat (mput m k u) k with
  | none => rw [hm] at h; cases h
  | some p => rw [hm] at h; obtain ⟨j, x⟩ := p; simp at h; subst h; exact ⟨j, rfl⟩
theorem mEnts_val {kk : IntKind} {V : α → Value} : ∀ {m : List (Nat × α)} {bs : List Nat} {i k : Nat} {u v : α}, m[i]? = some (k, u) →
    ((m.zip bs).map (mEnt kk V)).modify i (fun e => { e with val := V v }) = ((m.set i (k, v)).zip bs).map (mEnt kk V)
  | [], _, _, _, _, _, h => by cases h
  | _ :: _, [], i, _, _, _, _ => by cases i <;> simp
  | p :: r, c :: bs, 0, k, u, v, h => by
    simp at h; subst h; rfl
  | p :: r, c :: bs, i + 1, k, u, v, h => by
    simp only [List.zip_cons_cons, List.map_cons, List.modify_succ_cons, List.set_cons_succ]
    rw [mEnts_val (by simpa using h)]
theorem mEnts_born {kk : IntKind} {V : α → Value} {m : List (Nat × α)} {bs : List Nat} (h : bs.length = m.length) : ((mEnts kk V m bs).toList.map (·.born)) = bs := by
  simp only [mEnts, List.map_map]
  have : (fun e : MapEntry => e.born) ∘ mEnt kk V = fun p : (Nat × α) × Nat => p.2 := rfl
  rw [this]
  exact List.map_snd_zip (by omega)
end
section
variable {r : Option Nat} {P : Program} {base : World} {n : Nat} {ds : List Deferred} {Q : Exit → Act → World → Prop} {env : Env} {lc l l' : List HP} {all : Array Oper} {ro : List Oper}
variable {dst : Option Tmp} {ty : TypeId} {pos : String} {af : Array Edge} {g : Option (Nat × Bool)} {α : Type} {kk : IntKind} {V : α → Value}
theorem opn_mapEntry {t kt e : TypeId} {x y : Operand} {b k : Nat} {i : Int} {m : List (Nat × α)} {z : α} {l1 : List HP} (hw : Want all ⟨dst, .mapEntry t x y, ty, pos, af, g⟩ env) (hx : ev env x = some (.map (some b))) (hy : ev env y = some (.int kk i)) [hu : UL P t (.map kt e)] [hk : UL P kt (.int kk)] (hr : Rem l (MapA kk V b m) l1) (hz : MZ P e V z) (hn : NatI i k) :
    OpN r P all ⟨dst, .mapEntry t x y, ty, pos, af, g⟩ n ds env l (fun q : α × Nat => .tuple #[V q.1, .int .i64 (q.2 : Nat)]) (fun q => MapE kk V b m k q.2 :: l1) :=
  opn_run hw (by simp) fun base a w ha hs => by
    have h1 := ha.ev (x := x) (by simp [Op.operands]) hx
    have h2 := ha.ev (x := y) (by simp [Op.operands]) hy
    rw [hn.out] at h2
    obtain ⟨bs, clock, hwf, hs1⟩ := hs.map hr
    have hb := hs1.block (.here _ _)
    have f1 := MapKept.run_findKey (w := w) hk.out (findNow_mat (V := V) (k := k) (i := 0) hwf.len)
    have f2 := MapKept.run_checkKey (w := w) hk.out (isKey_int (kk := kk) (k := (k : Int))) false 9999
    have f3 := MapKept.run_keyThatStays (P := P) (w := w) (isKey_int (kk := kk) (k := (k : Int)))
    cases hm : mat m k with
    | none =>
      rw [hm] at f1
      have hp := (mat_none (v := z) hm).1
      have hc : (mEnts kk V m bs).push ⟨.int kk (k : Int), V z, clock⟩ = mEnts kk V (mput m k z) (bs ++ [clock]) := by
        rw [hp]
        unfold mEnts
        rw [List.zip_append hwf.len.symm]
        simp [mEnt]
      have hset := hs1.setObj (o' := .map (mEnts kk V (mput m k z) (bs ++ [clock])) (clock + 1)) (.here _)
      have hw2 : MWf (mput m k z) (bs ++ [clock]) (clock + 1) := by
        refine ⟨?_, ?_, ?_, mput_nodup hwf.keys⟩
        · rw [hp]; simp [hwf.len]
        · rw [List.nodup_append]
          exact ⟨hwf.nd, by simp, fun a ha b hb e => by simp at hb; subst hb; subst e; exact absurd (hwf.lt _ ha) (by omega)⟩
        · intro x hx
          rcases List.mem_append.1 hx with h | h
          · have := hwf.lt _ h; omega
          · simp at h; omega
      have hj : mat (mput m k z) k = some (m.length, z) := by
        obtain ⟨j, hj⟩ := mat_mput (m := m) (k := k) (u := z)
        obtain ⟨_, _, h5⟩ := mat_put (v := z) hj
        rw [hj]
        have hlt : j < (mput m k z).length := (List.getElem?_eq_some_iff.1 h5).1
        rw [hp] at h5 hlt
        simp at hlt
        by_cases e : j = m.length
        · rw [e]
        · exfalso
          rw [List.getElem?_append_left (by omega)] at h5
          have : mget m k = none := by rw [← mat_get, hm]; rfl
          exact mget_none.1 this (List.mem_map.2 ⟨_, List.mem_of_getElem? h5, rfl⟩)
      refine ⟨(z, clock), _, .inl ?_, hset.ent fun _ y => lst_cons_mono (fun _ q => ⟨z, bs ++ [clock], clock + 1, m.length, hw2, hj, by simp [← hwf.len], q⟩) (fun _ q => q) y⟩
      rw [← hc]
      have f1' : (Instr.findKey kt (.int kk (k : Int)) (mEnts kk V m bs).toList).run P w = .ok none w := f1
      have h4 := MapKept.run_setObj_map (P := P) (w := w) (r := b) (.map ((mEnts kk V m bs).push ⟨.int kk (k : Int), V z, clock⟩) (clock + 1)) hb
      have hz' := hz.out w
      simp only [execOp, h1, h2, Instr.mapEntry, Sem.run_bind, run_underlying hu.out, MapKept.run_getObj_map hb, f2, f1', hz', Result.andThen]
      rw [h4]
      rfl
    | some p =>
      obtain ⟨j, u⟩ := p
      rw [hm] at f1
      obtain ⟨hp, _, hj⟩ := mat_put (v := u) hm
      have hpu : mput m k u = m := mput_same (by rw [← mat_get, hm]; rfl)
      obtain ⟨c, hc1, hc2⟩ := mEnts_get (kk := kk) (V := V) hwf.len hj
      have hc : (mEnts kk V m bs).modify j (fun e => { e with key := .int kk (k : Int) }) = mEnts kk V m bs := by
        apply Array.ext'
        rw [Array.toList_modify]
        exact modify_at _ _ _ (mEnt kk V ((k, u), c)) (by simpa using hc2) rfl
      have hset := hs1.setObj (o' := .map (mEnts kk V m bs) clock) (.here _)
      refine ⟨(u, c), _, .inl ?_, hset.ent fun _ y => lst_cons_mono (fun _ q => ⟨u, bs, clock, j, by rw [hpu]; exact hwf, by rw [hpu]; exact hm, hc1, by rw [hpu]; exact q⟩) (fun _ q => q) y⟩
      have h4 := MapKept.run_setObj_map (P := P) (w := w) (r := b) (.map ((mEnts kk V m bs).modify j (fun e => { e with key := .int kk (k : Int) })) clock) hb
      have hkey : ((Option.map (fun x => x.key) (mEnts kk V m bs)[j]?).getD (Value.int kk (k : Int))) = .int kk (k : Int) := by rw [hc2]; rfl
      have hborn : ((Option.map (fun x => (x.born : Int)) (mEnts kk V m bs)[j]?).getD 0) = (c : Int) := by rw [hc2]; rfl
      simp only [Option.map_some, Nat.zero_add] at f1
      have f1' : (Instr.findKey kt (.int kk (k : Int)) (mEnts kk V m bs).toList).run P w = .ok (some (j, V u)) w := f1
      simp only [execOp, h1, h2, Instr.mapEntry, Sem.run_bind, run_underlying hu.out, MapKept.run_getObj_map hb, f2, f1', hkey, f3, Result.andThen]
      rw [h4, hc]
      simp only [hborn]
      rfl
theorem opn_entryStore {t : TypeId} {x s y : Operand} {b k st : Nat} {i : Int} {m : List (Nat × α)} {v : α} {l1 : List HP} (hw : Want all ⟨dst, .entryStore t x s y, ty, pos, af, g⟩ env) (hx : ev env x = some (.map (some b))) (hs : ev env s = some (.int .i64 i)) (hr : Rem l (MapE kk V b m k st) l1) (hy : ev env y = some (V v)) (hn : NatI i st) :
    OpN r P all ⟨dst, .entryStore t x s y, ty, pos, af, g⟩ n ds env l (fun _ : Unit => undef) (fun _ => MapA kk V b (mput m k v) :: l1) :=
  opn_run hw (by simp) fun base a w ha hst => by
    have h1 := ha.ev (x := x) (by simp [Op.operands]) hx
    have h2 := ha.ev (x := s) (by simp [Op.operands]) hs
    have h3 := ha.ev (x := y) (by simp [Op.operands]) hy
    rw [hn.out] at h2
    obtain ⟨hp, hf, hl⟩ := hst.heap
    obtain ⟨p, q, hd, e, ⟨u, bs, clock, j, hwf, hm, hbj, hb0⟩, hq⟩ := hr.out hl
    have hs1 : St base (blk b (.map (mEnts kk V (mput m k u) bs) clock) :: l1) w := ⟨hst.os, hst.tape, hst.output, hp, hf, p, q, hd, e, hb0, hq⟩
    have hb := hs1.block (.here _ _)
    obtain ⟨hpu, _, hj⟩ := mat_put (v := v) hm
    rw [mput_put] at hpu
    obtain ⟨c, hc1, hc2⟩ := mEnts_get (kk := kk) (V := V) hwf.len hj
    obtain rfl : c = st := by rw [hc1] at hbj; exact Option.some.inj hbj
    have hidx : (mEnts kk V (mput m k u) bs).findIdx? (fun e => ((e.born : Nat) : Int) == ((c : Nat) : Int)) = some j := by
      rw [findIdx_list]
      exact findIdx_born (e0 := mEnt kk V ((k, u), c)) (by rw [mEnts_born hwf.len]; exact hwf.nd) (by simpa using hc2)
    have hc : (mEnts kk V (mput m k u) bs).modify j (fun e => { e with val := V v }) = mEnts kk V (mput m k v) bs := by
      rw [hpu]
      unfold mEnts
      rw [List.modify_toArray, mEnts_val hj]
    have hset := hs1.setObj (o' := .map (mEnts kk V (mput m k v) bs) clock) (.here _)
    have hk0 : (mkeys m).Nodup ∨ True := .inr trivial
    have hkeys : (mkeys (mput m k v)).Nodup := by
      have := hwf.keys
      rw [mkeys_put] at this ⊢
      exact this
    refine ⟨(), _, .inr ⟨rfl, ?_⟩, St.map_mk (bs := bs) (clock := clock) ⟨?_, hwf.nd, hwf.lt, hkeys⟩ hset⟩
    · have h4 := MapKept.run_setObj_map (P := P) (w := w) (r := b) (.map ((mEnts kk V (mput m k u) bs).modify j (fun e => { e with val := V v })) clock) hb
      simp only [execOp, h1, h2, h3, Instr.entryStore, Sem.run_bind, MapKept.run_getObj_map hb, asInt, asIntOf, Sem.run_pure, Result.andThen, hidx]
      rw [h4, hc]
    · rw [hpu]; simp [hwf.len]
/-! ### Maps in interfaces; a copy -/
theorem opq_eql_map {t kt e : TypeId} {x y : Operand} {yt : TypeId} {b : Nat} (hw : Want all ⟨dst, .binOp .eql t x y yt, ty, pos, af, g⟩ env) (hx : ev env x = some (.map (some b))) (hy : ev env y = some (.map none)) [hu : UL P t (.map kt e)] :
    OpQ r P all ⟨dst, .binOp .eql t x y yt, ty, pos, af, g⟩ n ds env lc (.bool false) :=
  opq_bin hw hx hy (fun w => by simp [eqGuard]) (run_eql (fun w => rfl) fun d w => by simp [Op.equalIn, run_underlying hu.out])
theorem opq_iface_map {t kt e : TypeId} {x : Operand} {v : Value} (hw : Want all ⟨dst, .makeInterface t x, ty, pos, af, g⟩ env) (hx : ev env x = some v) [hu : UL P t (.map kt e)] :
    OpQ r P all ⟨dst, .makeInterface t x, ty, pos, af, g⟩ n ds env lc (.iface t v) :=
  opq_run hw (by simp) fun base F a w ha hs => by
    have h1 := ha.ev (x := x) (by simp [Op.operands]) hx
    simp [execOp, h1, Instr.makeInterface, run_underlying hu.out, Result.andThen]
theorem opq_assert_map {t kt e xt : TypeId} {x : Operand} {v : Value} (hw : Want all ⟨dst, .typeAssert x xt t false, ty, pos, af, g⟩ env) (hx : ev env x = some (.iface t v)) [hu : UL P t (.map kt e)] :
    OpQ r P all ⟨dst, .typeAssert x xt t false, ty, pos, af, g⟩ n ds env lc v :=
  opq_run hw (by simp) fun base F a w ha hs => by
    have h1 := ha.ev (x := x) (by simp [Op.operands]) hx
    have h3 : (Instr.typeAssert (.iface t v) xt t false).run P w = .ok v w := by simp [Instr.typeAssert, run_underlying hu.out, Result.andThen]
    simp [execOp, h1, h3]
class EX (P : Program) (f : FuncId) (e : outParam (Array Value → Sem Value)) : Prop where
  out : ∀ (args : Array Value) (w : World), (callFunc f args).run P w = ((e args).run P w).andThen fun v w' => .ok (.value v) w'
theorem opn_mapsClone {f : FuncId} {x : Operand} {ats : Array TypeId} {t : TypeId} {b : Nat} {m : List (Nat × α)} {l1 : List HP} [hE : EX P f Extern.MapsClone.clone] (hw : Want all ⟨dst, .call ⟨.value (.func f), #[x], ats⟩, ty, pos, af, g⟩ env) (hx : ev env x = some (.iface t (.map (some b)))) (hr : Rem l (MapA kk V b m) l1) :
    OpN r P all ⟨dst, .call ⟨.value (.func f), #[x], ats⟩, ty, pos, af, g⟩ n ds env l (fun c : Nat => .iface t (.map (some c))) (fun c => MapA kk V c m :: MapA kk V b m :: l1) :=
  opn_run hw (by simp) fun base a w ha hs => by
    have h1 := ha.ev (x := x) (by simp [Op.operands, Call.operands]) hx
    obtain ⟨bs, clock, hwf, hs1⟩ := hs.map hr
    have hb := hs1.block (.here _ _)
    have h2 : (Extern.MapsClone.clone #[.iface t (.map (some b))]).run P w = .ok (.iface t (.map (some w.heap.size))) (w.alloc (.map (mEnts kk V m bs) clock)) := by
      have e : Extern.MapsClone.clone #[.iface t (.map (some b))] = (getObj b >>= fun o => match o with
          | .map entries clock => (newObj (.map entries clock) >>= fun n => pure (.iface t (.map (some n))))
          | _ => stuck "maps.clone: a map expected") := rfl
      rw [e]
      simp [MapKept.run_getObj_map hb, Result.andThen, newObj]
      rfl
    have h3 := hE.out #[.iface t (.map (some b))] w
    rw [h2] at h3
    have hs2 := (hs1.alloc (.map (mEnts kk V m bs) clock)).ent fun _ y => lst_cons_mono (fun _ z => (⟨bs, clock, hwf, z⟩ : MapA kk V w.heap.size m _)) (fun _ z => lst_cons_mono (fun _ z => (⟨bs, clock, hwf, z⟩ : MapA kk V b m _)) (fun _ z => z) z) y
    refine ⟨w.heap.size, _, .inl ?_, hs2⟩
    have h0 : a.eval (.func f) = .func (.func f) #[] #[] := rfl
    simp only [execOp, resolve, Sem.run_bind]
    simp [h0, h1, Deferred.ofValue, invoke, h3, Result.andThen]
end
class MTy {α : Type} (P : Program) (t : TypeId) (kk : outParam IntKind) (V : outParam (α → Value)) : Prop where
  out : True
class MTyA (P : Program) (t : TypeId) (α : outParam Type) (kk : outParam IntKind) (V : outParam (α → Value)) : Prop where
  out : True
end Go.Sl
