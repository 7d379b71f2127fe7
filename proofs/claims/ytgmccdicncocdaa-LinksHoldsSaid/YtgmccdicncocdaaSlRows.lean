/- A block of rows of one width: what a cell holds, what a store makes of it. Plain facts. -/
import Derived.Test.YtgmccdicncocdaaSlTail
namespace Go.Sl

def rows (K : Nat) (f : Nat → List Value) : List Value := (List.range K).flatMap f
section
variable {sz K : Nat} {f g : Nat → List Value}
theorem rows_succ : rows (K + 1) f = rows K f ++ f K := by simp [rows, List.range_succ, List.flatMap_append]
theorem rows_length (hf : ∀ i, (f i).length = sz) : ∀ K, (rows K f).length = K * sz
  | 0 => by simp [rows]
  | K + 1 => by rw [rows_succ, List.length_append, rows_length hf K, hf, Nat.add_mul]; omega
theorem rows_get (hf : ∀ i, (f i).length = sz) {i j : Nat} (hj : j < sz) : ∀ {K}, i < K → (rows K f)[i * sz + j]? = (f i)[j]?
  | 0, h => by omega
  | K + 1, h => by
    rw [rows_succ]
    by_cases hi : i < K
    · have h1 : (i + 1) * sz ≤ K * sz := Nat.mul_le_mul_right _ hi
      rw [Nat.add_mul] at h1
      rw [List.getElem?_append_left (by rw [rows_length hf]; omega)]
      exact rows_get hf hj hi
    · have : i = K := by omega
      subst this
      rw [List.getElem?_append_right (by rw [rows_length hf]; omega), rows_length hf]
      congr 1; omega
theorem rows_get' (hf : ∀ i, (f i).length = sz) {q : Nat} (hq : q < K * sz) : (rows K f)[q]? = (f (q / sz))[q % sz]? := by
  have hpos : 0 < sz := by
    rcases Nat.eq_zero_or_pos sz with h | h
    · rw [h] at hq; simp at hq
    · exact h
  have h1 : q / sz < K := by rw [Nat.div_lt_iff_lt_mul hpos]; exact hq
  have h2 := rows_get (f := f) hf (Nat.mod_lt q hpos) h1
  have h3 : q / sz * sz + q % sz = q := by rw [Nat.mul_comm]; exact Nat.div_add_mod q sz
  rw [h3] at h2; exact h2
theorem rows_congr : ∀ {K}, (∀ i, i < K → f i = g i) → rows K f = rows K g
  | 0, _ => rfl
  | K + 1, h => by rw [rows_succ, rows_succ, rows_congr (fun i hi => h i (by omega)), h K (by omega)]
theorem rows_set (hf : ∀ i, (f i).length = sz) {i j : Nat} (hj : j < sz) (v : Value) : ∀ {K}, i < K → (rows K f).set (i * sz + j) v = rows K (fun k => if k = i then (f i).set j v else f k)
  | 0, h => by omega
  | K + 1, h => by
    rw [rows_succ, rows_succ]
    by_cases hi : i < K
    · have h1 : (i + 1) * sz ≤ K * sz := Nat.mul_le_mul_right _ hi
      rw [Nat.add_mul] at h1
      rw [List.set_append_left _ _ (by rw [rows_length hf]; omega), rows_set hf hj v hi, if_neg (by omega)]
    · have : i = K := by omega
      subst this
      rw [List.set_append_right _ _ (by rw [rows_length hf]; omega), rows_length hf, if_pos rfl]
      congr 1
      · exact rows_congr fun k hk => by rw [if_neg (by omega)]
      · congr 1; omega
theorem setL_over : ∀ (vs pre old post : List Value), old.length = vs.length → setL (pre ++ old ++ post) pre.length vs = pre ++ vs ++ post
  | [], pre, old, post, h => by
    have : old = [] := List.eq_nil_of_length_eq_zero (by simpa using h)
    subst this; rfl
  | v :: vs, pre, old, post, h => by
    match old, h with
    | o :: old, h =>
      have h1 : (pre ++ (o :: old) ++ post).set pre.length v = (pre ++ [v]) ++ old ++ post := by simp
      rw [setL, h1]
      have h2 := setL_over vs (pre ++ [v]) old post (by simpa using h)
      simp only [List.length_append, List.length_singleton] at h2
      rw [h2]; simp
theorem rows_setL (hf : ∀ i, (f i).length = sz) {i : Nat} {vs : List Value} (hv : vs.length = sz) : ∀ {K}, i < K → setL (rows K f) (i * sz) vs = rows K (fun k => if k = i then vs else f k)
  | 0, h => by omega
  | K + 1, h => by
    rw [rows_succ, rows_succ]
    by_cases hi : i < K
    · have h1 : (i + 1) * sz ≤ K * sz := Nat.mul_le_mul_right _ hi
      rw [Nat.add_mul] at h1
      rw [setL_append (by rw [rows_length hf]; omega), rows_setL hf hv hi, if_neg (by omega)]
    · have : i = K := by omega
      subst this
      have h2 := setL_over vs (rows i f) (f i) [] (by rw [hf, hv])
      rw [rows_length hf, List.append_nil, List.append_nil] at h2
      rw [h2, if_pos rfl]
      congr 1
      exact rows_congr fun k hk => by rw [if_neg (by omega)]
theorem rows_replicate (zs : List Value) : ∀ K, (List.replicate K zs).flatten = rows K (fun _ => zs)
  | 0 => rfl
  | K + 1 => by rw [rows_succ, ← rows_replicate zs K, List.replicate_succ', List.flatten_append]; simp
end

/-- A field of one cell of a struct value. -/
class FD (P : Program) (s : TypeId) (i : Nat) (off : outParam Nat) : Prop where
  out : ∀ (vs : List Value) (v : Value), vs[off]? = some v → ∀ w : World, (Instr.field s (.agg vs.toArray) i).run P w = .ok v w
theorem fd_mk {P : Program} {s i ft off : Nat} {fields : Array Field} (hu : P.underlying s = some (.struct fields)) (hf : (fields[i]?).map (fun f => (f.type, f.offset)) = some (ft, off)) [hn : NAgg P ft] : FD P s i off := ⟨fun vs v hv w => by
  cases h : fields[i]? with
  | none => rw [h] at hf; cases hf
  | some f =>
    rw [h] at hf
    simp only [Option.map_some, Option.some.injEq, Prod.mk.injEq] at hf
    obtain ⟨h1, h2⟩ := hf
    subst h2
    have h3 := hn.out w
    rw [← h1] at h3
    simp [Instr.field, run_underlying hu, h, asAgg, part, h3, hv]⟩
/-! ### Owned rows read and written -/
section
variable {r : Option Nat} {P : Program} {n : Nat} {ds : List Deferred} {env : Env} {lc l l' : List HP} {all : Array Oper}
variable {z : Value} {bytes : Nat} {dst : Option Tmp} {ty : TypeId} {pos : String} {af : Array Edge} {g : Option (Nat × Bool)}
theorem rd_vecget {E sz b k cap off : Nat} {cs : List Value} {v : Value} {r' : List HP} (h : Rem lc (Vec E sz (some ⟨b, 0, none⟩) k cap cs) r') (hv : cs[off]? = some v) : Rd lc ⟨b, off, none⟩ [v] := by
  have := rd_get (rd_vec h) hv
  simpa using this
/-- A store into an owned slice; 'cs'': what its cells are then. -/
theorem opn_storeVec' {t : TypeId} {x y : Operand} {b off E sz k cap size : Nat} {cs cs' vs : List Value} {v : Value} (hw : Want all ⟨dst, .store t x y, ty, pos, af, g⟩ env) (hx : ev env x = some (.pointer (some ⟨b, off, none⟩))) (hy : ev env y = some v) (hv : IsCells v vs) [hsz : TI P t z size bytes] (hvs : vs.length = size)
    (hr : Rep (Vec E sz (some ⟨b, 0, none⟩) k cap cs) (Vec E sz (some ⟨b, 0, none⟩) k cap cs') l l') (ho : off + vs.length ≤ cs.length) (hcs : setL cs off vs = cs') : OpN r P all ⟨dst, .store t x y, ty, pos, af, g⟩ n ds env l (fun _ : Unit => undef) (fun _ => l') := by
  subst hcs
  exact opn_storeVec hw hx hy hv hvs hr ho
theorem rd_vecrow {E sz b k cap off : Nat} {cs vs : List Value} {r' : List HP} (h : Rem lc (Vec E sz (some ⟨b, 0, none⟩) k cap cs) r') (hv : ∀ j v, vs[j]? = some v → cs[off + j]? = some v) : Rd lc ⟨b, off, none⟩ vs := fun x hx => by
  obtain ⟨_, h2⟩ := rd_vec h x hx
  refine ⟨rfl, fun j v hj => ?_⟩
  obtain ⟨c, T, fr, t, h3, h4⟩ := h2 (off + j) v (hv j v hj)
  exact ⟨c, T, fr, t, h3, by simpa using h4⟩
/-- A store of whatever size into a block of cells that is owned. -/
theorem opn_storeObj {t : TypeId} {x y : Operand} {b off T size : Nat} {cs cs' vs : List Value} {v : Value} (hw : Want all ⟨dst, .store t x y, ty, pos, af, g⟩ env) (hx : ev env x = some (.pointer (some ⟨b, off, none⟩))) (hy : ev env y = some v) (hv : IsCells v vs) [hsz : TI P t z size bytes] (hvs : vs.length = size)
    (hr : Rep (obj b T cs) (obj b T cs') l l') (ho : Nat.ble (off + vs.length) cs.length = true) (hcs : setL cs off vs = cs') : OpN r P all ⟨dst, .store t x y, ty, pos, af, g⟩ n ds env l (fun _ : Unit => undef) (fun _ => l') :=
  opn_run hw (by simp) fun base a w ha hs => by
    subst hcs
    have h1 := ha.ev (x := x) (by simp [Op.operands]) hx
    have h2 := ha.ev (x := y) (by simp [Op.operands]) hy
    obtain ⟨i0, hi0, _, hsz', _⟩ := info_parts hsz.out
    obtain ⟨q, hq1, hq2⟩ := hr.rem
    have hblk := hs.block hq1
    obtain ⟨w', hst, e1, e2, e3, e4⟩ := run_storeCells_set (P := P) vs 0 off cs w hblk (by have := Nat.le_of_ble_eq_true ho; omega) hv.eq.2
    refine ⟨(), w', .inr ⟨rfl, ?_⟩, St.ent ?_ (fun _ y => hq2.back y)⟩
    · simp [execOp, h1, h2, Instr.storeAt, storeVar, Instr.sureAddr, hv.eq.1, sizeOf, typeInfo, hi0, hsz', hvs, hst]
    · have hset := hs.setBlock' hq1 w' e1 e2 e3 e4
      rw [Nat.add_zero] at hset
      exact hset
/-- A part of a tuple. -/
theorem opq_extract {x : Operand} {i : Nat} {vs : List Value} {v : Value} (hw : Want all ⟨dst, .extract x i, ty, pos, af, g⟩ env) (hx : ev env x = some (.tuple vs.toArray)) (hv : vs[i]? = some v) : OpQ r P all ⟨dst, .extract x i, ty, pos, af, g⟩ n ds env lc v :=
  opq_pure hw (by simp) fun a w ha => by
    have h1 := ha.ev (x := x) (by simp [Op.operands]) hx
    simp [execOp, h1, Instr.extract, hv]
/-- A field of a struct value. -/
theorem opq_field {s _e : TypeId} {x : Operand} {i off : Nat} {vs : List Value} {v : Value} (hw : Want all ⟨dst, .field s x i, ty, pos, af, g⟩ env) (hx : ev env x = some (.agg vs.toArray)) [hf : FD P s i off] (hv : vs[off]? = some v) : OpQ r P all ⟨dst, .field s x i, ty, pos, af, g⟩ n ds env lc v :=
  opq_pure hw (by simp) fun a w ha => by
    have h1 := ha.ev (x := x) (by simp [Op.operands]) hx
    have h2 := hf.out vs v hv w
    simp [execOp, h1, h2]
/-- A struct of one-cell fields, all given. -/
def places1 : Nat → Nat → List (Nat × Nat)
  | _, 0 => []
  | i, k + 1 => (i, 1) :: places1 (i + 1) k
def ixs1 : Nat → Nat → List Nat
  | _, 0 => []
  | i, k + 1 => i :: ixs1 (i + 1) k
theorem places1_get : ∀ (k i j : Nat), j < k → (places1 i k)[j]? = some (i + j, 1)
  | 0, i, j, h => by omega
  | k + 1, i, 0, h => by simp [places1]
  | k + 1, i, j + 1, h => by
    simp only [places1, List.getElem?_cons_succ]
    rw [places1_get k (i + 1) j (by omega)]
    congr 2; omega
theorem bld_all {k : Nat} : ∀ (vs pre zs : List Value), plains vs = true → zs.length = vs.length → pre.length + vs.length = k → bld (places1 0 k) ((ixs1 pre.length vs.length).zip vs) (pre ++ zs) = some (pre ++ vs)
  | [], pre, zs, _, hz, _ => by
    have : zs = [] := List.eq_nil_of_length_eq_zero (by simpa using hz)
    subst this; simp [bld]
  | v :: vs, pre, zs, hp, hz, hk => by
    match zs, hz with
    | z :: zs, hz =>
      simp only [plains, Bool.and_eq_true] at hp
      simp only [List.length_cons] at hk hz
      have h1 := places1_get k 0 pre.length (by omega)
      simp only [List.length_cons, ixs1, List.zip_cons_cons, bld, h1, Nat.zero_add, plain_cells hp.1]
      rw [if_neg (by simp)]
      have h2 := bld_all (k := k) vs (pre ++ [v]) zs hp.2 (by omega) (by simp; omega)
      have h3 : setL (pre ++ z :: zs) pre.length [v] = pre ++ [v] ++ zs := by simp [setL]
      simp only [List.length_append, List.length_singleton] at h2
      rw [h3, h2]; simp
theorem opq_build1 {t : TypeId} {parts : Array (Nat × Operand)} {vs zs : List Value} {places : List (Nat × Nat)} (hw : Want all ⟨dst, .build t parts, ty, pos, af, g⟩ env) [hb : BL P t places zs] (hx : Evs env (parts.toList.map (·.2)) vs) (hp : parts.toList.map (·.1) = ixs1 0 zs.length) (hpl : places = places1 0 zs.length) (hvl : vs.length = zs.length) (hp1 : plains vs = true) :
    OpQ r P all ⟨dst, .build t parts, ty, pos, af, g⟩ n ds env lc (.agg vs.toArray) := by
  have hz : parts = ((parts.toList.map (·.1)).zip (parts.toList.map (·.2))).toArray := by
    apply Array.ext'
    have : ∀ l : List (Nat × Operand), l = (l.map (·.1)).zip (l.map (·.2)) := by
      intro l
      induction l with
      | nil => rfl
      | cons x l ih => simp only [List.map_cons, List.zip_cons_cons]; rw [← ih]
    simpa using this parts.toList
  refine opq_build hw hz (by simp) hx ?_
  subst hpl
  rw [hp, ← hvl]
  have := bld_all (k := vs.length) vs [] zs hp1 hvl.symm (by simp)
  simpa using this
/-- A struct none of whose parts is given. -/
theorem opq_build0 {t : TypeId} {zs : List Value} {places : List (Nat × Nat)} (hw : Want all ⟨dst, .build t #[], ty, pos, af, g⟩ env) [hb : BL P t places zs] : OpQ r P all ⟨dst, .build t #[], ty, pos, af, g⟩ n ds env lc (.agg zs.toArray) :=
  opq_build (ixs := []) (xs := []) hw rfl rfl .nil rfl
/-- Operations that turn nothing. -/
def stillOp (o : Oper) : Bool :=
  match o.op with
  | .move _ | .assign _ | .pick .. | .load .. | .nilCheck _ | .binOp .. | .unOp .. | .convert .. | .fieldAddr .. | .field .. | .indexAddr .. | .index .. | .build .. | .extract .. | .slice .. | .makeFunc .. | .lookup .. => true
  | .call { callee := .builtin .len, .. } | .call { callee := .builtin .min, .. } | .call { callee := .builtin .max, .. } => true
  | _ => false
def stillB (P : Program) (ops : Array Oper) (n : Nat) : Bool := drawB P ops n && Region.lexB .any ops && ops.all stillOp
end
section
variable {r : Option Nat} {P : Program} {base : World} {n : Nat} {ds : List Deferred} {Q : Exit → Act → World → Prop} {env : Env} {l : List HP} {ops : Array Oper}
theorem tc_still {id : Nat} (hB : stillB P ops n = true) (h : TQ r P n ds ops l ops.toList env (fun env' => TK base n ds (Q .normal) env' l)) : TC r P base n ds (.region id ops true) Q env l := by
  simp only [stillB, Bool.and_eq_true] at hB
  exact tc_quiet hB.1.1 hB.1.2 h
end
/-! ### Operations that leave the shared assertions alone, taken first, many at a time -/
def takesB (ops : Array Oper) : List Nat → Array Bool → Bool
  | [], _ => true
  | i :: is, listed => Region.free .any ops listed i && (Region.ready .any ops listed).contains i && takesB ops is (listed.setIfInBounds i true)
def setAll : List Nat → Array Bool → Array Bool
  | [], listed => listed
  | i :: is, listed => setAll is (listed.setIfInBounds i true)
section
variable {r : Option Nat} {P : Program} {base : World} {n : Nat} {ds : List Deferred} {Q : Exit → Act → World → Prop} {lc F : List HP} {ops : Array Oper}
theorem wa_takes0 (hB : drawB P ops n = true) {fuel : Nat} : ∀ (is : List Nat) (los : List Oper) (listed : Array Bool) (env : Env), is.map (ops[·]?) = los.map some → takesB ops is listed = true →
    TQ r P n ds ops lc los env (fun env' => WA r P base n ds ops Q lc fuel (setAll is listed) env' F) → WA r P base n ds ops Q lc (los.length + fuel) listed env F
  | [], [], listed, env, _, _, h => by simpa [setAll, TQ] using h
  | [], o :: los, _, _, he, _, _ => by cases he
  | i :: is, [], _, _, he, _, _ => by cases he
  | i :: is, o :: los, listed, env, he, hx, h => by
    simp only [List.map_cons, List.cons.injEq] at he
    simp only [takesB, Bool.and_eq_true] at hx
    obtain ⟨v, hq, h'⟩ := h
    rw [List.length_cons, show los.length + 1 + fuel = (los.length + fuel) + 1 by omega]
    exact wa_take he.1 hB hx.1.1 hx.1.2 rfl hq (wa_takes0 hB is los _ _ he.2 hx.2 h')
inductive OpsAt (ops : Array Oper) : List Nat → List Oper → Prop
  | nil : OpsAt ops [] []
  | cons {i : Nat} {o : Oper} {is : List Nat} {los : List Oper} (h : ops[i]? = some o) (t : OpsAt ops is los) : OpsAt ops (i :: is) (o :: los)
theorem OpsAt.map {is : List Nat} {los : List Oper} (h : OpsAt ops is los) : is.map (ops[·]?) = los.map some := by
  induction h with
  | nil => rfl
  | cons h _ ih => simp only [List.map_cons, h, ih]
theorem wa_takes (is : List Nat) (fuel : Nat) {fuel0 : Nat} {los : List Oper} {listed : Array Bool} {env : Env} (hB : drawB P ops n = true) (he : OpsAt ops is los) (hf : fuel0 = los.length + fuel) (hx : takesB ops is listed = true)
    (h : TQ r P n ds ops lc los env (fun env' => WA r P base n ds ops Q lc fuel (setAll is listed) env' F)) : WA r P base n ds ops Q lc fuel0 listed env F := by
  subst hf; exact wa_takes0 hB is los listed env he.map hx h
theorem tq_nil' {all : Array Oper} {env : Env} {K : Env → Prop} {l : List HP} (h : K env) : TQ r P n ds all l [] env K := h
/-- The one operation that may come up, one that leaves no value. -/
theorem wa_one0 {α : Type} (i : Nat) {fuel : Nat} {o : Oper} {listed : Array Bool} {env : Env} {val : α → Value} {post : α → List HP} (hi : ops[i]? = some o) (hr : Region.ready .any ops listed = [i]) (hd : o.dst = none)
    (hq : OpN r P ops o n ds env (lc ++ F) val (fun x => lc ++ post x)) (h : ∀ x, WA r P base n ds ops Q lc fuel (listed.setIfInBounds i true) env (post x)) : WA r P base n ds ops Q lc (fuel + 1) listed env F :=
  wa_one hi hr rfl hq (fun x => by rw [hd]; exact h x)
theorem wa_st1 {x : HP} {F F' : List HP} (i : Nat) {fuel : Nat} {o : Oper} {listed : Array Bool} {env : Env} (hi : ops[i]? = some o) (hr : Region.ready .any ops listed = [i]) (hd : o.dst = none)
    (hq : OpN r P ops o n ds env (x :: F) (fun _ : Unit => undef) (fun _ => x :: F')) (h : WA r P base n ds ops Q [x] fuel (listed.setIfInBounds i true) env F') : WA r P base n ds ops Q [x] (fuel + 1) listed env F :=
  wa_one0 (val := fun _ : Unit => undef) (post := fun _ => F') i hi hr hd hq (fun _ => h)
theorem wa_st2 {x y : HP} {F F' : List HP} (i : Nat) {fuel : Nat} {o : Oper} {listed : Array Bool} {env : Env} (hi : ops[i]? = some o) (hr : Region.ready .any ops listed = [i]) (hd : o.dst = none)
    (hq : OpN r P ops o n ds env (x :: y :: F) (fun _ : Unit => undef) (fun _ => x :: y :: F')) (h : WA r P base n ds ops Q [x, y] fuel (listed.setIfInBounds i true) env F') : WA r P base n ds ops Q [x, y] (fuel + 1) listed env F :=
  wa_one0 (val := fun _ : Unit => undef) (post := fun _ => F') i hi hr hd hq (fun _ => h)
theorem wa_done1 {x : HP} {F : List HP} {listed : Array Bool} {env : Env} {fuel : Nat} (hr : Region.ready .any ops listed = []) (h : TK base n ds (Q .normal) env (x :: F)) : WA r P base n ds ops Q [x] fuel listed env F := wa_done hr h
theorem wa_done2 {x y : HP} {F : List HP} {listed : Array Bool} {env : Env} {fuel : Nat} (hr : Region.ready .any ops listed = []) (h : TK base n ds (Q .normal) env (x :: y :: F)) : WA r P base n ds ops Q [x, y] fuel listed env F := wa_done hr h
theorem tq_callq {f : FuncId} {xs : List Operand} {ats : Array TypeId} {vs : List Value} {pre rest l : List HP} {v : Value} {dst : Option Tmp} {ty : TypeId} {pos : String} {af : Array Edge} {g : Option (Nat × Bool)} {d : Nat} {all : Array Oper} {ro : List Oper} {env : Env} {K : Env → Prop} [CF P f] (hs : SpecH P f vs.toArray pre (fun _ : Unit => v) (fun _ => pre))
    (hw : Want all ⟨dst, .call ⟨.value (.func f), xs.toArray, ats⟩, ty, pos, af, g⟩ env) (hxs : Evs env xs vs) (hp : Pick l pre rest) (hd : dst = some d)
    (h : TQ r P n ds all l ro ((d, v) :: env) K) : TQ r P n ds all l (⟨dst, .call ⟨.value (.func f), xs.toArray, ats⟩, ty, pos, af, g⟩ :: ro) env K := tq_cons (opq_call hw hxs hs hp) hd h
theorem opn_makeSlice' {t e : TypeId} {x x' : Operand} {kx kx' : IntKind} {i i' : Int} (k : Nat) {z : Value} {size bytes : Nat} {zs cs : List Value} {l : List HP} {dst : Option Tmp} {ty : TypeId} {pos : String} {af : Array Edge} {g : Option (Nat × Bool)} {all : Array Oper} {env : Env} (hw : Want all ⟨dst, .makeSlice t x x', ty, pos, af, g⟩ env) (hx : ev env x = some (.int kx i)) (hx' : ev env x' = some (.int kx' i')) (hi : i = k) (hi' : i' = k) (hkk : kx' = kx) [hu : UL P t (.slice e)] [hti : TI P e z size bytes] (hz : IsCells z zs) (hlz : zs.length = size) (hb : k * bytes ≤ 140737488355328) (hk : k ≤ 9223372036854775807) (hsz : Nat.ble 1 size = true) (hcs : (List.replicate k zs).flatten = cs) :
    OpN r P all ⟨dst, .makeSlice t x x', ty, pos, af, g⟩ n ds env l (fun b : Nat => .slice (some ⟨b, 0, none⟩) k k) (fun b => Vec e size (some ⟨b, 0, none⟩) k k cs :: l) := by
  subst hi; subst hi'; subst hkk; subst hcs
  exact opn_makeSlice hw hx hx' hz hlz hb hk (Nat.le_of_ble_eq_true hsz)
/-- Code that ends where 'E', 'L' say, for some state: what comes behind is shown once. -/
theorem tc_cut {ι : Type} {c : Code} {env : Env} {l : List HP} (E : ι → Env) (L : ι → List HP) (hc : ∀ K, (∀ i env l, Sub env (E i) → Ent l (L i) → TK base n ds K env l) → TC r P base n ds c (Th K Q) env l) (hk : ∀ i, TK base n ds (Q .normal) (E i) (L i)) : TC r P base n ds c Q env l := by
  have h1 := hc (Q .normal) (fun i env l s e => TK.sub s (TK.ent e (hk i)))
  have h2 : Th (Q .normal) Q = Q := by
    funext e
    cases e <;> rfl
  rw [h2] at h1; exact h1
theorem Ent.vecNil {E sz : Nat} {l l' : List HP} (h : Ent l l') : Ent l (Vec E sz none 0 0 [] :: l') := fun _ x => lst_vec_nil (h _ x)
theorem fill_congr {pl pl' : Nat → Option (Nat × Nat)} : ∀ (parts : List (Nat × Value)) (cs : Array Value), (∀ q ∈ parts, pl q.1 = pl' q.1) → Instr.fill pl cs parts = Instr.fill pl' cs parts
  | [], _, _ => rfl
  | (i, v) :: rest, cs, h => by
    have h0 : pl i = pl' i := h (i, v) (by simp)
    simp only [Instr.fill, h0]
    cases pl' i with
    | none => rfl
    | some os =>
      obtain ⟨off, size⟩ := os
      simp only []
      split
      · rfl
      · exact fill_congr rest _ (fun q hq => h q (by simp [hq]))
theorem ixs1_lt : ∀ (k i j : Nat), j ∈ ixs1 i k → i ≤ j ∧ j < i + k
  | 0, i, j, h => by simp [ixs1] at h
  | k + 1, i, j, h => by
    simp only [ixs1, List.mem_cons] at h
    rcases h with rfl | h
    · omega
    · have := ixs1_lt k (i + 1) j h; omega
theorem ixs1_length : ∀ (i k : Nat), (ixs1 i k).length = k
  | _, 0 => rfl
  | i, k + 1 => by simp [ixs1, ixs1_length (i + 1) k]
/-- A slice written out, of elements of one cell. -/
theorem opn_buildSlice1 {t e : TypeId} {k : Nat} {z : Value} {bytes : Nat} {parts : Array (Nat × Operand)} {vs : List Value} {l : List HP} {dst : Option Tmp} {ty : TypeId} {pos : String} {af : Array Edge} {g : Option (Nat × Bool)} {all : Array Oper} {env : Env} (hw : Want all ⟨dst, .buildSlice t k parts, ty, pos, af, g⟩ env) (hx : Evs env (parts.toList.map (·.2)) vs) (hp : parts.toList.map (·.1) = ixs1 0 k) (hvl : vs.length = k) (hp1 : plains vs = true) (hk : Nat.ble k 16777216 = true) [hu : UL P t (.slice e)] [hi : TI P e z 1 bytes] :
    OpN r P all ⟨dst, .buildSlice t k parts, ty, pos, af, g⟩ n ds env l (fun b : Nat => .slice (some ⟨b, 0, none⟩) k k) (fun b => Vec e 1 (some ⟨b, 0, none⟩) k k vs :: l) := by
  have hz : parts = ((parts.toList.map (·.1)).zip (parts.toList.map (·.2))).toArray := by
    apply Array.ext'
    have : ∀ l : List (Nat × Operand), l = (l.map (·.1)).zip (l.map (·.2)) := by
      intro l
      induction l with
      | nil => rfl
      | cons x l ih => simp only [List.map_cons, List.zip_cons_cons]; rw [← ih]
    simpa using this parts.toList
  refine opn_buildSlice (cs := vs) hw hz (by simp) hx (fun w => ?_) (by omega)
  obtain ⟨i0, hi0, hz0, hs0, _⟩ := info_parts hi.out
  rw [hp]
  have hk' := Nat.le_of_ble_eq_true hk
  have hsz : (sizeOf e).run P w = .ok 1 w := by simp [sizeOf, typeInfo, hi0, hs0]
  have hfill : ∀ cs : Array Value, cs.size = k → Instr.fill (fun i => some (i * 1, 1)) cs ((ixs1 0 k).zip vs) = some vs.toArray := by
    intro cs hcs
    rw [fill_congr (pl' := fun i => (places1 0 k)[i]?)]
    · have h1 := bld_all (k := k) vs [] cs.toList hp1 (by simp [hcs, hvl]) (by simp [hvl])
      simp only [List.length_nil, List.nil_append, hvl] at h1
      have := fill_bld (places := places1 0 k) _ _ _ h1
      simpa using this
    · intro q hq
      have h1 : q.1 ∈ ixs1 0 k := (List.of_mem_zip hq).1
      have h2 := (ixs1_lt k 0 q.1 h1).2
      rw [places1_get k 0 q.1 (by omega)]
      simp
  unfold Instr.buildSlice
  rw [Sem.run_bind, run_underlying hu.out]
  simp only [Result.andThen]
  rw [Sem.run_bind, hsz]
  simp only [Result.andThen, Nat.mul_one]
  rw [if_neg (by omega)]
  have hnew : ∀ o : Obj, (newObj o).run P w = .ok w.heap.size (w.alloc o) := fun _ => rfl
  by_cases hk0 : k = 0
  · subst hk0
    have hv : vs = [] := List.eq_nil_of_length_eq_zero hvl
    subst hv
    have h0 : ∀ f : Nat → Value, Array.map f (Array.range 0) = #[] := fun f => by apply Array.ext'; simp
    simp [Instr.fill, newRow, ixs1]
    exact congrArg (fun c => w.alloc (.cells c e)) (h0 _)
  · simp only [hk0, if_false]
    have hz1 : (zeroValue e).run P w = .ok z w := by simp [zeroValue, typeInfo, hi0, hz0]
    have hf := hfill ((Array.range k).map (z.cells[· % z.cells.size]!)) (by simp)
    simp only [Nat.mul_one] at hf
    simp [hz1, hf, newRow]
end
end Go.Sl
