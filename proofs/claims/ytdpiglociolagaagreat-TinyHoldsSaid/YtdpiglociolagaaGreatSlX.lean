/- Steps on truth values. For whatever program. -/
import Derived.Test.YtdpiglociolagaaGreatSlMapS
import Derived.Test.YtdpiglociolagaaGreatSlD
import Derived.Test.YtdpiglociolagaaGreatSlHv
namespace Go.Sl
section
variable {r : Option Nat} {P : Program} {n : Nat} {ds : List Deferred} {env : Env} {lc : List HP} {dst : Option Tmp} {ty : TypeId} {pos : String} {af : Array Edge} {g : Option (Nat × Bool)} {all : Array Oper} {t : TypeId} {x y : Operand} {yt : TypeId} {a b : Bool}
theorem opq_eqb1 (hw : Want all ⟨dst, .binOp .eql t x y yt, ty, pos, af, g⟩ env) (hx : ev env x = some (.bool a)) (hy : ev env y = some (.bool b)) (hu : UL P t .bool) (h : a = b) :
    OpQ r P all ⟨dst, .binOp .eql t x y yt, ty, pos, af, g⟩ n ds env lc (.bool true) := by
  have := opq_eqb (_op := .eql) (r := r) (P := P) (n := n) (ds := ds) (lc := lc) hw hx hy
  rw [show (a == b) = true by simpa using h] at this; exact this
theorem opq_eqb0 (hw : Want all ⟨dst, .binOp .eql t x y yt, ty, pos, af, g⟩ env) (hx : ev env x = some (.bool a)) (hy : ev env y = some (.bool b)) (hu : UL P t .bool) (h : ¬ a = b) :
    OpQ r P all ⟨dst, .binOp .eql t x y yt, ty, pos, af, g⟩ n ds env lc (.bool false) := by
  have := opq_eqb (_op := .eql) (r := r) (P := P) (n := n) (ds := ds) (lc := lc) hw hx hy
  rw [show (a == b) = false by simpa using h] at this; exact this
theorem opq_eqbD (hw : Want all ⟨dst, .binOp .eql t x y yt, ty, pos, af, g⟩ env) (hx : ev env x = some (.bool a)) (hy : ev env y = some (.bool b)) (hu : UL P t .bool) :
    OpQ r P all ⟨dst, .binOp .eql t x y yt, ty, pos, af, g⟩ n ds env lc (.bool (decide (a = b))) := by
  by_cases h : a = b
  · rw [decide_eq_true h]; exact opq_eqb1 hw hx hy hu h
  · rw [decide_eq_false h]; exact opq_eqb0 hw hx hy hu h
theorem opq_neb0 (hw : Want all ⟨dst, .binOp .neq t x y yt, ty, pos, af, g⟩ env) (hx : ev env x = some (.bool a)) (hy : ev env y = some (.bool b)) (hu : UL P t .bool) (h : a = b) :
    OpQ r P all ⟨dst, .binOp .neq t x y yt, ty, pos, af, g⟩ n ds env lc (.bool false) := by
  have := opq_neb (_op := .neq) (r := r) (P := P) (n := n) (ds := ds) (lc := lc) hw hx hy
  rw [show (a != b) = false by simpa using h] at this; exact this
theorem opq_neb1 (hw : Want all ⟨dst, .binOp .neq t x y yt, ty, pos, af, g⟩ env) (hx : ev env x = some (.bool a)) (hy : ev env y = some (.bool b)) (hu : UL P t .bool) (h : ¬ a = b) :
    OpQ r P all ⟨dst, .binOp .neq t x y yt, ty, pos, af, g⟩ n ds env lc (.bool true) := by
  have := opq_neb (_op := .neq) (r := r) (P := P) (n := n) (ds := ds) (lc := lc) hw hx hy
  rw [show (a != b) = true by simpa using h] at this; exact this
theorem opq_nebD (hw : Want all ⟨dst, .binOp .neq t x y yt, ty, pos, af, g⟩ env) (hx : ev env x = some (.bool a)) (hy : ev env y = some (.bool b)) (hu : UL P t .bool) :
    OpQ r P all ⟨dst, .binOp .neq t x y yt, ty, pos, af, g⟩ n ds env lc (.bool (decide (¬ a = b))) := by
  by_cases h : a = b
  · rw [decide_eq_false (fun k => k h)]; exact opq_neb0 hw hx hy hu h
  · rw [decide_eq_true h]; exact opq_neb1 hw hx hy hu h
theorem opq_max {t0 t1 : TypeId} {k : IntKind} {i j : Int} (hw : Want all ⟨dst, .call ⟨.builtin .max, #[x, y], #[t0, t1]⟩, ty, pos, af, g⟩ env) (hx : ev env x = some (.int k i)) (hy : ev env y = some (.int k j)) : OpQ r P all ⟨dst, .call ⟨.builtin .max, #[x, y], #[t0, t1]⟩, ty, pos, af, g⟩ n ds env lc (.int k (max i j)) :=
  opq_pure hw (by simp) fun ac w ha => by
    have h1 := ha.ev (x := x) (by simp [Op.operands, Call.operands]) hx
    have h2 := ha.ev (x := y) (by simp [Op.operands, Call.operands]) hy
    refine execOp_builtin fun C => ?_
    simp [builtin, h1, h2, Builtin.max_, Builtin.max2]
    split <;> omega
theorem opq_min {t0 t1 : TypeId} {k : IntKind} {i j : Int} (hw : Want all ⟨dst, .call ⟨.builtin .min, #[x, y], #[t0, t1]⟩, ty, pos, af, g⟩ env) (hx : ev env x = some (.int k i)) (hy : ev env y = some (.int k j)) : OpQ r P all ⟨dst, .call ⟨.builtin .min, #[x, y], #[t0, t1]⟩, ty, pos, af, g⟩ n ds env lc (.int k (min i j)) :=
  opq_pure hw (by simp) fun ac w ha => by
    have h1 := ha.ev (x := x) (by simp [Op.operands, Call.operands]) hx
    have h2 := ha.ev (x := y) (by simp [Op.operands, Call.operands]) hy
    refine execOp_builtin fun C => ?_
    simp [builtin, h1, h2, Builtin.min_, Builtin.min2]
    split <;> omega
def NW (all : Array Oper) (o : Oper) (env : Env) : Prop := ∀ (n : Nat) (ds : List Deferred) (a : Act), AO all o n ds env a → Region.wanted o (yielded all a.tmps) = false
theorem nw_looks {o oj : Oper} {j dj : Nat} {u : Bool} (hg : o.guard = some (j, u)) (hj : all[j]? = some oj) (hdj : oj.dst = some dj) : dj ∈ o.looksAt all := by
  unfold Oper.looksAt
  rw [hg]
  exact List.mem_append_right _ (by simp [hj, hdj])
theorem nw_b {o oj : Oper} {j dj : Nat} {u t : Bool} (hg : o.guard = some (j, u)) (hj : all[j]? = some oj) (hdj : oj.dst = some dj) (hv : look env dj = some (.bool t)) (hu : (t == u) = false) : NW all o env := fun _ _ _ ha =>
  wanted_of hg hj hdj (ha.val _ (nw_looks hg hj hdj) _ hv) ▸ hu
theorem nw_u {o oj : Oper} {j dj : Nat} {u : Bool} (hg : o.guard = some (j, u)) (hj : all[j]? = some oj) (hdj : oj.dst = some dj) (hv : look env dj = some undef) : NW all o env := fun _ _ _ ha =>
  wanted_undef hg hj hdj (ha.val _ (nw_looks hg hj hdj) _ hv)
theorem opn_skip {o : Oper} {l : List HP} (h : NW all o env) (hdf : notDefer o.op = true) : OpN r P all o n ds env l (fun _ : Unit => undef) (fun _ => l) := fun base a w ha hs => by
  refine ⟨fun c e => ?_, ?_⟩
  · rw [e] at hdf; cases hdf
  · rw [if_neg (by simp [h _ _ _ ha])]
    exact ⟨(), rfl, hs⟩
theorem tq_skipU {j dj d : Nat} {u : Bool} {o oj : Oper} {ro : List Oper} {K : Env → Prop} (hg : o.guard = some (j, u)) (hj : all[j]? = some oj) (hdj : oj.dst = some dj) (hv : look env dj = some undef) (hdf : notDefer o.op = true) (hd : o.dst = some d)
    (h : TQ r P n ds all lc ro ((d, undef) :: env) K) : TQ r P n ds all lc (o :: ro) env K := by
  refine tq_cons (v := undef) (fun base F a w ha hs => ?_) hd h
  have hw := nw_u hg hj hdj hv _ _ _ ha
  refine ⟨fun c e => ?_, ?_⟩
  · rw [e] at hdf; cases hdf
  · rw [if_neg (by simp [hw])]
    exact ⟨rfl, hs⟩
theorem hvs {base : World} {Q : Exit → Act → World → Prop} {ops : Array Oper} {F : List HP} {listed : Array Bool} {fuel : Nat} {o : Oper} {d : Nat} (i : Nat) (h : WA r P base n ds ops Q lc fuel (listed.setIfInBounds i true) ((d, undef) :: env) F) (hi : ops[i]? = some o := by rfl) (hd : o.dst = some d := by rfl) (hr : Region.ready .any ops listed = [i] := by decide +kernel)
    (hw : NW ops o env := by first | exact nw_b rfl rfl rfl rfl rfl | exact nw_u rfl rfl rfl rfl | fail) (hdf : notDefer o.op = true := by rfl) : WA r P base n ds ops Q lc (fuel + 1) listed env F :=
  hv (α := Unit) (val := fun _ => undef) (post := fun _ => lc ++ F) (F' := fun _ => F) i (fun _ => h) hi hd hr (opn_skip hw hdf) (fun _ => pick_app)
theorem wa_grow {base : World} {Q : Exit → Act → World → Prop} {ops : Array Oper} {F : List HP} : ∀ (fuel : Nat) (listed : Array Bool) (env : Env) (G : List HP), WA r P base n ds ops Q (lc ++ F) fuel listed env G → WA r P base n ds ops Q lc fuel listed env (F ++ G)
  | 0, listed, env, G, h => by
    unfold WA at *
    rw [← List.append_assoc]; exact h
  | fuel + 1, listed, env, G, h => by
    unfold WA at *
    rw [← List.append_assoc]
    refine ⟨h.1, fun i hi o ho a w ha hs => ?_⟩
    rw [← List.append_assoc] at hs
    refine (h.2 i hi o ho a w ha hs).mono r P fun u w' ⟨F', h1, h2⟩ => ⟨F ++ F', by rw [← List.append_assoc]; exact h1, wa_grow fuel _ _ _ h2⟩
theorem grow {base : World} {Q : Exit → Act → World → Prop} {ops : Array Oper} {F : List HP} {listed : Array Bool} {fuel : Nat} {R : Prop} (h : R) (hR : R → WA r P base n ds ops Q (lc ++ F) fuel listed env [] := by (try dsimp only [List.cons_append, List.nil_append]); first | exact fun h => h | exact id) : WA r P base n ds ops Q lc fuel listed env F := by
  have := wa_grow _ _ _ [] (hR h)
  rwa [List.append_nil] at this
theorem stB {g q : Prop} (h : q → g := by
  first | (show _ → TL _ _ _ _ _ _ _ _ _ _) | (show _ → TQ _ _ _ _ _ _ _ _ _) | fail
  first
  | (apply tl_q; (focus (first | (apply opq_max; (focus ((first | exact want_none rfl | exact want_yes rfl rfl rfl rfl rfl | fail))); exact rfl; exact rfl) | (apply opq_min; (focus ((first | exact want_none rfl | exact want_yes rfl rfl rfl rfl rfl | fail))); exact rfl; exact rfl) | (apply opq_eqb1; (focus ((first | exact want_none rfl | exact want_yes rfl rfl rfl rfl rfl | fail))); exact rfl; exact rfl; (focus (infer_instance)); (focus ((first | assumption | exact rfl | fail)))) | (apply opq_eqb0; (focus ((first | exact want_none rfl | exact want_yes rfl rfl rfl rfl rfl | fail))); exact rfl; exact rfl; (focus (infer_instance)); (focus ((first | assumption | decide | fail)))) | (apply opq_eqbD; (focus ((first | exact want_none rfl | exact want_yes rfl rfl rfl rfl rfl | fail))); exact rfl; exact rfl; (focus (infer_instance))) | (apply opq_neb0; (focus ((first | exact want_none rfl | exact want_yes rfl rfl rfl rfl rfl | fail))); exact rfl; exact rfl; (focus (infer_instance)); (focus ((first | assumption | exact rfl | fail)))) | (apply opq_neb1; (focus ((first | exact want_none rfl | exact want_yes rfl rfl rfl rfl rfl | fail))); exact rfl; exact rfl; (focus (infer_instance)); (focus ((first | assumption | decide | fail)))) | (apply opq_nebD; (focus ((first | exact want_none rfl | exact want_yes rfl rfl rfl rfl rfl | fail))); exact rfl; exact rfl; (focus (infer_instance))) | fail)); exact rfl; exact Nat.lt_of_ble_eq rfl)
  | (apply tq_cons; (focus (first | (apply opq_max; (focus ((first | exact want_none rfl | exact want_yes rfl rfl rfl rfl rfl | fail))); exact rfl; exact rfl) | (apply opq_min; (focus ((first | exact want_none rfl | exact want_yes rfl rfl rfl rfl rfl | fail))); exact rfl; exact rfl) | (apply opq_eqb1; (focus ((first | exact want_none rfl | exact want_yes rfl rfl rfl rfl rfl | fail))); exact rfl; exact rfl; (focus (infer_instance)); (focus ((first | assumption | exact rfl | fail)))) | (apply opq_eqb0; (focus ((first | exact want_none rfl | exact want_yes rfl rfl rfl rfl rfl | fail))); exact rfl; exact rfl; (focus (infer_instance)); (focus ((first | assumption | decide | fail)))) | (apply opq_eqbD; (focus ((first | exact want_none rfl | exact want_yes rfl rfl rfl rfl rfl | fail))); exact rfl; exact rfl; (focus (infer_instance))) | (apply opq_neb0; (focus ((first | exact want_none rfl | exact want_yes rfl rfl rfl rfl rfl | fail))); exact rfl; exact rfl; (focus (infer_instance)); (focus ((first | assumption | exact rfl | fail)))) | (apply opq_neb1; (focus ((first | exact want_none rfl | exact want_yes rfl rfl rfl rfl rfl | fail))); exact rfl; exact rfl; (focus (infer_instance)); (focus ((first | assumption | decide | fail)))) | (apply opq_nebD; (focus ((first | exact want_none rfl | exact want_yes rfl rfl rfl rfl rfl | fail))); exact rfl; exact rfl; (focus (infer_instance))) | fail)); exact rfl)
  | exact tq_skipU rfl rfl rfl rfl rfl rfl
  | exact tl_skipU rfl rfl rfl rfl rfl (Nat.lt_of_ble_eq rfl)
  | fail) : q → g := h
theorem stx {g q : Prop} (x : q) (h : q → g := by first | exact stL | exact stC | exact stK | exact stQ | exact stML | exact stB | fail) : g := h x
end
end Go.Sl
