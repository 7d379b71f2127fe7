/- More rules of the walk: arithmetic, tests, stores into slices, new memory, append. For whatever program. -/
import Derived.Test.YtgmccdicncocdaaSlOps
namespace Go.Sl
section
variable {r : Option Nat} {P : Program} {n : Nat} {ds : List Deferred} {env : Env} {lc l l' : List HP} {all : Array Oper}
variable {z : Value} {bytes : Nat} {dst : Option Tmp} {ty : TypeId} {pos : String} {af : Array Edge} {g : Option (Nat × Bool)}

/-! ### Numbers and tests -/
theorem opq_bin {op : BinOp} {t : TypeId} {x y : Operand} {yt : TypeId} {v u res : Value} (hw : Want all ⟨dst, .binOp op t x y yt, ty, pos, af, g⟩ env) (hx : ev env x = some v) (hy : ev env y = some u)
    (hg : ∀ w, (eqGuard op t x y v u).run P w = .ok () w) (hr : ∀ w, (binOp op t v u).run P w = .ok res w) : OpQ r P all ⟨dst, .binOp op t x y yt, ty, pos, af, g⟩ n ds env lc res :=
  opq_pure hw (by simp) fun a w ha => by
    have h1 := ha.ev (x := x) (by simp [Op.operands]) hx
    have h2 := ha.ev (x := y) (by simp [Op.operands]) hy
    simp [execOp, h1, h2, hg w, hr w]
theorem eqGuard_int (op : BinOp) (t : TypeId) (x y : Operand) (k k' : IntKind) (a b : Int) (w : World) : (eqGuard op t x y (.int k a) (.int k' b)).run P w = .ok () w := by cases op <;> simp [eqGuard]
theorem opq_add {t : TypeId} {x y : Operand} {yt : TypeId} {k : IntKind} {a b : Int} (hw : Want all ⟨dst, .binOp .add t x y yt, ty, pos, af, g⟩ env) (hx : ev env x = some (.int k a)) (hy : ev env y = some (.int k b)) : OpQ r P all ⟨dst, .binOp .add t x y yt, ty, pos, af, g⟩ n ds env lc (.int k (k.wrap (a + b))) :=
  opq_bin hw hx hy (eqGuard_int _ _ _ _ _ _ _ _) fun w => by simp [binOp, Op.intArith]
theorem opq_sub {t : TypeId} {x y : Operand} {yt : TypeId} {k : IntKind} {a b : Int} (hw : Want all ⟨dst, .binOp .sub t x y yt, ty, pos, af, g⟩ env) (hx : ev env x = some (.int k a)) (hy : ev env y = some (.int k b)) : OpQ r P all ⟨dst, .binOp .sub t x y yt, ty, pos, af, g⟩ n ds env lc (.int k (k.wrap (a - b))) :=
  opq_bin hw hx hy (eqGuard_int _ _ _ _ _ _ _ _) fun w => by simp [binOp, Op.intArith]
theorem opq_mul {t : TypeId} {x y : Operand} {yt : TypeId} {k : IntKind} {a b : Int} (hw : Want all ⟨dst, .binOp .mul t x y yt, ty, pos, af, g⟩ env) (hx : ev env x = some (.int k a)) (hy : ev env y = some (.int k b)) : OpQ r P all ⟨dst, .binOp .mul t x y yt, ty, pos, af, g⟩ n ds env lc (.int k (k.wrap (a * b))) :=
  opq_bin hw hx hy (eqGuard_int _ _ _ _ _ _ _ _) fun w => by simp [binOp, Op.intArith]
theorem opq_rem {t : TypeId} {x y : Operand} {yt : TypeId} {k : IntKind} {a b : Int} (hw : Want all ⟨dst, .binOp .rem t x y yt, ty, pos, af, g⟩ env) (hx : ev env x = some (.int k a)) (hy : ev env y = some (.int k b)) (h0 : 0 ≤ a) (hb : 0 < b) : OpQ r P all ⟨dst, .binOp .rem t x y yt, ty, pos, af, g⟩ n ds env lc (.int k (a % b)) :=
  opq_bin hw hx hy (eqGuard_int _ _ _ _ _ _ _ _) fun w => by
    have h1 : b ≠ 0 := by omega
    simp [binOp, Op.intDiv, h1, Int.tmod_eq_emod_of_nonneg h0]
theorem opq_quo {t : TypeId} {x y : Operand} {yt : TypeId} {k : IntKind} {a b : Int} (hw : Want all ⟨dst, .binOp .quo t x y yt, ty, pos, af, g⟩ env) (hx : ev env x = some (.int k a)) (hy : ev env y = some (.int k b)) (h0 : 0 ≤ a) (hb : 0 < b) : OpQ r P all ⟨dst, .binOp .quo t x y yt, ty, pos, af, g⟩ n ds env lc (.int k (k.wrap (a / b))) :=
  opq_bin hw hx hy (eqGuard_int _ _ _ _ _ _ _ _) fun w => by
    have h1 : b ≠ 0 := by omega
    simp [binOp, Op.intDiv, h1, Int.tdiv_eq_ediv_of_nonneg h0]
/-- The comparisons of two integers. -/
def cmpI (op : BinOp) (a b : Int) : Bool :=
  match op with
  | .eql => a == b
  | .neq => a != b
  | .lss => decide (a < b)
  | .leq => decide (a ≤ b)
  | .gtr => decide (b < a)
  | .geq => decide (b ≤ a)
  | _ => false
def isCmp : BinOp → Bool
  | .eql | .neq | .lss | .leq | .gtr | .geq => true
  | _ => false
theorem opq_cmp {op : BinOp} {t : TypeId} {x y : Operand} {yt : TypeId} {k : IntKind} {a b : Int} (hw : Want all ⟨dst, .binOp op t x y yt, ty, pos, af, g⟩ env) (hop : isCmp op = true) (hx : ev env x = some (.int k a)) (hy : ev env y = some (.int k b)) :
    OpQ r P all ⟨dst, .binOp op t x y yt, ty, pos, af, g⟩ n ds env lc (.bool (cmpI op a b)) :=
  opq_bin hw hx hy (eqGuard_int _ _ _ _ _ _ _ _) fun w => by cases op <;> simp_all [binOp, Op.intCmp, cmpI, isCmp]
/-- A test whose outcome is known. -/
theorem opq_cmp_is {op : BinOp} {t : TypeId} {x y : Operand} {yt : TypeId} {k : IntKind} {a b : Int} {q : Bool} (hw : Want all ⟨dst, .binOp op t x y yt, ty, pos, af, g⟩ env) (hop : isCmp op = true) (hx : ev env x = some (.int k a)) (hy : ev env y = some (.int k b)) (hq : cmpI op a b = q) :
    OpQ r P all ⟨dst, .binOp op t x y yt, ty, pos, af, g⟩ n ds env lc (.bool q) := hq ▸ opq_cmp hw hop hx hy
/-- '==' on two values, the depth aside. -/
theorem run_equal {t : TypeId} {x y : Value} {b : Bool} (h : ∀ d w, (Op.equalIn (d + 1) t x y).run P w = .ok b w) (w : World) : (Op.equal t x y).run P w = .ok b w := h 9999 w
theorem run_eql {t : TypeId} {x y : Value} {b : Bool} (hb : ∀ w, (binOp .eql t x y).run P w = (do pure (.bool (← Op.equal t x y)) : Sem Value).run P w) (h : ∀ d w, (Op.equalIn (d + 1) t x y).run P w = .ok b w) (w : World) : (binOp .eql t x y).run P w = .ok (.bool b) w := by
  rw [hb]; simp [run_equal h]
theorem run_neq {t : TypeId} {x y : Value} {b : Bool} (hb : ∀ w, (binOp .neq t x y).run P w = (do pure (.bool (!(← Op.equal t x y))) : Sem Value).run P w) (h : ∀ d w, (Op.equalIn (d + 1) t x y).run P w = .ok b w) (w : World) : (binOp .neq t x y).run P w = .ok (.bool (!b)) w := by
  rw [hb]; simp [run_equal h]
theorem opq_eq_nil {t : TypeId} {x y : Operand} {yt e : TypeId} {ad : Addr} (hw : Want all ⟨dst, .binOp .eql t x y yt, ty, pos, af, g⟩ env) (hx : ev env x = some (.pointer (some ad))) (hy : ev env y = some (.pointer none)) [hu : UL P t (.pointer e)] :
    OpQ r P all ⟨dst, .binOp .eql t x y yt, ty, pos, af, g⟩ n ds env lc (.bool false) :=
  opq_bin hw hx hy (fun w => by simp [eqGuard]) (run_eql (fun w => rfl) fun d w => by simp [Op.equalIn, run_underlying hu.out])
theorem opq_eq_nil' {t : TypeId} {x y : Operand} {yt e : TypeId} (hw : Want all ⟨dst, .binOp .eql t x y yt, ty, pos, af, g⟩ env) (hx : ev env x = some (.pointer none)) (hy : ev env y = some (.pointer none)) [hu : UL P t (.pointer e)] :
    OpQ r P all ⟨dst, .binOp .eql t x y yt, ty, pos, af, g⟩ n ds env lc (.bool true) :=
  opq_bin hw hx hy (fun w => by simp [eqGuard]) (run_eql (fun w => rfl) fun d w => by simp [Op.equalIn, run_underlying hu.out])
theorem opq_ne_nil {t : TypeId} {x y : Operand} {yt e : TypeId} {ad : Addr} (hw : Want all ⟨dst, .binOp .neq t x y yt, ty, pos, af, g⟩ env) (hx : ev env x = some (.pointer (some ad))) (hy : ev env y = some (.pointer none)) [hu : UL P t (.pointer e)] :
    OpQ r P all ⟨dst, .binOp .neq t x y yt, ty, pos, af, g⟩ n ds env lc (.bool true) :=
  opq_bin hw hx hy (fun w => by simp [eqGuard]) (run_neq (b := false) (fun w => rfl) fun d w => by simp [Op.equalIn, run_underlying hu.out])
theorem opq_ne_nil' {t : TypeId} {x y : Operand} {yt e : TypeId} (hw : Want all ⟨dst, .binOp .neq t x y yt, ty, pos, af, g⟩ env) (hx : ev env x = some (.pointer none)) (hy : ev env y = some (.pointer none)) [hu : UL P t (.pointer e)] :
    OpQ r P all ⟨dst, .binOp .neq t x y yt, ty, pos, af, g⟩ n ds env lc (.bool false) :=
  opq_bin hw hx hy (fun w => by simp [eqGuard]) (run_neq (b := true) (fun w => rfl) fun d w => by simp [Op.equalIn, run_underlying hu.out])
theorem opq_eq_nils {t : TypeId} {x y : Operand} {yt e : TypeId} {a : Option Addr} {k c : Nat} (hw : Want all ⟨dst, .binOp .eql t x y yt, ty, pos, af, g⟩ env) (hx : ev env x = some (.slice a k c)) (hy : ev env y = some (.slice none 0 0)) [hu : UL P t (.slice e)] :
    OpQ r P all ⟨dst, .binOp .eql t x y yt, ty, pos, af, g⟩ n ds env lc (.bool a.isNone) :=
  opq_bin hw hx hy (fun w => by simp [eqGuard]) (run_eql (fun w => rfl) fun d w => by cases a <;> simp [Op.equalIn, run_underlying hu.out])
theorem opq_eq_nilf {t : TypeId} {x y : Operand} {yt : TypeId} {p1 p2 : Array TypeId} {vd : Bool} {f : Fn} {c1 c2 : Array Value} (hw : Want all ⟨dst, .binOp .eql t x y yt, ty, pos, af, g⟩ env) (hx : ev env x = some (.func f c1 c2)) (hy : ev env y = some .nilFunc) [hu : UL P t (.func p1 p2 vd)] :
    OpQ r P all ⟨dst, .binOp .eql t x y yt, ty, pos, af, g⟩ n ds env lc (.bool false) :=
  opq_bin hw hx hy (fun w => by simp [eqGuard]) (run_eql (fun w => rfl) fun d w => by simp [Op.equalIn, run_underlying hu.out])
theorem opq_eqb {_op : BinOp} {t : TypeId} {x y : Operand} {yt : TypeId} {a b : Bool} (hw : Want all ⟨dst, .binOp .eql t x y yt, ty, pos, af, g⟩ env) (hx : ev env x = some (.bool a)) (hy : ev env y = some (.bool b)) [hu : UL P t .bool] :
    OpQ r P all ⟨dst, .binOp .eql t x y yt, ty, pos, af, g⟩ n ds env lc (.bool (a == b)) :=
  opq_bin hw hx hy (fun w => by simp [eqGuard]) (run_eql (fun w => rfl) fun d w => by simp [Op.equalIn, run_underlying hu.out])
theorem opq_neb {_op : BinOp} {t : TypeId} {x y : Operand} {yt : TypeId} {a b : Bool} (hw : Want all ⟨dst, .binOp .neq t x y yt, ty, pos, af, g⟩ env) (hx : ev env x = some (.bool a)) (hy : ev env y = some (.bool b)) [hu : UL P t .bool] :
    OpQ r P all ⟨dst, .binOp .neq t x y yt, ty, pos, af, g⟩ n ds env lc (.bool (a != b)) :=
  opq_bin hw hx hy (fun w => by simp [eqGuard]) (run_neq (b := (a == b)) (fun w => rfl) fun d w => by simp [Op.equalIn, run_underlying hu.out])
theorem opq_not {t : TypeId} {x : Operand} {b : Bool} (hw : Want all ⟨dst, .unOp .not t x, ty, pos, af, g⟩ env) (hx : ev env x = some (.bool b)) : OpQ r P all ⟨dst, .unOp .not t x, ty, pos, af, g⟩ n ds env lc (.bool (!b)) :=
  opq_pure hw (by simp) fun a w ha => by
    have h1 := ha.ev (x := x) (by simp [Op.operands]) hx
    simp [execOp, h1, Op.unary]
theorem opq_neg {t : TypeId} {x : Operand} {k : IntKind} {i : Int} (hw : Want all ⟨dst, .unOp .neg t x, ty, pos, af, g⟩ env) (hx : ev env x = some (.int k i)) : OpQ r P all ⟨dst, .unOp .neg t x, ty, pos, af, g⟩ n ds env lc (.int k (k.wrap (0 - i))) :=
  opq_pure hw (by simp) fun a w ha => by
    have h1 := ha.ev (x := x) (by simp [Op.operands]) hx
    simp [execOp, h1, Op.unary, Op.intArith]
theorem opq_conv {s t : TypeId} {x : Operand} {k k' : IntKind} {i : Int} {d : TypeDesc} (hw : Want all ⟨dst, .convert s t x, ty, pos, af, g⟩ env) (hx : ev env x = some (.int k' i)) [hs : UL P s d] [hu : UL P t (.int k)] : OpQ r P all ⟨dst, .convert s t x, ty, pos, af, g⟩ n ds env lc (.int k (k.wrap i)) :=
  opq_pure hw (by simp) fun a w ha => by
    have h1 := ha.ev (x := x) (by simp [Op.operands]) hx
    simp [execOp, h1, convert, run_underlying hu.out, run_underlying hs.out, Conv.intToInt]
/-- An operation's value spelled otherwise. -/
theorem opq_as {o : Oper} {v u : Value} (h : OpQ r P all o n ds env lc v) (e : v = u) : OpQ r P all o n ds env lc u := e ▸ h
end
end Go.Sl
