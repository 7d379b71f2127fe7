/- What is said of a function, and how it is used and shown. For whatever program. -/
import Derived.Test.YtgmccdicncocdaaSlOps4
namespace Go.Sl

/-- Called with 'args' where the assertions 'pre' hold the function returns 'val x' and leaves 'post x', for some x; whatever stands beside is as it was; the streams are as they were. -/
def SpecH {α : Type} (P : Program) (f : FuncId) (args : Array Value) (pre : List HP) (val : α → Value) (post : α → List HP) : Prop :=
  ∀ (base : World) (F : HP) (w : World), St base (pre ++ [F]) w → CallsIn (Fc none) 0 P f args w fun e w' => ∃ x, e = .returned (val x) ∧ St base (post x ++ [F]) w'

class CF (P : Program) (f : FuncId) : Prop where
  out : ∀ (args : Array Value) (w : World), (callFunc f args).run P w = .ok (.enter f args) w

theorem lst_one {l : List HP} {h : Hp} (x : lst l h) : lst [lst l] h := by
  have := lst_unflat (xs := l) (l := []) (h := h) (by simpa using x)
  exact this
theorem lst_one' {l : List HP} {h : Hp} (x : lst [lst l] h) : lst l h := by simpa using lst_flat x
theorem ent_fold (pre rest : List HP) : Ent (pre ++ rest) (pre ++ [lst rest]) := fun h x => by
  have h1 := lst_unflat x
  exact lst_flat (lst_cons_mono (fun _ y => y) (fun _ y => lst_one y) h1)
theorem ent_unfold (pre rest : List HP) : Ent (pre ++ [lst rest]) (pre ++ rest) := fun h x => by
  have h1 := lst_unflat x
  exact lst_flat (lst_cons_mono (fun _ y => y) (fun _ y => lst_one' y) h1)

section
variable {r : Option Nat} {P : Program} {n : Nat} {ds : List Deferred} {env : Env} {lc l l' : List HP} {all : Array Oper} {base : World} {Q : Exit → Act → World → Prop}
variable {dst : Option Tmp} {ty : TypeId} {pos : String} {af : Array Edge} {g : Option (Nat × Bool)}

theorem run_call {ρ : Operand → Value} {x : Operand} {f : FuncId} {first captured : Array Value} {args : Array Operand} {ats : Array TypeId} {w : World} [hc : CF P f] (hx : ρ x = .func (.func f) first captured) :
    (execOp ρ ⟨dst, .call ⟨.value x, args, ats⟩, ty, pos, af, g⟩).run P w = .ok (.enter f (first ++ args.map ρ ++ captured)) w := by
  simp only [execOp, resolve, Sem.run_bind]
  simp [hx, Deferred.ofValue, invoke, hc.out]
theorem Pick.append {l p q : List HP} (h : Pick l p q) (F : List HP) : Pick (l ++ F) p (q ++ F) := by
  induction h with
  | nil l => exact .nil _
  | cons h _ ih => exact .cons (h.append F) ih
theorem step_call {α : Type} {x : Operand} {f : FuncId} {first captured : Array Value} {xs : List Operand} {ats : Array TypeId} {vs : List Value} {args : Array Value} {pre rest : List HP} {val : α → Value} {post : α → List HP} {a : Act} {w : World} [CF P f]
    (hw : Want all ⟨dst, .call ⟨.value x, xs.toArray, ats⟩, ty, pos, af, g⟩ env) (hx : ev env x = some (.func (.func f) first captured)) (hxs : Evs env xs vs) (hargs : args = first ++ vs.toArray ++ captured) (hs : SpecH P f args pre val post) (hp : Pick l pre rest)
    (ha : AO all ⟨dst, .call ⟨.value x, xs.toArray, ats⟩, ty, pos, af, g⟩ n ds env a) (hst : St base l w) :
    VStep r P all ⟨dst, .call ⟨.value x, xs.toArray, ats⟩, ty, pos, af, g⟩ a w (fun u w' => ∃ y, u = val y ∧ St base (post y ++ rest) w') := by
  have h1 := ha.ev (x := x) (by simp [Op.operands, Call.operands]) hx
  have h2 := hxs.map ha (fun y hy => by simp [Op.operands, Call.operands, hy])
  refine ⟨by simp, ?_⟩
  rw [if_pos (hw _ ha.val), run_call h1, List.map_toArray, h2, ← hargs]
  have h3 : St base (pre ++ [lst rest]) w := (St.ent hst (fun _ h => hp.out h)).ent (ent_fold _ _)
  have h4 := hs base (lst rest) w h3
  have h5 : CallsIn (Fc r) 0 P f args w (fun e w' => ∃ y, e = .returned (val y) ∧ St base (post y ++ [lst rest]) w') := h4
  refine CallsIn.mono h5 ?_
  rintro e w' ⟨y, rfl, hs'⟩
  exact ⟨val y, rfl, y, rfl, hs'.ent (ent_unfold _ _)⟩
/-- A call of a named function. -/
theorem opn_call {α : Type} {f : FuncId} {xs : List Operand} {ats : Array TypeId} {vs : List Value} {pre rest : List HP} {val : α → Value} {post : α → List HP} [CF P f]
    (hw : Want all ⟨dst, .call ⟨.value (.func f), xs.toArray, ats⟩, ty, pos, af, g⟩ env) (hxs : Evs env xs vs) (hs : SpecH P f vs.toArray pre val post) (hp : Pick l pre rest) :
    OpN r P all ⟨dst, .call ⟨.value (.func f), xs.toArray, ats⟩, ty, pos, af, g⟩ n ds env l val (fun y => post y ++ rest) := fun _ _ _ ha hst =>
  step_call hw rfl hxs (by simp) hs hp ha hst
theorem opn_callv {α : Type} {x : Operand} {f : FuncId} {first captured : Array Value} {xs : List Operand} {ats : Array TypeId} {vs : List Value} {args : Array Value} {pre rest : List HP} {val : α → Value} {post : α → List HP} [CF P f]
    (hw : Want all ⟨dst, .call ⟨.value x, xs.toArray, ats⟩, ty, pos, af, g⟩ env) (hx : ev env x = some (.func (.func f) first captured)) (hxs : Evs env xs vs) (hargs : args = first ++ vs.toArray ++ captured) (hs : SpecH P f args pre val post) (hp : Pick l pre rest) :
    OpN r P all ⟨dst, .call ⟨.value x, xs.toArray, ats⟩, ty, pos, af, g⟩ n ds env l val (fun y => post y ++ rest) := fun _ _ _ ha hst =>
  step_call hw hx hxs hargs hs hp ha hst
/-- A call that hands back one value and leaves all as it was. -/
theorem opq_call {f : FuncId} {xs : List Operand} {ats : Array TypeId} {vs : List Value} {pre rest : List HP} {v : Value} [CF P f]
    (hw : Want all ⟨dst, .call ⟨.value (.func f), xs.toArray, ats⟩, ty, pos, af, g⟩ env) (hxs : Evs env xs vs) (hs : SpecH P f vs.toArray pre (fun _ : Unit => v) (fun _ => pre)) (hp : Pick lc pre rest) :
    OpQ r P all ⟨dst, .call ⟨.value (.func f), xs.toArray, ats⟩, ty, pos, af, g⟩ n ds env lc v := fun _ F _ _ ha hst =>
  VStep.mono r P (step_call hw rfl hxs (by simp) hs (hp.append F) ha hst) fun _ _ ⟨_, h1, h2⟩ => ⟨h1, h2.ent (fun _ h => (hp.append F).back h)⟩

/-! ### A function from its body -/
def zipEnv : Nat → List Value → Env
  | _, [] => []
  | i, v :: vs => (i, v) :: zipEnv (i + 1) vs
theorem look_zip : ∀ (vs : List Value) (i t : Nat) (v : Value), look (zipEnv i vs) t = some v → i ≤ t ∧ vs[t - i]? = some v
  | [], i, t, v, h => by cases h
  | u :: vs, i, t, v, h => by
    simp only [zipEnv, look_cons] at h
    split at h
    · rename_i e; subst e; simpa using h
    · obtain ⟨h1, h2⟩ := look_zip vs (i + 1) t v h
      refine ⟨by omega, ?_⟩
      rw [show t - i = (t - (i + 1)) + 1 from by omega]
      simpa using h2
/-- What is asked where a function has ended. -/
def fnPost {α : Type} (P : Program) (base : World) (fn : Func) (val : α → Value) (post : α → List HP) (F : HP) : Exit → Act → World → Prop := bodyPost P fn (fun e w' => ∃ x, e = .returned (val x) ∧ St base (post x ++ [F]) w')
theorem spec_of {α : Type} {f : FuncId} {fn : Func} {c : Code} {vs : List Value} {pre : List HP} {val : α → Value} {post : α → List HP} {k : Nat} (hf : P.funcs[f]? = some fn) (hb : fn.body = some c) (hn : fn.ntmps = k) (hk' : Nat.ble vs.length k = true) (env0 : Env) (he : zipEnv 0 vs = env0)
    (h : ∀ (base : World) (F : HP) (l0 : List HP), l0 = pre ++ [F] → TC none P base k [] c (fnPost P base fn val post F) env0 l0) : SpecH P f vs.toArray pre val post := fun base F w hw => by
  have hk : vs.length ≤ k := Nat.le_of_ble_eq_true hk'
  refine callsIn_of_wp hf hb trivial ?_
  refine h base F _ rfl _ _ ⟨?_, rfl, ?_⟩ hw
  · simp [hn]; omega
  · intro t v hv
    rw [← he] at hv
    obtain ⟨_, h1⟩ := look_zip vs 0 t v hv
    simp only [Nat.sub_zero] at h1
    have ht : t < vs.length := (List.getElem?_eq_some_iff.1 h1).1
    have h2 : vs[t] = v := by rw [List.getElem?_eq_getElem ht] at h1; exact Option.some.inj h1
    simp [Array.getD_eq_getD_getElem?, Array.getElem?_append, ht, h2]
/-- A result as the frame and the heap hold it. -/
inductive Res (P : Program) (l : List HP) (e : Env) : ResultVar → Value → Prop
  | tmp {t : Nat} {v : Value} (h : look e t = some v) : Res P l e (.tmp t) v
  | cell {t b off : Nat} {T : TypeId} {v : Value} (h : look e t = some (.pointer (some ⟨b, off, none⟩))) [ht : NAgg P T] (hr : Rd l ⟨b, off, none⟩ [v]) : Res P l e (.cell t T) v
  | agg {t b off size : Nat} {T : TypeId} {vs : List Value} (h : look e t = some (.pointer (some ⟨b, off, none⟩))) [ht : IAgg P T size] (hr : Rd l ⟨b, off, none⟩ vs) (hl : vs.length = size) : Res P l e (.cell t T) (.agg vs.toArray)
/-- One result read. -/
def resSem (tmps : Array Value) : ResultVar → Sem Value
  | .tmp t => pure (tmps.getD t undef)
  | .cell a t => do loadVar t (← asAddr (tmps.getD a undef))
theorem Res.run {x : ResultVar} {v : Value} {a : Act} {w : World} (h : Res P l env x v) (ha : AS n ds env a) (hs : St base l w) : (resSem a.tmps x).run P w = .ok v w := by
  cases h with
  | tmp h => simp [resSem, ha.val _ _ h]
  | @cell t b off T v h ht hr =>
    have h2 := hr.cell hs 0 v rfl
    have h3 : Addr.add ⟨b, off, none⟩ 0 = ⟨b, off, none⟩ := rfl
    rw [h3] at h2
    simp [resSem, ha.val _ _ h, asAddr, loadVar, ht.out w, load, Sem.run, h2]
  | @agg t b off size T vs h ht hr hl =>
    have h2 := run_loadCells_list (P := P) w ⟨b, off, none⟩ vs (hr.cell hs)
    rw [hl] at h2
    simp [resSem, ha.val _ _ h, asAddr, loadVar, (ht.out w).1, (ht.out w).2, h2]
theorem results_eq (fn : Func) (tmps : Array Value) : results fn tmps = (do let vs ← fn.results.mapM (resSem tmps); pure (if h : vs.size = 1 then vs[0] else .tuple vs)) := by
  unfold results
  congr 1
variable {α : Type} {val : α → Value} {post : α → List HP} {F : HP} {fn : Func}
theorem tk_end0 (hres : fn.results = #[]) (x : α) (hx : (.tuple #[] : Value) = val x) (he : Ent l (post x ++ [F])) : TK base n [] (fnPost P base fn val post F .normal) env l := fun a w ha hs =>
  ⟨ha.defers, .tuple #[], by simp [results, hres], x, by rw [hx], hs.ent he⟩
theorem tk_ret0 (hres : fn.results = #[]) (x : α) (hx : (.tuple #[] : Value) = val x) (he : Ent l (post x ++ [F])) : TK base n [] (fnPost P base fn val post F .ret) env l := fun a w ha hs =>
  ⟨ha.defers, .tuple #[], by simp [results, hres], x, by rw [hx], hs.ent he⟩
theorem tk_ret1 {r1 : ResultVar} {v1 : Value} (hres : fn.results = #[r1]) (h1 : Res P l env r1 v1) (x : α) (hx : v1 = val x) (he : Ent l (post x ++ [F])) : TK base n [] (fnPost P base fn val post F .ret) env l := fun a w ha hs =>
  ⟨ha.defers, v1, by simp [results_eq, hres, h1.run ha hs], x, by rw [hx], hs.ent he⟩
theorem tk_ret2 {r1 r2 : ResultVar} {v1 v2 : Value} (hres : fn.results = #[r1, r2]) (h1 : Res P l env r1 v1) (h2 : Res P l env r2 v2) (x : α) (hx : .tuple #[v1, v2] = val x) (he : Ent l (post x ++ [F])) : TK base n [] (fnPost P base fn val post F .ret) env l := fun a w ha hs =>
  ⟨ha.defers, .tuple #[v1, v2], by simp [results_eq, hres, h1.run ha hs, h2.run ha hs], x, by rw [hx], hs.ent he⟩
theorem tk_ret3 {r1 r2 r3 : ResultVar} {v1 v2 v3 : Value} (hres : fn.results = #[r1, r2, r3]) (h1 : Res P l env r1 v1) (h2 : Res P l env r2 v2) (h3 : Res P l env r3 v3) (x : α) (hx : .tuple #[v1, v2, v3] = val x) (he : Ent l (post x ++ [F])) : TK base n [] (fnPost P base fn val post F .ret) env l := fun a w ha hs =>
  ⟨ha.defers, .tuple #[v1, v2, v3], by simp [results_eq, hres, h1.run ha hs, h2.run ha hs, h3.run ha hs], x, by rw [hx], hs.ent he⟩
end
end Go.Sl
