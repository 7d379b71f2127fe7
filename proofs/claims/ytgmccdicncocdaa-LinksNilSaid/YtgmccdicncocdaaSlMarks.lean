/- Functions that hold a range over a function: their ends. For whatever program. -/
import Derived.Test.YtgmccdicncocdaaSlRange
namespace Go.Sl
section
variable {P : Program} {n : Nat} {ds : List Deferred} {env : Env} {l l' : List HP} {base : World} {α : Type} {val : α → Value} {post : α → List HP} {F : HP} {fn : Func}

def fnPostM {α : Type} (P : Program) (base : World) (fn : Func) (val : α → Value) (post : α → List HP) (F : HP) : Exit → Act → World → Prop := bodyPostM (Fc none) 0 P fn (fun e w' => ∃ x, e = .returned (val x) ∧ St base (post x ++ [F]) w')
theorem spec_of_m {f : FuncId} {c : Code} {vs : List Value} {pre : List HP} {k : Nat} (hf : P.funcs[f]? = some fn) (hb : fn.body = some c) (hn : fn.ntmps = k) (hk' : Nat.ble vs.length k = true) (env0 : Env) (he : zipEnv 0 vs = env0)
    (h : ∀ (base : World) (F : HP) (l0 : List HP), l0 = pre ++ [F] → TC none P base k [] c (fnPostM P base fn val post F) env0 l0) : SpecH P f vs.toArray pre val post := fun base F w hw => by
  have hk : vs.length ≤ k := Nat.le_of_ble_eq_true hk'
  refine callsIn_of_wp_marks hf hb trivial ?_
  refine h base F _ rfl _ _ ⟨?_, rfl, ?_⟩ hw
  · simp [hn]; omega
  · intro t v hv
    rw [← he] at hv
    obtain ⟨_, h1⟩ := look_zip vs 0 t v hv
    simp only [Nat.sub_zero] at h1
    have ht : t < vs.length := (List.getElem?_eq_some_iff.1 h1).1
    have h2 : vs[t] = v := by rw [List.getElem?_eq_getElem ht] at h1; exact Option.some.inj h1
    simp [Array.getD_eq_getD_getElem?, Array.getElem?_append, ht, h2]
/-- The marks of the loops, each with its block. -/
inductive Colls : List Deferred → List HP → List HP → Prop
  | nil (l : List HP) : Colls [] l l
  | cons {rb : Nat} {ds : List Deferred} {l l1 l2 : List HP} (h : Rem l (blk rb (.deferred (some []))) l1) (k : Colls ds l1 l2) : Colls (coll rb :: ds) l l2
theorem leaves_colls {tmps : Array Value} {R : Ending → World → Prop} (hc : Colls ds l l') : ∀ {w : World}, St base l w → (∀ w', St base l' w' → LeavesInM (Fc none) 0 P fn tmps R [] .returning w') → LeavesInM (Fc none) 0 P fn tmps R ds .returning w := by
  induction hc with
  | nil l => exact fun hw h => h _ hw
  | @cons rb ds l l1 l2 hr _ ih =>
    intro w hw h
    have hb := hw.block hr
    refine ⟨by simp, .inl ⟨rb, { w with heap := w.heap.setIfInBounds rb (.deferred none) }, rfl, ?_, ?_⟩⟩
    · unfold Instr.takeDeferred
      have h1 : (getObj rb).run P w = .ok (.deferred (some [])) w := by simp [getObj, Sem.run, hb]
      rw [Sem.run_bind, h1]
      simp only [Result.andThen]
      have h2 : (setObj rb (.deferred none)).run P w = .ok () { w with heap := w.heap.setIfInBounds rb (.deferred none) } := by simp only [setObj, Sem.run, hb]
      rw [Sem.run_bind, h2]
      rfl
    · refine ih ?_ h
      have h3 : St base (blk rb (.deferred (some [])) :: l1) w := hw.ent (fun _ => hr.out)
      exact (h3.setObj (o' := .deferred none) (.here _)).ent (Ent.drop (Ent.refl _))
theorem tk_retm1 {r1 : ResultVar} {v1 : Value} (hres : fn.results = #[r1]) (hc : Colls ds l l') (h1 : Res P l' env r1 v1) (x : α) (hx : v1 = val x) (he : Ent l' (post x ++ [F])) : TK base n ds (fnPostM P base fn val post F .ret) env l := fun a w ha hs => by
  show LeavesInM (Fc none) 0 P fn a.tmps _ a.defers .returning w
  rw [ha.defers]
  refine leaves_colls hc hs fun w' hw' => ?_
  have hr := h1.run (a := a) ha hw'
  exact ⟨v1, by simp [results_eq, hres, hr], x, by rw [hx], hw'.ent he⟩
theorem tk_endm0 (hres : fn.results = #[]) (hc : Colls ds l l') (x : α) (hx : (.tuple #[] : Value) = val x) (he : Ent l' (post x ++ [F])) : TK base n ds (fnPostM P base fn val post F .normal) env l := fun a w ha hs => by
  show LeavesInM (Fc none) 0 P fn a.tmps _ a.defers .returning w
  rw [ha.defers]
  exact leaves_colls hc hs fun w' hw' => ⟨.tuple #[], by simp [results, hres], x, by rw [hx], hw'.ent he⟩
theorem tk_retm2 {r1 r2 : ResultVar} {v1 v2 : Value} (hres : fn.results = #[r1, r2]) (hc : Colls ds l l') (h1 : Res P l' env r1 v1) (h2 : Res P l' env r2 v2) (x : α) (hx : .tuple #[v1, v2] = val x) (he : Ent l' (post x ++ [F])) : TK base n ds (fnPostM P base fn val post F .ret) env l := fun a w ha hs => by
  show LeavesInM (Fc none) 0 P fn a.tmps _ a.defers .returning w
  rw [ha.defers]
  refine leaves_colls hc hs fun w' hw' => ?_
  have hr := h1.run (a := a) ha hw'
  have hr2 := h2.run (a := a) ha hw'
  exact ⟨.tuple #[v1, v2], by simp [results_eq, hres, hr, hr2], x, by rw [hx], hw'.ent he⟩
end
section
variable {r : Option Nat} {P : Program} {n : Nat} {ds : List Deferred} {env : Env} {l rest : List HP} {base : World} {Q : Exit → Act → World → Prop} {all : Array Oper} {ro : List Oper}
theorem tl_yield {α : Type} {lp : Nat} {rec : Loop} {x : Operand} {xs : List Operand} {ats : Array TypeId} {vs : List Value} {pre : List HP} {val : α → Bool} {post : α → List HP} {dst : Option Tmp} {ty : TypeId} {pos : String} {af : Array Edge} {g : Option (Nat × Bool)} {d : Nat} (hs : RoundH P lp rec vs (blk lp (.loop rec) :: pre) val post)
    (hw : Want all ⟨dst, .call ⟨.value x, xs.toArray, ats⟩, ty, pos, af, g⟩ env) (hx : ev env x = some (.func (.yield lp) #[] #[])) (hxs : Evs env xs vs) (hl : vs.length = rec.params.size) (hp : Pick l (blk lp (.loop rec) :: pre) rest) (hd : dst = some d) (hn : d < n)
    (h : ∀ o l2, l2 = post o ++ rest → TL r P base n ds all ro Q ((d, .bool (val o)) :: env) l2) : TL r P base n ds all (⟨dst, .call ⟨.value x, xs.toArray, ats⟩, ty, pos, af, g⟩ :: ro) Q env l := tl_n (opn_yield hs hw hx hxs hl hp) hd hn (fun o => h o _ rfl)
theorem TL.srcVec {E sz : Nat} {a : Option Addr} {m cap : Nat} {cs : List Value} {r' : List HP} (hr : Rem l (Vec E sz a m cap cs) r') (h : Src l sz a m cs → TL r P base n ds all ro Q env l) : TL r P base n ds all ro Q env l := src_vec hr h
theorem Src.cons {sz : Nat} {a : Option Addr} {m : Nat} {cs : List Value} (x : HP) (h : Src l sz a m cs) : Src (x :: l) sz a m cs := by
  cases h with
  | nil => exact .nil
  | zero ad => exact .zero ad
  | lies hr hl => exact .lies (fun h hx => hr h (lst_drop hx)) hl
theorem opq_makeFunc {fn : Fn} {xs ys : List Operand} {vs us : List Value} {lc : List HP} {dst : Option Tmp} {ty : TypeId} {pos : String} {af : Array Edge} {g : Option (Nat × Bool)} (hw : Want all ⟨dst, .makeFunc fn xs.toArray ys.toArray, ty, pos, af, g⟩ env) (hx : Evs env xs vs) (hy : Evs env ys us) : OpQ r P all ⟨dst, .makeFunc fn xs.toArray ys.toArray, ty, pos, af, g⟩ n ds env lc (.func fn vs.toArray us.toArray) :=
  opq_pure hw (by simp) fun a w ha => by
    have h1 := hx.map ha (fun y hy => by simp [Op.operands, hy])
    have h2 := hy.map ha (fun y hy => by simp [Op.operands, hy])
    simp [execOp, Instr.makeFunc, h1, h2]
/-- An append to nil. -/
theorem opn_appendN {t e : TypeId} {x y : Operand} {a2 : Option Addr} {m c2 size bytes : Nat} {z : Value} {zs cs2 : List Value} {dst : Option Tmp} {ty : TypeId} {pos : String} {af : Array Edge} {g : Option (Nat × Bool)} (hw : Want all ⟨dst, .call ⟨.builtin .append, #[x, y], #[t, t]⟩, ty, pos, af, g⟩ env)
    (hx : ev env x = some (.slice none 0 0)) (hy : ev env y = some (.slice a2 m c2)) [hu : UL P t (.slice e)] [hi : TI P e z size bytes] (hsrc : Src l size a2 m cs2) (hp : ∀ v ∈ cs2, plain v = true)
    (hz : IsCells z zs) (hlz : zs.length = size) (hb : m * bytes ≤ 140737488355328) (hk : m ≤ 9223372036854775807) :
    OpN r P all ⟨dst, .call ⟨.builtin .append, #[x, y], #[t, t]⟩, ty, pos, af, g⟩ n ds env l (fun q : Option Addr × Nat => .slice q.1 m q.2) (fun q => Vec e size q.1 m q.2 cs2 :: l) := fun base a w ha hs => by
  have h1 := opn_append (r := r) (P := P) (n := n) (ds := ds) (k := 0) (cap := 0) (cs := []) (r1 := l) hw hx hy (.here _ _) (hsrc.cons (Vec e size none 0 0 [])) hp hz hlz (by simpa using hb) (by simpa using hk) base a w ha (hs.ent (Ent.vecNil (Ent.refl l)))
  refine h1.mono r P fun u w' ⟨q, hu', hs'⟩ => ⟨q, by rw [hu', Nat.zero_add], by rw [Nat.zero_add, List.nil_append] at hs'; exact hs'⟩
end
end Go.Sl
