/- A range over a function: the iterator's contract, the loop's rule, functions that hold one. For whatever program. -/
import Derived.Test.YtgmccdicncocdaaSlRows
namespace Go.Sl

/-- Frame slots set one after the other. -/
def putsE : List Tmp → List Value → Env → Env
  | p :: ps, v :: vs, e => putsE ps vs ((p, v) :: e)
  | _, _, e => e
def putsT (ps : Array Tmp) (vs : Array Value) (tmps : Array Value) : Array Value := (ps.zip vs).foldl (fun tmps (t, a) => tmps.setIfInBounds t a) tmps
theorem puts_as {n : Nat} : ∀ (ps : List Tmp) (vs : List Value) (e : Env) (tmps : Array Value), (∀ p ∈ ps, p < n) → AS n [] e ⟨tmps, []⟩ → AS n [] (putsE ps vs e) ⟨(ps.zip vs).foldl (fun tmps (x : Tmp × Value) => tmps.setIfInBounds x.1 x.2) tmps, []⟩
  | [], _, e, tmps, _, h => by simpa [putsE] using h
  | p :: ps, [], e, tmps, _, h => by simpa [putsE] using h
  | p :: ps, v :: vs, e, tmps, hp, h => by
    simp only [List.zip_cons_cons, List.foldl_cons, putsE]
    exact puts_as ps vs _ _ (fun q hq => hp q (by simp [hq])) (h.put (hp p (by simp)) v)
theorem putsT_eq (ps : Array Tmp) (vs : List Value) (tmps : Array Value) : putsT ps vs.toArray tmps = (ps.toList.zip vs).foldl (fun tmps (x : Tmp × Value) => tmps.setIfInBounds x.1 x.2) tmps := by
  unfold putsT
  rw [← Array.foldl_toList]
  simp

/-- One round of a loop over a function: the contract of calling yield. -/
def RoundH {α : Type} (P : Program) (lp : Nat) (rec : Loop) (args : List Value) (pre : List HP) (val : α → Bool) (post : α → List HP) : Prop :=
  ∀ (base : World) (F : HP) (w : World), St base (pre ++ [F]) w → RoundIn (Fc none) 0 P lp rec.fn (putsT rec.params args.toArray rec.tmps) rec.assign rec.body w fun e w' => ∃ x, e = .returned (.bool (val x)) ∧ St base (post x ++ [F]) w'
def doneL (rec : Loop) (c : Code) : Loop := { rec with state := .done, pending := some c }
def busyL (rec : Loop) : Loop := { rec with state := .busy }
/-- What is left where a round has ended: on, or out by 'c'. -/
def roundL (lp : Nat) (rec : Loop) (I : HP) (B : Code → HP) : Option Code → List HP
  | none => [blk lp (.loop rec), I]
  | some c => [blk lp (.loop (doneL rec c)), B c]
def iterL (lp : Nat) (rec : Loop) (I : HP) (B : Nat → Code → HP) : Option (Nat × Code) → List HP
  | none => [blk lp (.loop rec), I]
  | some x => [blk lp (.loop (doneL rec x.2)), B x.1 x.2]
/-- **An iterator that hands the elements of 'xs' to yield, one after the other, till yield says no.** -/
def IterH (P : Program) (gf : FuncId) (captured : Array Value) (xs : List (List Value)) (own : List HP) : Prop :=
  ∀ (lp : Nat) (rec : Loop) (I : Nat → HP) (B : Nat → Code → HP), rec.state = .ready → rec.pending = none → (∀ a ∈ xs, a.length = rec.params.size) →
    (∀ i a, xs[i]? = some a → RoundH P lp rec a [blk lp (.loop rec), I i] (fun o : Option Code => o.isNone) (roundL lp rec (I (i + 1)) (B i))) →
    SpecH P gf (#[.func (.yield lp) #[] #[]] ++ captured) (blk lp (.loop rec) :: I 0 :: own) (fun _ : Option (Nat × Code) => .tuple #[]) (fun o => iterL lp rec (I xs.length) B o ++ own)

section
variable {r : Option Nat} {P : Program} {n : Nat} {ds : List Deferred} {env : Env} {l rest : List HP} {all : Array Oper} {base : World} {Q : Exit → Act → World → Prop}
variable {dst : Option Tmp} {ty : TypeId} {pos : String} {af : Array Edge} {g : Option (Nat × Bool)}

/-- A call of yield. -/
theorem opn_yield {α : Type} {lp : Nat} {rec : Loop} {x : Operand} {xs : List Operand} {ats : Array TypeId} {vs : List Value} {pre : List HP} {val : α → Bool} {post : α → List HP} (hs : RoundH P lp rec vs (blk lp (.loop rec) :: pre) val post)
    (hw : Want all ⟨dst, .call ⟨.value x, xs.toArray, ats⟩, ty, pos, af, g⟩ env) (hx : ev env x = some (.func (.yield lp) #[] #[])) (hxs : Evs env xs vs) (hl : vs.length = rec.params.size) (hp : Pick l (blk lp (.loop rec) :: pre) rest) :
    OpN r P all ⟨dst, .call ⟨.value x, xs.toArray, ats⟩, ty, pos, af, g⟩ n ds env l (fun y => .bool (val y)) (fun y => post y ++ rest) := fun base a w ha hst => by
  have h1 := ha.ev (x := x) (by simp [Op.operands, Call.operands]) hx
  have h2 := hxs.map ha (fun y hy => by simp [Op.operands, Call.operands, hy])
  refine ⟨by simp, ?_⟩
  have h3 : St base ((blk lp (.loop rec) :: pre) ++ [lst rest]) w := (St.ent hst (fun _ h => hp.out h)).ent (ent_fold _ _)
  have hb : w.heap[lp]? = some (.loop rec) := h3.block (.here _ _)
  have hrun : (execOp a.eval ⟨dst, .call ⟨.value x, xs.toArray, ats⟩, ty, pos, af, g⟩).run P w = .ok (.round lp rec.fn (putsT rec.params vs.toArray rec.tmps) rec.assign rec.body) w := by
    simp only [execOp, resolve, Sem.run_bind]
    simp [h1, h2, Deferred.ofValue, invoke, Instr.yield, Instr.getLoop, getObj, Sem.run, hb, hl, putsT]
  rw [if_pos (hw _ ha.val), hrun]
  exact (RoundIn.mono (hs base (lst rest) w h3) fun e w' ⟨y, he, hs'⟩ => ⟨.bool (val y), he, y, rfl, hs'.ent (ent_unfold _ _)⟩)

/-! ### A round from its body -/
def Rb (P : Program) (lp : Nat) (body : Code) (RR : Exit → Act → World → Prop) : Act → World → Prop := fun a w => ∃ w', (Instr.beginRound lp).run P w = .ok () w' ∧ body.wpIn (Fc (some lp)) 0 P RR a w'
def Rp (P : Program) (lp : Nat) (base : World) (F : HP) (post : Option Code → List HP) : Exit → Act → World → Prop := roundPost P lp (fun e w' => ∃ o : Option Code, e = .returned (.bool o.isNone) ∧ St base (post o ++ [F]) w')
theorem round_of {lp : Nat} {rec : Loop} {args : List Value} {pre : List HP} {post : Option Code → List HP} {e0 : Env} (hps : ∀ p ∈ rec.params.toList, p < n) (ha : AS n [] e0 ⟨rec.tmps, []⟩)
    (h : ∀ (base : World) (F : HP) (l0 : List HP), l0 = pre ++ [F] → TC (some lp) P base n [] rec.assign (Th (Rb P lp rec.body (Rp P lp base F post)) noQ) (putsE rec.params.toList args e0) l0) : RoundH P lp rec args pre (fun o : Option Code => o.isNone) post := fun base F w hw =>
  roundIn_of_wpIn (F := Fc none) (l := lp) trivial (h base F _ rfl _ _ (by rw [putsT_eq]; exact puts_as _ _ _ _ hps ha) hw)
theorem run_setLoop {lp : Nat} {rec rec' : Loop} {w : World} (hb : w.heap[lp]? = some (.loop rec)) : (setObj lp (.loop rec')).run P w = .ok () { w with heap := w.heap.setIfInBounds lp (.loop rec') } := by
  simp only [setObj, Sem.run, hb]
theorem St.setObj {lp : Nat} {o o' : Obj} {l' : List HP} {w : World} (h : St base l w) (hr : Rep (blk lp o) (blk lp o') l l') : St base l' { w with heap := w.heap.setIfInBounds lp o' } := by
  obtain ⟨q, hq, _⟩ := hr.rem
  have hb := h.block hq
  have hlt : lp < w.heap.size := (Array.getElem?_eq_some_iff.1 hb).1
  refine h.setBlock hr _ rfl rfl rfl (fun k => ?_)
  simp only [Array.getElem?_setIfInBounds]
  by_cases hk : k = lp
  · subst hk; simp [hlt]
  · have hk' : ¬ lp = k := fun e => hk e.symm
    simp [hk, hk']
theorem tk_rb {lp : Nat} {rec : Loop} {body : Code} {RR : Exit → Act → World → Prop} {l' : List HP} (hst : rec.state = .ready) (hr : Rep (blk lp (.loop rec)) (blk lp (.loop (busyL rec))) l l') (h : TC (some lp) P base n ds body RR env l') : TK base n ds (Rb P lp body RR) env l := fun a w ha hw => by
  obtain ⟨q, hq, _⟩ := hr.rem
  have hb := hw.block hq
  refine ⟨{ w with heap := w.heap.setIfInBounds lp (.loop (busyL rec)) }, ?_, h a _ ha (hw.setObj hr)⟩
  have h1 := run_setLoop (P := P) (rec' := busyL rec) hb
  simp only [busyL] at h1
  have h2 : (Instr.getLoop lp).run P w = .ok rec w := by simp [Instr.getLoop, getObj, Sem.run, hb]
  unfold Instr.beginRound
  rw [Sem.run_bind, h2]
  simp only [Result.andThen]
  rw [Sem.run_bind, h1]
  simp only [Result.andThen, hst, busyL]
  rfl
theorem run_endRound {lp : Nat} {rec : Loop} {w : World} (jump : Option Code) (hb : w.heap[lp]? = some (.loop (busyL rec))) : (Instr.endRound lp jump).run P w = .ok (.bool jump.isNone) { w with heap := w.heap.setIfInBounds lp (.loop { rec with state := if jump.isNone then .ready else .done, pending := jump }) } := by
  have h2 : (Instr.getLoop lp).run P w = .ok (busyL rec) w := by simp [Instr.getLoop, getObj, Sem.run, hb]
  have h1 := run_setLoop (P := P) (rec' := { rec with state := if jump.isNone then .ready else .done, pending := jump }) hb
  unfold Instr.endRound
  rw [Sem.run_bind, h2]
  simp only [Result.andThen, busyL]
  rw [Sem.run_bind, h1]
  simp only [Result.andThen]
  rfl
theorem tk_rp_n {lp : Nat} {rec : Loop} {F : HP} {post : Option Code → List HP} {l' : List HP} (hst : rec.state = .ready) (hpe : rec.pending = none) (hr : Rep (blk lp (.loop (busyL rec))) (blk lp (.loop rec)) l l') (he : Ent l' (post none ++ [F])) : TK base n ds (Rp P lp base F post .normal) env l := fun a w ha hw => by
  obtain ⟨q, hq, _⟩ := hr.rem
  have hb := hw.block hq
  have h1 := run_endRound (P := P) none hb
  have h2 : ({ rec with state := if (none : Option Code).isNone then .ready else .done, pending := none } : Loop) = rec := by cases rec; simp_all
  rw [h2] at h1
  exact ⟨_, _, h1, none, rfl, (hw.setObj hr).ent he⟩
theorem tk_rp_r {lp : Nat} {rec : Loop} {F : HP} {post : Option Code → List HP} {l' : List HP} (hr : Rep (blk lp (.loop (busyL rec))) (blk lp (.loop (doneL rec .ret))) l l') (he : Ent l' (post (some .ret) ++ [F])) : TK base n ds (Rp P lp base F post .ret) env l := fun a w ha hw => by
  obtain ⟨q, hq, _⟩ := hr.rem
  have hb := hw.block hq
  exact ⟨_, _, run_endRound (P := P) (some .ret) hb, some .ret, rfl, (hw.setObj hr).ent he⟩
theorem tk_rp_x {lp id : Nat} {rec : Loop} {F : HP} {post : Option Code → List HP} {l' : List HP} (hr : Rep (blk lp (.loop (busyL rec))) (blk lp (.loop (doneL rec (.exit id)))) l l') (he : Ent l' (post (some (.exit id)) ++ [F])) : TK base n ds (Rp P lp base F post (.exit id)) env l := fun a w ha hw => by
  obtain ⟨q, hq, _⟩ := hr.rem
  have hb := hw.block hq
  exact ⟨_, _, run_endRound (P := P) (some (.exit id)) hb, some (.exit id), rfl, (hw.setObj hr).ent he⟩

/-! ### The loop -/
def coll (rb : Nat) : Deferred := { target := .collected rb, args := #[] }
theorem run_endLoop {lp : Nat} {rec : Loop} {w : World} (hb : w.heap[lp]? = some (.loop rec)) (hst : rec.state ≠ .busy) : (Instr.endLoop lp).run P w = .ok rec.pending { w with heap := w.heap.setIfInBounds lp (.loop { rec with state := .exhausted }) } := by
  have h2 : (Instr.getLoop lp).run P w = .ok rec w := by simp [Instr.getLoop, getObj, Sem.run, hb]
  have h1 := run_setLoop (P := P) (rec' := { rec with state := .exhausted }) hb
  unfold Instr.endLoop
  rw [Sem.run_bind, h2]
  simp only [Result.andThen]
  have h3 : (rec.state == LoopState.busy) = false := by simpa using hst
  rw [h3]
  simp only [Bool.false_eq_true, if_false]
  rw [Sem.run_bind]
  simp only [pure, Sem.run, Result.andThen]
  rw [h1]
/-- **'for .. := range f { .. }' in a function's own frame.** -/
theorem tc_rangeFunc {f : Operand} {ps : Array Tmp} {assign body : Code} {gf : FuncId} {captured : Array Value} {xs : List (List Value)} {own R : List HP} (I : Nat → HP) (B : Nat → Code → HP) (hit : IterH P gf captured xs own) (hf : ev env f = some (.func (.func gf) #[] captured)) [CF P gf]
    (hps : ∀ p ∈ ps.toList, p < n) (hxs : ∀ a ∈ xs, a.length = ps.size) (hl : Ent l (I 0 :: own ++ R))
    (hround : ∀ (lp : Nat) (rec : Loop) (i : Nat) (a : List Value), rec.state = .ready → rec.pending = none → xs[i]? = some a → ∀ (base : World) (F : HP), TC (some lp) P base n [] assign (Th (Rb P lp body (Rp P lp base F (roundL lp rec (I (i + 1)) (B i)))) noQ) (putsE ps.toList a env) [blk lp (.loop rec), I i, F])
    (hdone : ∀ rb, TK base n (coll rb :: ds) (Q .normal) env (blk rb (.deferred (some [])) :: I xs.length :: own ++ R))
    (hstop : ∀ rb i c, TC none P base n (coll rb :: ds) c Q env (blk rb (.deferred (some [])) :: B i c :: own ++ R)) : TC none P base n ds (.rangeFunc f ps assign body) Q env l := fun a w ha hw => by
  refine wpIn_rangeFunc (F := Fc none) fun fn _ => ?_
  have hev := ha.ev hf
  let rec0 : Loop := { state := .ready, pending := none, fn, tmps := a.tmps, params := ps, assign, body, defers := w.heap.size }
  have hs1 := (hw.ent hl).alloc (.deferred (some []))
  have hs2 := hs1.alloc (.loop rec0)
  have hsz : (w.heap.push (Obj.deferred (some []))).size = w.heap.size + 1 := by simp
  let W : World := { w with heap := (w.heap.push (.deferred (some []))).push (.loop rec0) }
  refine ⟨w.heap.size + 1, [coll w.heap.size], W, { target := .fn (.func gf) captured, args := #[.func (.yield (w.heap.size + 1)) #[] #[]] }, W, gf, #[.func (.yield (w.heap.size + 1)) #[] #[]] ++ captured, W, ?_, ?_, fun _ _ => trivial, ?_, fun h => (by simp [Fc, Fence.wide] at h), ?_⟩
  · have e1 : (w.heap.push (Obj.deferred (some []))).size = w.heap.size + 1 := by simp
    unfold Instr.enterLoop
    show Sem.run P (do let r ← newObj (.deferred (some [])); let l ← newObj (.loop { state := .ready, pending := none, fn, tmps := a.tmps, params := ps, assign, body, defers := r }); pure (l, [coll r]) : Sem _) w = _
    show Result.ok ((w.heap.push (Obj.deferred (some []))).size, _) _ = _
    rw [e1]
  · simp [resolve, Act.eval] at hev ⊢
    rw [hev]
    simp [Deferred.ofValue]
  · exact (CF.out (P := P) (f := gf)) _ _
  · have hs3 : St base (blk (w.heap.size + 1) (.loop rec0) :: blk w.heap.size (.deferred (some [])) :: I 0 :: own ++ R) W := by rw [hsz] at hs2; exact hs2
    have hspec := hit (w.heap.size + 1) rec0 I B rfl rfl (fun a ha => hxs a ha) (fun i a' hi => by
      refine round_of (n := n) (e0 := env) hps ⟨ha.size, rfl, ha.val⟩ ?_
      intro base' F' l0 hl0
      subst hl0
      exact hround (w.heap.size + 1) rec0 i a' rfl rfl hi base' F')
    have hpick : Ent (blk (w.heap.size + 1) (.loop rec0) :: blk w.heap.size (.deferred (some [])) :: I 0 :: own ++ R) ((blk (w.heap.size + 1) (.loop rec0) :: I 0 :: own) ++ [lst (blk w.heap.size (.deferred (some [])) :: R)]) := by
      refine Ent.trans ?_ (ent_fold (blk (w.heap.size + 1) (.loop rec0) :: I 0 :: own) (blk w.heap.size (.deferred (some [])) :: R))
      intro h x
      refine lst_cons_mono (fun _ y => y) (fun _ y => ?_) x
      have y2 : lst (blk w.heap.size (.deferred (some [])) :: ((I 0 :: own) ++ R)) _ := y
      have y3 := sep_mono (fun _ z => z) (fun _ z => lst_unflat z) y2
      exact lst_flat (xs := I 0 :: own) (l := blk w.heap.size (.deferred (some [])) :: R) (sep_swap y3)
    have hcall := hspec base _ W (hs3.ent hpick)
    refine CallsIn.mono hcall ?_
    rintro e w' ⟨o, rfl, hs'⟩
    have hs4 := hs'.ent (ent_unfold (iterL (w.heap.size + 1) rec0 (I xs.length) B o ++ own) (blk w.heap.size (.deferred (some [])) :: R))
    cases o with
    | none =>
      have hb : w'.heap[w.heap.size + 1]? = some (.loop rec0) := hs4.block (.here _ _)
      refine ⟨none, _, run_endLoop hb (by simp [rec0]), ?_⟩
      have hs5 := hs4.setObj (o' := .loop { rec0 with state := .exhausted }) (.here _)
      refine hdone w.heap.size _ _ ⟨ha.size, by simp [ha.defers], ha.val⟩ (hs5.ent ?_)
      intro h x
      have x2 : lst ((I xs.length :: own) ++ (blk w.heap.size (.deferred (some [])) :: R)) h := lst_drop x
      have x3 := sep_swap (lst_unflat x2)
      exact sep_mono (fun _ z => z) (fun _ z => lst_flat z) x3
    | some ic =>
      obtain ⟨i, c⟩ := ic
      have hb : w'.heap[w.heap.size + 1]? = some (.loop (doneL rec0 c)) := hs4.block (.here _ _)
      refine ⟨some c, _, run_endLoop hb (by simp [doneL]), ?_⟩
      have hs5 := hs4.setObj (o' := .loop { doneL rec0 c with state := .exhausted }) (.here _)
      refine hstop w.heap.size i c _ _ ⟨ha.size, by simp [ha.defers], ha.val⟩ (hs5.ent ?_)
      intro h x
      have x2 : lst ((B i c :: own) ++ (blk w.heap.size (.deferred (some [])) :: R)) h := lst_drop x
      have x3 := sep_swap (lst_unflat x2)
      exact sep_mono (fun _ z => z) (fun _ z => lst_flat z) x3
end
end Go.Sl
