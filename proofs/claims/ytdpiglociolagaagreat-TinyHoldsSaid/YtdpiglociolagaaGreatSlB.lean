/- SlB: SlDraw, SlTail, SlRows, SlRange, SlMarks, SlOps5, SlRet. -/
import Derived.Test.YtdpiglociolagaaGreatSlA
import Derived.StillTail
/- A region that draws its order, walked: operations that leave the shared assertions alone may be taken first. For whatever program. -/
namespace Go.Sl

def putE (dst : Option Tmp) (v : Value) (e : Env) : Env := match dst with | some d => (d, v) :: e | none => e
theorem AS.putE {n : Nat} {ds : List Deferred} {e : Env} {a : Act} (h : AS n ds e a) {dst : Option Tmp} (hd : ∀ d, dst = some d → d < n) (v : Value) : AS n ds (putE dst v e) (a.put dst v) := by
  cases dst with
  | none => exact h
  | some d => exact h.put (hd d rfl) v

section
variable {r : Option Nat} {P : Program} {base : World} {n : Nat} {ds : List Deferred} {Q : Exit → Act → World → Prop} {ops : Array Oper} {lc : List HP}

def OpX (r : Option Nat) (P : Program) (base : World) (n : Nat) (ds : List Deferred) (ops : Array Oper) (lc : List HP) (o : Oper) (env : Env) (F : List HP) (K : Value → List HP → Prop) : Prop :=
  ∀ a w, AO ops o n ds env a → St base (lc ++ F) w → VStep r P ops o a w (fun u w' => ∃ F', St base (lc ++ F') w' ∧ K u F')
theorem OpX.mono {o : Oper} {env : Env} {F : List HP} {K K' : Value → List HP → Prop} (h : OpX r P base n ds ops lc o env F K) (hk : ∀ u F, K u F → K' u F) : OpX r P base n ds ops lc o env F K' := fun a w ha hs =>
  (h a w ha hs).mono r P fun _ _ ⟨F', h1, h2⟩ => ⟨F', h1, hk _ _ h2⟩

def WA (r : Option Nat) (P : Program) (base : World) (n : Nat) (ds : List Deferred) (ops : Array Oper) (Q : Exit → Act → World → Prop) (lc : List HP) : Nat → Array Bool → Env → List HP → Prop
  | 0, listed, env, F => Region.ready .any ops listed = [] ∧ TK base n ds (Q .normal) env (lc ++ F)
  | fuel + 1, listed, env, F => (Region.ready .any ops listed = [] → TK base n ds (Q .normal) env (lc ++ F)) ∧
    ∀ i ∈ Region.ready .any ops listed, ∀ o, ops[i]? = some o → OpX r P base n ds ops lc o env F (fun u F' => WA r P base n ds ops Q lc fuel (listed.setIfInBounds i true) (putE o.dst u env) F')

theorem wa_sound (hd : ∀ (i : Nat) (o : Oper), ops[i]? = some o → ∀ d, o.dst = some d → d < n) : ∀ (fuel : Nat) (listed : Array Bool) (env : Env) (F : List HP), WA r P base n ds ops Q lc fuel listed env F → ∀ a w, AS n ds env a → St base (lc ++ F) w → wpAnyIn (Fc r) 0 P .any ops Q fuel listed a w
  | 0, _, _, _, h, a, w, ha, hs => ⟨h.1, h.2 a w ha hs⟩
  | fuel + 1, listed, env, F, h, a, w, ha, hs => by
    refine ⟨fun h0 => h.1 h0 a w ha hs, fun i hi => ?_⟩
    obtain ⟨_, o, ho, _⟩ := mem_ready.1 hi
    unfold wpOpIn
    simp only [ho]
    have hx := h.2 i hi o ho a w (ha.ao ops o) hs
    have := Step.of_v (K := wpAnyIn (Fc r) 0 P .any ops Q fuel (listed.setIfInBounds i true)) (Q := Q) r P hx (fun u w' ⟨F', hs', hk⟩ => wa_sound hd fuel _ _ _ hk _ _ (ha.putE (hd i o ho) u) hs')
    unfold Step at this
    split
    · rename_i hw; rw [if_pos hw] at this; exact this
    · rename_i hw; rw [if_neg hw] at this; exact ⟨fun _ _ => trivial, this⟩

def EqE (e e' : Env) : Prop := ∀ t, look e t = look e' t
theorem EqE.putE {e e' : Env} (h : EqE e e') (dst : Option Tmp) (v : Value) : EqE (putE dst v e) (putE dst v e') := by
  cases dst with
  | none => exact h
  | some d => intro t; simp only [Sl.putE, look_cons]; split; rfl; exact h t
theorem putE_comm {x y : Option Tmp} (hxy : ∀ d, x = some d → y ≠ some d) (u v : Value) (e : Env) : EqE (putE x u (putE y v e)) (putE y v (putE x u e)) := by
  cases x with
  | none => intro t; rfl
  | some d => cases y with
    | none => intro t; rfl
    | some d' =>
      have hne : d ≠ d' := fun e => hxy d rfl (by rw [e])
      intro t
      simp only [putE, look_cons]
      by_cases h1 : d = t
      · subst h1; simp [Ne.symm hne]
      · by_cases h2 : d' = t <;> simp [h1, h2]
theorem AO.congr {o : Oper} {e e' : Env} {a : Act} (h : EqE e e') (x : AO ops o n ds e a) : AO ops o n ds e' a := ⟨x.size, x.defers, fun t ht v hv => x.val t ht v ((h t).trans hv)⟩
theorem AS.congr {e e' : Env} {a : Act} (h : EqE e e') (x : AS n ds e a) : AS n ds e' a := ⟨x.size, x.defers, fun t v hv => x.val t v ((h t).trans hv)⟩
theorem EqE.symm {e e' : Env} (h : EqE e e') : EqE e' e := fun t => (h t).symm
theorem wa_congr : ∀ (fuel : Nat) (listed : Array Bool) (e e' : Env) (F : List HP), EqE e e' → WA r P base n ds ops Q lc fuel listed e F → WA r P base n ds ops Q lc fuel listed e' F
  | 0, _, _, _, _, he, h => ⟨h.1, fun a w ha hs => h.2 a w (ha.congr he.symm) hs⟩
  | fuel + 1, _, _, _, _, he, h => ⟨fun h0 a w ha hs => h.1 h0 a w (ha.congr he.symm) hs, fun i hi o ho a w ha hs =>
      (h.2 i hi o ho a w (ha.congr he.symm) hs).mono r P fun u _ ⟨F', h1, h2⟩ => ⟨F', h1, wa_congr fuel _ _ _ _ (he.putE o.dst u) h2⟩⟩

theorem VStep.put {oi oj : Oper} {a : Act} {w : World} {v : Value} {R : Value → World → Prop} (hap : oi.apart ops oj = true) (hs : ∀ cs b, oj.op ≠ .select cs b) (h : VStep r P ops oj (a.put oi.dst v) w R) : VStep r P ops oj a w R := by
  obtain ⟨h1, _, _⟩ := Oper.apart_spec hap
  refine ⟨h.1, ?_⟩
  have h2 := h.2
  rw [wanted_put oj a oi.dst v h1, execOp_put oj hs a oi.dst v h1] at h2
  exact h2
theorem OpQ.put {oi oj : Oper} {env : Env} {u v : Value} (hap : oi.apart ops oj = true) (h : OpQ r P ops oi n ds env lc v) : OpQ r P ops oi n ds (putE oj.dst u env) lc v := fun b F a w ha hs => h b F a w ⟨ha.size, ha.defers, fun t ht x hx => ha.val t ht x (by
  obtain ⟨_, _, h3⟩ := Oper.apart_spec hap
  cases hdst : oj.dst with
  | none => exact hx
  | some d =>
    have : d ∉ oi.looksAt ops := h3 d hdst
    simp only [putE, look_cons]
    rw [if_neg (fun e : d = t => this (e ▸ ht))]; exact hx)⟩ hs

theorem wa_first {i : Nat} {oi : Oper} {v : Value} (hi : ops[i]? = some oi) (hsel : ∀ (j : Nat) (o : Oper) cs b, ops[j]? = some o → o.op ≠ .select cs b) (_hd : ∀ (i : Nat) (o : Oper), ops[i]? = some o → ∀ d, o.dst = some d → d < n) :
    ∀ (fuel : Nat) (listed : Array Bool) (env : Env) (F : List HP),
      (∀ j oj, ops[j]? = some oj → j ≠ i → listed.getD j true = false → (∀ e ∈ oj.after, Region.binds .any e = true → e.on ≠ i) → oi.apart ops oj = true) →
      i ∈ Region.ready .any ops listed → OpQ r P ops oi n ds env lc v →
      WA r P base n ds ops Q lc fuel (listed.setIfInBounds i true) (putE oi.dst v env) F → WA r P base n ds ops Q lc (fuel + 1) listed env F := by
  intro fuel
  have self : ∀ (fuel : Nat) (listed : Array Bool) (env : Env) (F : List HP), OpQ r P ops oi n ds env lc v → WA r P base n ds ops Q lc fuel (listed.setIfInBounds i true) (putE oi.dst v env) F →
      OpX r P base n ds ops lc oi env F (fun u F' => WA r P base n ds ops Q lc fuel (listed.setIfInBounds i true) (putE oi.dst u env) F') := fun fuel listed env F hq H a w ha hs =>
    (hq base F a w ha hs).mono r P fun u w' ⟨hu, hs'⟩ => ⟨F, hs', hu ▸ H⟩
  induction fuel with
  | zero =>
    intro listed env F _ hr hq H
    refine ⟨fun h => (by rw [h] at hr; cases hr), fun j hj oj hoj => ?_⟩
    by_cases hji : j = i
    · subst hji
      have : oj = oi := Option.some.inj (hoj.symm.trans hi)
      subst this; exact self 0 listed env F hq H
    · have := ready_mono hj hji
      rw [H.1] at this
      cases this
  | succ fuel ih =>
    intro listed env F hfree hr hq H
    refine ⟨fun h => (by rw [h] at hr; cases hr), fun j hj oj hoj => ?_⟩
    by_cases hji : j = i
    · subst hji
      have : oj = oi := Option.some.inj (hoj.symm.trans hi)
      subst this; exact self (fuel + 1) listed env F hq H
    · have h1 := H.2 j (ready_mono hj hji) oj hoj
      obtain ⟨hjun, oj', hoj', hall⟩ := mem_ready.1 hj
      have hjj : oj' = oj := Option.some.inj (hoj'.symm.trans hoj)
      subst hjj
      have hnot : ∀ e ∈ oj'.after, Region.binds .any e = true → e.on ≠ i := fun e he hb heq => by
        have h1 := hall e he hb
        have h0 := (mem_ready.1 hr).1
        rw [heq] at h1
        rcases Nat.lt_or_ge i listed.size with h' | h'
        · simp [h'] at h0 h1; rw [h0] at h1; cases h1
        · simp [Array.getElem?_eq_none h'] at h1
      have hap := hfree j oj' hoj hji hjun hnot
      have hfree' : ∀ k ok, ops[k]? = some ok → k ≠ i → (listed.setIfInBounds j true).getD k true = false →
          (∀ e ∈ ok.after, Region.binds .any e = true → e.on ≠ i) → oi.apart ops ok = true := fun k ok hk hki hun hno => by
        refine hfree k ok hk hki ?_ hno
        by_cases hjk : j = k
        · subst hjk; exact hjun
        · rw [getD_set_ne true hjk] at hun; exact hun
      intro a w ha hs
      obtain ⟨p1, p2, p3⟩ := Oper.apart_spec hap
      have ha' : AO ops oj' n ds (putE oi.dst v env) (a.put oi.dst v) := by
        refine ⟨by cases oi.dst <;> simp [Act.put, ha.size], by cases oi.dst <;> simp [Act.put, ha.defers], fun t ht x hx => ?_⟩
        cases hdst : oi.dst with
        | none => rw [hdst] at hx; exact ha.val t ht x hx
        | some d =>
          rw [hdst] at hx
          simp only [putE, look_cons] at hx
          have hne : d ≠ t := fun e => p1 d hdst (e ▸ ht)
          rw [if_neg hne] at hx
          have := ha.val t ht x hx
          simp only [Act.put, Array.getD_eq_getD_getElem?, Array.getElem?_setIfInBounds, if_neg hne] at this ⊢
          exact this
      refine ((h1 _ w ha' hs).put hap (fun cs b => hsel j oj' cs b hoj)).mono r P fun u w' ⟨F', hs', hk⟩ => ⟨F', hs', ?_⟩
      refine ih (listed.setIfInBounds j true) _ F' hfree' (ready_mono hr (Ne.symm hji)) (hq.put hap) ?_
      rw [Array.setIfInBounds_comm _ _ hji]
      exact wa_congr _ _ _ _ _ (putE_comm (fun d hd' he => p2 d he hd') u v env) hk

def dstB (ops : Array Oper) (n : Nat) : Bool := ops.all fun o => match o.dst with | some d => decide (d < n) | none => true
theorem dstB_spec (h : dstB ops n = true) : ∀ (i : Nat) (o : Oper), ops[i]? = some o → ∀ d, o.dst = some d → d < n := fun i o ho d hd => by
  have := Array.all_eq_true'.1 h o (Array.mem_of_getElem? ho)
  rw [hd] at this; simpa using this
def drawB (P : Program) (ops : Array Oper) (n : Nat) : Bool := P.follows .mixedOrders && Region.noSelect ops && dstB ops n
theorem tc_draw {id : Nat} {env : Env} {l : List HP} (lc F : List HP) (hB : drawB P ops n = true) (hl : Ent l (lc ++ F)) (h : WA r P base n ds ops Q lc ops.size (Array.replicate ops.size false) env F) : TC r P base n ds (.region id ops true) Q env l := fun a w ha hs => by
  simp only [drawB, Bool.and_eq_true] at hB
  exact wpIn_region_any hB.1.1 (wa_sound (dstB_spec hB.2) _ _ _ _ h a _ ha ((hs.drawn _).ent hl))
theorem wa_take {i fuel : Nat} {o : Oper} {v : Value} {listed listed' : Array Bool} {env : Env} {F : List HP} (hi : ops[i]? = some o) (hB : drawB P ops n = true) (hf : Region.free .any ops listed i = true) (hr : (Region.ready .any ops listed).contains i = true) (hl : listed.setIfInBounds i true = listed')
    (hq : OpQ r P ops o n ds env lc v) (h : WA r P base n ds ops Q lc fuel listed' (putE o.dst v env) F) : WA r P base n ds ops Q lc (fuel + 1) listed env F := by
  simp only [drawB, Bool.and_eq_true] at hB
  exact wa_first hi (Region.noSelect_spec hB.1.2) (dstB_spec hB.2) fuel listed env F (Region.free_spec hi hf) (by simpa using hr) hq (hl ▸ h)
theorem wa_one {α : Type} {i fuel : Nat} {o : Oper} {listed listed' : Array Bool} {env : Env} {F : List HP} {val : α → Value} {post : α → List HP} (hi : ops[i]? = some o) (hr : Region.ready .any ops listed = [i]) (hl : listed.setIfInBounds i true = listed')
    (hq : OpN r P ops o n ds env (lc ++ F) val (fun x => lc ++ post x)) (h : ∀ x, WA r P base n ds ops Q lc fuel listed' (putE o.dst (val x) env) (post x)) : WA r P base n ds ops Q lc (fuel + 1) listed env F := by
  refine ⟨fun h0 => (by rw [hr] at h0; cases h0), fun j hj oj hoj a w ha hs => ?_⟩
  rw [hr] at hj
  have hji : j = i := by simpa using hj
  subst hji
  have : oj = o := Option.some.inj (hoj.symm.trans hi)
  subst this
  exact (hq base a w ha hs).mono r P fun u w' ⟨x, hu, hs'⟩ => ⟨post x, hs', by rw [hu, hl]; exact h x⟩
theorem wa_done {listed : Array Bool} {env : Env} {F : List HP} {fuel : Nat} (hr : Region.ready .any ops listed = []) (h : TK base n ds (Q .normal) env (lc ++ F)) : WA r P base n ds ops Q lc fuel listed env F := by
  cases fuel with
  | zero => exact ⟨hr, h⟩
  | succ fuel => exact ⟨fun _ => h, fun i hi => by rw [hr] at hi; cases hi⟩

/-! ### All the region's operations leave all as it was: one walk in the order of the text -/
def TQ (r : Option Nat) (P : Program) (n : Nat) (ds : List Deferred) (all : Array Oper) (lc : List HP) : List Oper → Env → (Env → Prop) → Prop
  | [], env, K => K env
  | o :: rest, env, K => ∃ v, OpQ r P all o n ds env lc v ∧ TQ r P n ds all lc rest (putE o.dst v env) K
theorem wa_lex {K : Env → Prop} {F : List HP} (hB : drawB P ops n = true) : ∀ (l : List Oper) (k : Nat) (listed : Array Bool) (env : Env), (∀ j, l[j]? = ops[k + j]?) → Region.lexFrom .any ops l.length k listed = true → TQ r P n ds ops lc l env K →
    (∀ env, K env → TK base n ds (Q .normal) env (lc ++ F)) → WA r P base n ds ops Q lc l.length listed env F
  | [], k, listed, env, _, hx, h, hK => ⟨by simpa [Region.lexFrom] using hx, hK _ h⟩
  | o :: l, k, listed, env, hl, hx, h, hK => by
    have h0 : ops[k]? = some o := by simpa using (hl 0).symm
    simp only [List.length_cons, Region.lexFrom, Bool.and_eq_true] at hx
    obtain ⟨⟨hr, hf⟩, hx'⟩ := hx
    obtain ⟨v, hq, h'⟩ := h
    exact wa_take h0 hB hf hr rfl hq (wa_lex hB l (k + 1) _ _ (fun j => by have := hl (j + 1); simpa [Nat.add_assoc, Nat.add_comm 1 j] using this) hx' h' hK)
theorem tc_quiet {id : Nat} {env : Env} {l : List HP} (hB : drawB P ops n = true) (hx : Region.lexB .any ops = true) (h : TQ r P n ds ops l ops.toList env (fun env' => TK base n ds (Q .normal) env' l)) : TC r P base n ds (.region id ops true) Q env l := by
  simp only [Region.lexB, Bool.and_eq_true] at hx
  refine tc_draw l [] hB (by simpa using Ent.refl l) ?_
  have := wa_lex (r := r) (P := P) (base := base) (ds := ds) (Q := Q) (lc := l) (F := []) hB ops.toList 0 (Array.replicate ops.size false) env (by simp) (by simpa using hx.2) h (fun env h => by simpa using h)
  simpa using this
theorem tq_nil {all : Array Oper} {env : Env} {K : Env → Prop} {l : List HP} (h : K env) : TQ r P n ds all l [] env K := h
theorem tq_cons {all : Array Oper} {o : Oper} {rest : List Oper} {env : Env} {K : Env → Prop} {l : List HP} {v : Value} {d : Nat} (hq : OpQ r P all o n ds env l v) (hd : o.dst = some d) (h : TQ r P n ds all l rest ((d, v) :: env) K) : TQ r P n ds all l (o :: rest) env K :=
  ⟨v, hq, by rw [hd]; exact h⟩
end

section
variable {r : Option Nat} {P : Program} {base : World} {n : Nat} {ds : List Deferred} {Q : Exit → Act → World → Prop} {env env' : Env} {l l' rest : List HP} {all : Array Oper} {c : Code} {ro : List Oper} {K : Act → World → Prop}
/-! ### The same moves at code, at a list of operations, at an end -/
theorem TC.ent (s : Ent l l') (h : TC r P base n ds c Q env l') : TC r P base n ds c Q env l := TK.ent s h
theorem TL.ent (s : Ent l l') (h : TL r P base n ds all ro Q env l') : TL r P base n ds all ro Q env l := TK.ent s h
theorem TC.sub (s : Sub env env') (h : TC r P base n ds c Q env' l) : TC r P base n ds c Q env l := TK.sub s h
theorem TL.sub (s : Sub env env') (h : TL r P base n ds all ro Q env' l) : TL r P base n ds all ro Q env l := TK.sub s h
theorem TK.pick {x : HP} (s : Rem l x rest) (h : TK base n ds K env (x :: rest)) : TK base n ds K env l := TK.ent (fun _ => s.out) h
theorem TC.pick {x : HP} (s : Rem l x rest) (h : TC r P base n ds c Q env (x :: rest)) : TC r P base n ds c Q env l := TK.pick s h
theorem TL.pick {x : HP} (s : Rem l x rest) (h : TL r P base n ds all ro Q env (x :: rest)) : TL r P base n ds all ro Q env l := TK.pick s h
theorem TC.fact {p : Prop} (h : p → TC r P base n ds c Q env l) : TC r P base n ds c Q env (fact p :: l) := TK.fact h
theorem TL.fact {p : Prop} (h : p → TL r P base n ds all ro Q env l) : TL r P base n ds all ro Q env (fact p :: l) := TK.fact h
theorem TC.know {p : Prop} (s : ∀ h, lst l h → p) (h : p → TC r P base n ds c Q env l) : TC r P base n ds c Q env l := TK.know s h
theorem TL.know {p : Prop} (s : ∀ h, lst l h → p) (h : p → TL r P base n ds all ro Q env l) : TL r P base n ds all ro Q env l := TK.know s h
theorem TC.vecAt {E sz : Nat} {a : Option Addr} {k cap : Nat} {cs : List Value} (hr : Rem l (Vec E sz a k cap cs) rest) (hk : 0 < k) (h : (∃ b, a = some ⟨b, 0, none⟩) → TC r P base n ds c Q env l) : TC r P base n ds c Q env l := TK.vecAt hr hk h
theorem TL.vecAt {E sz : Nat} {a : Option Addr} {k cap : Nat} {cs : List Value} (hr : Rem l (Vec E sz a k cap cs) rest) (hk : 0 < k) (h : (∃ b, a = some ⟨b, 0, none⟩) → TL r P base n ds all ro Q env l) : TL r P base n ds all ro Q env l := TK.vecAt hr hk h
theorem TC.vecLen {E sz : Nat} {a : Option Addr} {k cap : Nat} {cs : List Value} (hr : Rem l (Vec E sz a k cap cs) rest) (h : cs.length = k * sz ∧ k ≤ cap → TC r P base n ds c Q env l) : TC r P base n ds c Q env l := TK.vecLen hr h
theorem TL.vecLen {E sz : Nat} {a : Option Addr} {k cap : Nat} {cs : List Value} (hr : Rem l (Vec E sz a k cap cs) rest) (h : cs.length = k * sz ∧ k ≤ cap → TL r P base n ds all ro Q env l) : TL r P base n ds all ro Q env l := TK.vecLen hr h
end
end Go.Sl

/- A region that draws its order: reads in whatever order, then the writes one after the other. For whatever program. -/
namespace Go.Sl
section
variable {r : Option Nat} {P : Program} {base : World} {n : Nat} {ds : List Deferred} {Q : Exit → Act → World → Prop} {ops : Array Oper} {l : List HP}

theorem OpQ.unput {oi oj : Oper} {env : Env} {u v : Value} (hap : oi.apart ops oj = true) (h : OpQ r P ops oj n ds (putE oi.dst u env) l v) : OpQ r P ops oj n ds env l v := fun b F a w ha hs => h b F a w ⟨ha.size, ha.defers, fun t ht x hx => ha.val t ht x (by
  obtain ⟨h1, _, _⟩ := Oper.apart_spec hap
  cases hdst : oi.dst with
  | none => rw [hdst] at hx; exact hx
  | some d =>
    have : d ∉ oj.looksAt ops := h1 d hdst
    rw [hdst] at hx
    simp only [putE, look_cons] at hx
    rw [if_neg (fun e : d = t => this (e ▸ ht))] at hx; exact hx)⟩ hs
theorem OpQ.congr {o : Oper} {e e' : Env} {v : Value} (he : EqE e e') (h : OpQ r P ops o n ds e l v) : OpQ r P ops o n ds e' l v := fun b F a w ha hs => h b F a w (ha.congr he.symm) hs

def QL (r : Option Nat) (P : Program) (n : Nat) (ds : List Deferred) (ops : Array Oper) (l : List HP) (k : Nat) (L : Array Bool → Env → Prop) : Nat → Array Bool → Env → Prop
  | 0, listed, env => L listed env
  | f + 1, listed, env => Region.ready .any ops listed ≠ [] ∧ ∀ i ∈ Region.ready .any ops listed, i < k ∧ ∀ o, ops[i]? = some o → ∃ v, OpQ r P ops o n ds env l v ∧ QL r P n ds ops l k L f (listed.setIfInBounds i true) (putE o.dst v env)
theorem ql_sound {k g : Nat} {L : Array Bool → Env → Prop} (hd : ∀ (i : Nat) (o : Oper), ops[i]? = some o → ∀ d, o.dst = some d → d < n)
    (hL : ∀ listed env, L listed env → ∀ a w, AS n ds env a → St base l w → wpAnyIn (Fc r) 0 P .any ops Q g listed a w) : ∀ (f : Nat) (listed : Array Bool) (env : Env), QL r P n ds ops l k L f listed env → ∀ a w, AS n ds env a → St base l w → wpAnyIn (Fc r) 0 P .any ops Q (f + g) listed a w
  | 0, listed, env, h, a, w, ha, hs => by rw [Nat.zero_add]; exact hL _ _ h a w ha hs
  | f + 1, listed, env, h, a, w, ha, hs => by
    rw [show f + 1 + g = (f + g) + 1 by omega]
    refine ⟨fun h0 => absurd h0 h.1, fun i hi => ?_⟩
    obtain ⟨_, o, ho, _⟩ := mem_ready.1 hi
    obtain ⟨v, hq, hk⟩ := (h.2 i hi).2 o ho
    unfold wpOpIn
    simp only [ho]
    have hx := hq base [] a w (ha.ao ops o) (by simpa using hs)
    have := Step.of_v (K := wpAnyIn (Fc r) 0 P .any ops Q (f + g) (listed.setIfInBounds i true)) (Q := Q) r P hx (fun u w' ⟨hu, hs'⟩ => by
      subst hu; exact ql_sound hd hL f _ _ hk _ _ (ha.putE (hd i o ho) _) (by simpa using hs'))
    unfold Step at this
    split
    · rename_i hw; rw [if_pos hw] at this; exact this
    · rename_i hw; rw [if_neg hw] at this; exact ⟨fun _ _ => trivial, this⟩
theorem ql_congr {k : Nat} {L : Array Bool → Env → Prop} (hL : ∀ listed e e', EqE e e' → L listed e → L listed e') : ∀ (f : Nat) (listed : Array Bool) (e e' : Env), EqE e e' → QL r P n ds ops l k L f listed e → QL r P n ds ops l k L f listed e'
  | 0, _, _, _, he, h => hL _ _ _ he h
  | f + 1, _, _, _, he, h => ⟨h.1, fun i hi => ⟨(h.2 i hi).1, fun o ho => let ⟨v, hq, hk⟩ := (h.2 i hi).2 o ho; ⟨v, hq.congr he, ql_congr hL f _ _ _ (he.putE o.dst v) hk⟩⟩⟩
theorem ql_first {k i : Nat} {oi : Oper} {v : Value} {L : Array Bool → Env → Prop} (hLc : ∀ listed e e', EqE e e' → L listed e → L listed e') (hi : ops[i]? = some oi)
    (hs : Region.sinkB .any ops k = true) (hc : Region.chainB .any ops k = true) (hn : k < ops.size) (hin : i < k)
    (hdone : ∀ listed e, L listed e → ∀ j ∈ Region.ready .any ops listed, k ≤ j) :
    ∀ (f : Nat) (listed : Array Bool) (env : Env), HeadInv .any ops k listed →
      (∀ j oj, ops[j]? = some oj → j ≠ i → listed.getD j true = false → (∀ e ∈ oj.after, Region.binds .any e = true → e.on ≠ i) → oi.apart ops oj = true) →
      i ∈ Region.ready .any ops listed → OpQ r P ops oi n ds env l v →
      QL r P n ds ops l k L f (listed.setIfInBounds i true) (putE oi.dst v env) → QL r P n ds ops l k L (f + 1) listed env := by
  intro f
  induction f with
  | zero =>
    intro listed env inv _ hr hq H
    have hun := (mem_ready.1 hr).1
    refine ⟨fun h => (by rw [h] at hr; cases hr), fun j hj => ?_⟩
    have hjn : j < k := by
      rcases Nat.lt_or_ge j k with h | h
      · exact h
      · exact absurd hj (tail_waits hs hc hn inv _ i rfl hin hun j h)
    refine ⟨hjn, fun oj hoj => ?_⟩
    by_cases hji : j = i
    · subst hji
      have : oj = oi := Option.some.inj (hoj.symm.trans hi)
      subst this; exact ⟨v, hq, H⟩
    · have := hdone _ _ H j (ready_mono hj hji)
      omega
  | succ f ih =>
    intro listed env inv hfree hr hq H
    have hun := (mem_ready.1 hr).1
    refine ⟨fun h => (by rw [h] at hr; cases hr), fun j hj => ?_⟩
    have hjn : j < k := by
      rcases Nat.lt_or_ge j k with h | h
      · exact h
      · exact absurd hj (tail_waits hs hc hn inv _ i rfl hin hun j h)
    refine ⟨hjn, fun oj hoj => ?_⟩
    by_cases hji : j = i
    · subst hji
      have : oj = oi := Option.some.inj (hoj.symm.trans hi)
      subst this; exact ⟨v, hq, H⟩
    · obtain ⟨u, hqj, H'⟩ := (H.2 j (ready_mono hj hji)).2 oj hoj
      obtain ⟨hjun, oj', hoj', hall⟩ := mem_ready.1 hj
      have hjj : oj' = oj := Option.some.inj (hoj'.symm.trans hoj)
      subst hjj
      have hnot : ∀ e ∈ oj'.after, Region.binds .any e = true → e.on ≠ i := fun e he hb heq => by
        have h1 := hall e he hb
        rw [heq, getD_both hun] at h1
        cases h1
      have hap := hfree j oj' hoj hji hjun hnot
      have hfree' : ∀ q ok, ops[q]? = some ok → q ≠ i → (listed.setIfInBounds j true).getD q true = false →
          (∀ e ∈ ok.after, Region.binds .any e = true → e.on ≠ i) → oi.apart ops ok = true := fun q ok hk hki hun hno => by
        refine hfree q ok hk hki ?_ hno
        by_cases hjk : j = q
        · subst hjk; exact hjun
        · rw [getD_set_ne true hjk] at hun; exact hun
      refine ⟨u, hqj.unput hap, ih (listed.setIfInBounds j true) _ (inv.set hj hjn) hfree' (ready_mono hr (Ne.symm hji)) (hq.put hap) ?_⟩
      rw [Array.setIfInBounds_comm _ _ hji]
      exact ql_congr hLc f _ _ _ (putE_comm (fun d hd' he => (Oper.apart_spec hap).2.1 d he hd') u v env) H'
theorem wl_seq : ∀ (lo : List Oper) (k : Nat) (listed : Array Bool) (a : Act) (w : World), (∀ j, lo[j]? = ops[k + j]?) → Region.seqB .any ops lo.length k listed = true → wl r P ops Q lo a w → wpAnyIn (Fc r) 0 P .any ops Q lo.length listed a w
  | [], _, _, _, _, _, hB, h => ⟨by simpa [Region.seqB] using hB, h⟩
  | o :: lo, k, listed, a, w, hl, hB, h => by
    have h0 : ops[k]? = some o := by simpa using (hl 0).symm
    simp only [List.length_cons, Region.seqB, Bool.and_eq_true, decide_eq_true_eq] at hB
    refine ⟨fun h1 => (by rw [hB.1] at h1; cases h1), fun i hi => ?_⟩
    rw [hB.1] at hi
    have hik : i = k := by simpa using hi
    subst hik
    have hw : wpOpIn (Fc r) 0 P ops Q i (wl r P ops Q lo) a w := by
      unfold wpOpIn
      simp only [h0]
      have h1 : Step r P ops o (wl r P ops Q lo) Q a w := h
      unfold Step at h1
      split
      · rename_i hx; rw [if_pos hx] at h1; exact h1
      · rename_i hx; rw [if_neg hx] at h1; exact ⟨fun _ _ => trivial, h1⟩
    exact wpOpIn_mono (fun a' w' h' => wl_seq lo (i + 1) _ a' w' (fun j => by have := hl (j + 1); simpa [Nat.add_assoc, Nat.add_comm 1 j] using this) hB.2 h') hw
theorem ql_lex {k g : Nat} {L : Env → Prop} (hLc : ∀ e e', EqE e e' → L e → L e') (hs : Region.sinkB .any ops k = true) (hc : Region.chainB .any ops k = true) (hn : k < ops.size) :
    ∀ (lo : List Oper) (q : Nat) (listed : Array Bool) (env : Env), (∀ j, j < lo.length → lo[j]? = ops[q + j]?) → q + lo.length = k → HeadInv .any ops k listed →
    Region.lexHead .any ops g lo.length q listed = true → TQ r P n ds ops l lo env L →
    QL r P n ds ops l k (fun listed' e => Region.seqB .any ops g k listed' = true ∧ L e) lo.length listed env
  | [], q, listed, env, _, hk, _, hB, h => by
    have : q = k := by simpa using hk
    subst this
    exact ⟨by simpa [Region.lexHead] using hB, h⟩
  | o :: lo, q, listed, env, hl, hk, inv, hB, h => by
    have h0 : ops[q]? = some o := by simpa using (hl 0 (by simp)).symm
    simp only [List.length_cons, Region.lexHead, Bool.and_eq_true] at hB
    obtain ⟨⟨hr, hf⟩, hB'⟩ := hB
    have hkn : q < k := by simp only [List.length_cons] at hk; omega
    have hr' : q ∈ Region.ready .any ops listed := by simpa using hr
    obtain ⟨v, hq, hK⟩ := h
    exact ql_first (fun _ _ _ he h => ⟨h.1, hLc _ _ he h.2⟩) h0 hs hc hn hkn (fun listed' a' hL => seqB_ready hL.1) lo.length listed env inv (Region.free_spec h0 hf) hr' hq
      (ql_lex hLc hs hc hn lo (q + 1) _ _ (fun j hj => by have := hl (j + 1) (by simp; omega); simpa [Nat.add_assoc, Nat.add_comm 1 j] using this) (by simp only [List.length_cons] at hk; omega) (inv.set hr' hkn) hB' hK)
theorem tc_tail {id : Nat} {lo : List Oper} {env : Env} (k : Nat) (hB : drawB P lo.toArray n = true) (hx : Region.lexTailB .any lo.toArray k = true)
    (h : TQ r P n ds lo.toArray l (lo.take k) env (fun env' => TL r P base n ds lo.toArray (lo.drop k) Q env' l)) : TC r P base n ds (.region id lo.toArray true) Q env l := fun a w ha hs => by
  simp only [drawB, Bool.and_eq_true] at hB
  simp only [Region.lexTailB, Bool.and_eq_true, decide_eq_true_eq] at hx
  obtain ⟨⟨⟨⟨_, hn⟩, hsk⟩, hc⟩, hlex⟩ := hx
  have hn' : k < lo.length := by simpa using hn
  have htl : (lo.take k).length = k := by simp; omega
  have hdl : (lo.drop k).length = lo.toArray.size - k := by simp
  have inv0 : HeadInv .any lo.toArray k (Array.replicate lo.toArray.size false) :=
    ⟨by simp, fun j oj _ hl => (by rw [getD_replicate_false] at hl; cases hl), fun t _ ht => getD_in (by simpa using ht) (getD_replicate_false _ _)⟩
  have H := ql_lex (r := r) (P := P) (n := n) (ds := ds) (l := l) (g := lo.toArray.size - k) (L := fun env' => TL r P base n ds lo.toArray (lo.drop k) Q env' l) (fun e e' he h a w ha hs => h a w (ha.congr he.symm) hs) hsk hc hn (lo.take k) 0 _ env (fun j hj => by
    have hj' : j < k := by rw [htl] at hj; exact hj
    simp [hj']) (by simpa using htl) inv0 (by rw [htl]; exact hlex) h
  refine wpIn_region_any hB.1.1 ?_
  have := ql_sound (base := base) (Q := Q) (g := lo.toArray.size - k) (dstB_spec hB.2) (fun listed env hL a w ha hs => by
    have := wl_seq (r := r) (P := P) (ops := lo.toArray) (Q := Q) (lo.drop k) k listed a w (fun j => by simp [List.getElem?_drop]) (by rw [hdl]; exact hL.1) (hL.2 a w ha hs)
    rwa [hdl] at this) _ _ _ H a { w with drawn := w.drawn + 1 } ha (hs.drawn _)
  rw [htl, show k + (lo.toArray.size - k) = lo.toArray.size by omega] at this
  exact this
end
end Go.Sl

/- A block of rows of one width: what a cell holds, what a store makes of it. Plain facts. -/
namespace Go.Sl

def rows (K : Nat) (f : Nat → List Value) : List Value := (List.range K).flatMap f
section
variable {sz K : Nat} {f g : Nat → List Value}
theorem rows_succ : rows (K + 1) f = rows K f ++ f K := by simp [rows, List.range_succ, List.flatMap_append]
theorem rows_length (hf : ∀ i, (f i).length = sz) : ∀ K, (rows K f).length = K * sz
  | 0 => by simp [rows]
  | K + 1 => by rw [rows_succ, List.length_append, rows_length hf K, hf, Nat.add_mul]; omega
theorem rows_get (hf : ∀ i, (f i).length = sz) {i j : Nat} (hj : j < sz) : ∀ {K}, i < K → (rows K f)[i * sz + j]? = (f i)[j]?
  | 0, h => by omega
  | K + 1, h => by
    rw [rows_succ]
    by_cases hi : i < K
    · have h1 : (i + 1) * sz ≤ K * sz := Nat.mul_le_mul_right _ hi
      rw [Nat.add_mul] at h1
      rw [List.getElem?_append_left (by rw [rows_length hf]; omega)]
      exact rows_get hf hj hi
    · have : i = K := by omega
      subst this
      rw [List.getElem?_append_right (by rw [rows_length hf]; omega), rows_length hf]
      congr 1; omega
theorem rows_get' (hf : ∀ i, (f i).length = sz) {q : Nat} (hq : q < K * sz) : (rows K f)[q]? = (f (q / sz))[q % sz]? := by
  have hpos : 0 < sz := by
    rcases Nat.eq_zero_or_pos sz with h | h
    · rw [h] at hq; simp at hq
    · exact h
  have h1 : q / sz < K := by rw [Nat.div_lt_iff_lt_mul hpos]; exact hq
  have h2 := rows_get (f := f) hf (Nat.mod_lt q hpos) h1
  have h3 : q / sz * sz + q % sz = q := by rw [Nat.mul_comm]; exact Nat.div_add_mod q sz
  rw [h3] at h2; exact h2
theorem rows_congr : ∀ {K}, (∀ i, i < K → f i = g i) → rows K f = rows K g
  | 0, _ => rfl
  | K + 1, h => by rw [rows_succ, rows_succ, rows_congr (fun i hi => h i (by omega)), h K (by omega)]
theorem rows_set (hf : ∀ i, (f i).length = sz) {i j : Nat} (hj : j < sz) (v : Value) : ∀ {K}, i < K → (rows K f).set (i * sz + j) v = rows K (fun k => if k = i then (f i).set j v else f k)
  | 0, h => by omega
  | K + 1, h => by
    rw [rows_succ, rows_succ]
    by_cases hi : i < K
    · have h1 : (i + 1) * sz ≤ K * sz := Nat.mul_le_mul_right _ hi
      rw [Nat.add_mul] at h1
      rw [List.set_append_left _ _ (by rw [rows_length hf]; omega), rows_set hf hj v hi, if_neg (by omega)]
    · have : i = K := by omega
      subst this
      rw [List.set_append_right _ _ (by rw [rows_length hf]; omega), rows_length hf, if_pos rfl]
      congr 1
      · exact rows_congr fun k hk => by rw [if_neg (by omega)]
      · congr 1; omega
theorem setL_over : ∀ (vs pre old post : List Value), old.length = vs.length → setL (pre ++ old ++ post) pre.length vs = pre ++ vs ++ post
  | [], pre, old, post, h => by
    have : old = [] := List.eq_nil_of_length_eq_zero (by simpa using h)
    subst this; rfl
  | v :: vs, pre, old, post, h => by
    match old, h with
    | o :: old, h =>
      have h1 : (pre ++ (o :: old) ++ post).set pre.length v = (pre ++ [v]) ++ old ++ post := by simp
      rw [setL, h1]
      have h2 := setL_over vs (pre ++ [v]) old post (by simpa using h)
      simp only [List.length_append, List.length_singleton] at h2
      rw [h2]; simp
theorem rows_setL (hf : ∀ i, (f i).length = sz) {i : Nat} {vs : List Value} (hv : vs.length = sz) : ∀ {K}, i < K → setL (rows K f) (i * sz) vs = rows K (fun k => if k = i then vs else f k)
  | 0, h => by omega
  | K + 1, h => by
    rw [rows_succ, rows_succ]
    by_cases hi : i < K
    · have h1 : (i + 1) * sz ≤ K * sz := Nat.mul_le_mul_right _ hi
      rw [Nat.add_mul] at h1
      rw [setL_append (by rw [rows_length hf]; omega), rows_setL hf hv hi, if_neg (by omega)]
    · have : i = K := by omega
      subst this
      have h2 := setL_over vs (rows i f) (f i) [] (by rw [hf, hv])
      rw [rows_length hf, List.append_nil, List.append_nil] at h2
      rw [h2, if_pos rfl]
      congr 1
      exact rows_congr fun k hk => by rw [if_neg (by omega)]
theorem rows_replicate (zs : List Value) : ∀ K, (List.replicate K zs).flatten = rows K (fun _ => zs)
  | 0 => rfl
  | K + 1 => by rw [rows_succ, ← rows_replicate zs K, List.replicate_succ', List.flatten_append]; simp
end

class FD (P : Program) (s : TypeId) (i : Nat) (off : outParam Nat) : Prop where
  out : ∀ (vs : List Value) (v : Value), vs[off]? = some v → ∀ w : World, (Instr.field s (.agg vs.toArray) i).run P w = .ok v w
theorem fd_mk {P : Program} {s i ft off : Nat} {fields : Array Field} (hu : P.underlying s = some (.struct fields)) (hf : (fields[i]?).map (fun f => (f.type, f.offset)) = some (ft, off)) [hn : NAgg P ft] : FD P s i off := ⟨fun vs v hv w => by
  cases h : fields[i]? with
  | none => rw [h] at hf; cases hf
  | some f =>
    rw [h] at hf
    simp only [Option.map_some, Option.some.injEq, Prod.mk.injEq] at hf
    obtain ⟨h1, h2⟩ := hf
    subst h2
    have h3 := hn.out w
    rw [← h1] at h3
    simp [Instr.field, run_underlying hu, h, asAgg, part, h3, hv]⟩
/-! ### Owned rows read and written -/
section
variable {r : Option Nat} {P : Program} {n : Nat} {ds : List Deferred} {env : Env} {lc l l' : List HP} {all : Array Oper}
variable {z : Value} {bytes : Nat} {dst : Option Tmp} {ty : TypeId} {pos : String} {af : Array Edge} {g : Option (Nat × Bool)}
theorem opn_storeVec' {t : TypeId} {x y : Operand} {b off E sz k cap size : Nat} {cs cs' vs : List Value} {v : Value} (hw : Want all ⟨dst, .store t x y, ty, pos, af, g⟩ env) (hx : ev env x = some (.pointer (some ⟨b, off, none⟩))) (hy : ev env y = some v) (hv : IsCells v vs) [hsz : TI P t z size bytes] (hvs : vs.length = size)
    (hr : Rep (Vec E sz (some ⟨b, 0, none⟩) k cap cs) (Vec E sz (some ⟨b, 0, none⟩) k cap cs') l l') (ho : off + vs.length ≤ cs.length) (hcs : setL cs off vs = cs') : OpN r P all ⟨dst, .store t x y, ty, pos, af, g⟩ n ds env l (fun _ : Unit => undef) (fun _ => l') := by
  subst hcs
  exact opn_storeVec hw hx hy hv hvs hr ho
theorem opn_storeObj {t : TypeId} {x y : Operand} {b off T size : Nat} {cs cs' vs : List Value} {v : Value} (hw : Want all ⟨dst, .store t x y, ty, pos, af, g⟩ env) (hx : ev env x = some (.pointer (some ⟨b, off, none⟩))) (hy : ev env y = some v) (hv : IsCells v vs) [hsz : TI P t z size bytes] (hvs : vs.length = size)
    (hr : Rep (obj b T cs) (obj b T cs') l l') (ho : Nat.ble (off + vs.length) cs.length = true) (hcs : setL cs off vs = cs') : OpN r P all ⟨dst, .store t x y, ty, pos, af, g⟩ n ds env l (fun _ : Unit => undef) (fun _ => l') :=
  opn_run hw (by simp) fun base a w ha hs => by
    subst hcs
    have h1 := ha.ev (x := x) (by simp [Op.operands]) hx
    have h2 := ha.ev (x := y) (by simp [Op.operands]) hy
    obtain ⟨i0, hi0, _, hsz', _⟩ := info_parts hsz.out
    obtain ⟨q, hq1, hq2⟩ := hr.rem
    have hblk := hs.block hq1
    obtain ⟨w', hst, e1, e2, e3, e4⟩ := run_storeCells_set (P := P) vs 0 off cs w hblk (by have := Nat.le_of_ble_eq_true ho; omega) hv.eq.2
    refine ⟨(), w', .inr ⟨rfl, ?_⟩, St.ent ?_ (fun _ y => hq2.back y)⟩
    · simp [execOp, h1, h2, Instr.storeAt, storeVar, Instr.sureAddr, hv.eq.1, sizeOf, typeInfo, hi0, hsz', hvs, hst]
    · have hset := hs.setBlock' hq1 w' e1 e2 e3 e4
      rw [Nat.add_zero] at hset
      exact hset
theorem opq_extract {x : Operand} {i : Nat} {vs : List Value} {v : Value} (hw : Want all ⟨dst, .extract x i, ty, pos, af, g⟩ env) (hx : ev env x = some (.tuple vs.toArray)) (hv : vs[i]? = some v) : OpQ r P all ⟨dst, .extract x i, ty, pos, af, g⟩ n ds env lc v :=
  opq_pure hw (by simp) fun a w ha => by
    have h1 := ha.ev (x := x) (by simp [Op.operands]) hx
    simp [execOp, h1, Instr.extract, hv]
theorem opq_field {s _e : TypeId} {x : Operand} {i off : Nat} {vs : List Value} {v : Value} (hw : Want all ⟨dst, .field s x i, ty, pos, af, g⟩ env) (hx : ev env x = some (.agg vs.toArray)) [hf : FD P s i off] (hv : vs[off]? = some v) : OpQ r P all ⟨dst, .field s x i, ty, pos, af, g⟩ n ds env lc v :=
  opq_pure hw (by simp) fun a w ha => by
    have h1 := ha.ev (x := x) (by simp [Op.operands]) hx
    have h2 := hf.out vs v hv w
    simp [execOp, h1, h2]
def places1 : Nat → Nat → List (Nat × Nat)
  | _, 0 => []
  | i, k + 1 => (i, 1) :: places1 (i + 1) k
def ixs1 : Nat → Nat → List Nat
  | _, 0 => []
  | i, k + 1 => i :: ixs1 (i + 1) k
theorem places1_get : ∀ (k i j : Nat), j < k → (places1 i k)[j]? = some (i + j, 1)
  | 0, i, j, h => by omega
  | k + 1, i, 0, h => by simp [places1]
  | k + 1, i, j + 1, h => by
    simp only [places1, List.getElem?_cons_succ]
    rw [places1_get k (i + 1) j (by omega)]
    congr 2; omega
theorem bld_all {k : Nat} : ∀ (vs pre zs : List Value), plains vs = true → zs.length = vs.length → pre.length + vs.length = k → bld (places1 0 k) ((ixs1 pre.length vs.length).zip vs) (pre ++ zs) = some (pre ++ vs)
  | [], pre, zs, _, hz, _ => by
    have : zs = [] := List.eq_nil_of_length_eq_zero (by simpa using hz)
    subst this; simp [bld]
  | v :: vs, pre, zs, hp, hz, hk => by
    match zs, hz with
    | z :: zs, hz =>
      simp only [plains, Bool.and_eq_true] at hp
      simp only [List.length_cons] at hk hz
      have h1 := places1_get k 0 pre.length (by omega)
      simp only [List.length_cons, ixs1, List.zip_cons_cons, bld, h1, Nat.zero_add, plain_cells hp.1]
      rw [if_neg (by simp)]
      have h2 := bld_all (k := k) vs (pre ++ [v]) zs hp.2 (by omega) (by simp; omega)
      have h3 : setL (pre ++ z :: zs) pre.length [v] = pre ++ [v] ++ zs := by simp [setL]
      simp only [List.length_append, List.length_singleton] at h2
      rw [h3, h2]; simp
theorem opq_build1 {t : TypeId} {parts : Array (Nat × Operand)} {vs zs : List Value} {places : List (Nat × Nat)} (hw : Want all ⟨dst, .build t parts, ty, pos, af, g⟩ env) [hb : BL P t places zs] (hx : Evs env (parts.toList.map (·.2)) vs) (hp : parts.toList.map (·.1) = ixs1 0 zs.length) (hpl : places = places1 0 zs.length) (hvl : vs.length = zs.length) (hp1 : plains vs = true) :
    OpQ r P all ⟨dst, .build t parts, ty, pos, af, g⟩ n ds env lc (.agg vs.toArray) := by
  have hz : parts = ((parts.toList.map (·.1)).zip (parts.toList.map (·.2))).toArray := by
    apply Array.ext'
    have : ∀ l : List (Nat × Operand), l = (l.map (·.1)).zip (l.map (·.2)) := by
      intro l
      induction l with
      | nil => rfl
      | cons x l ih => simp only [List.map_cons, List.zip_cons_cons]; rw [← ih]
    simpa using this parts.toList
  refine opq_build hw hz (by simp) hx ?_
  subst hpl
  rw [hp, ← hvl]
  have := bld_all (k := vs.length) vs [] zs hp1 hvl.symm (by simp)
  simpa using this
theorem opq_build0 {t : TypeId} {zs : List Value} {places : List (Nat × Nat)} (hw : Want all ⟨dst, .build t #[], ty, pos, af, g⟩ env) [hb : BL P t places zs] : OpQ r P all ⟨dst, .build t #[], ty, pos, af, g⟩ n ds env lc (.agg zs.toArray) :=
  opq_build (ixs := []) (xs := []) hw rfl rfl .nil rfl
def stillOp (o : Oper) : Bool :=
  match o.op with
  | .move _ | .assign _ | .pick .. | .load .. | .nilCheck _ | .binOp .. | .unOp .. | .convert .. | .fieldAddr .. | .field .. | .indexAddr .. | .index .. | .build .. | .extract .. | .slice .. | .makeFunc .. | .lookup .. => true
  | .call { callee := .builtin .len, .. } | .call { callee := .builtin .min, .. } | .call { callee := .builtin .max, .. } => true
  | _ => false
def stillB (P : Program) (ops : Array Oper) (n : Nat) : Bool := drawB P ops n && Region.lexB .any ops && ops.all stillOp
end
section
variable {r : Option Nat} {P : Program} {base : World} {n : Nat} {ds : List Deferred} {Q : Exit → Act → World → Prop} {env : Env} {l : List HP} {ops : Array Oper}
theorem tc_still {id : Nat} (hB : stillB P ops n = true) (h : TQ r P n ds ops l ops.toList env (fun env' => TK base n ds (Q .normal) env' l)) : TC r P base n ds (.region id ops true) Q env l := by
  simp only [stillB, Bool.and_eq_true] at hB
  exact tc_quiet hB.1.1 hB.1.2 h
end
/-! ### Operations that leave the shared assertions alone, taken first, many at a time -/
def takesB (ops : Array Oper) : List Nat → Array Bool → Bool
  | [], _ => true
  | i :: is, listed => Region.free .any ops listed i && (Region.ready .any ops listed).contains i && takesB ops is (listed.setIfInBounds i true)
def setAll : List Nat → Array Bool → Array Bool
  | [], listed => listed
  | i :: is, listed => setAll is (listed.setIfInBounds i true)
section
variable {r : Option Nat} {P : Program} {base : World} {n : Nat} {ds : List Deferred} {Q : Exit → Act → World → Prop} {lc F : List HP} {ops : Array Oper}
theorem wa_takes0 (hB : drawB P ops n = true) {fuel : Nat} : ∀ (is : List Nat) (los : List Oper) (listed : Array Bool) (env : Env), is.map (ops[·]?) = los.map some → takesB ops is listed = true →
    TQ r P n ds ops lc los env (fun env' => WA r P base n ds ops Q lc fuel (setAll is listed) env' F) → WA r P base n ds ops Q lc (los.length + fuel) listed env F
  | [], [], listed, env, _, _, h => by simpa [setAll, TQ] using h
  | [], o :: los, _, _, he, _, _ => by cases he
  | i :: is, [], _, _, he, _, _ => by cases he
  | i :: is, o :: los, listed, env, he, hx, h => by
    simp only [List.map_cons, List.cons.injEq] at he
    simp only [takesB, Bool.and_eq_true] at hx
    obtain ⟨v, hq, h'⟩ := h
    rw [List.length_cons, show los.length + 1 + fuel = (los.length + fuel) + 1 by omega]
    exact wa_take he.1 hB hx.1.1 hx.1.2 rfl hq (wa_takes0 hB is los _ _ he.2 hx.2 h')
inductive OpsAt (ops : Array Oper) : List Nat → List Oper → Prop
  | nil : OpsAt ops [] []
  | cons {i : Nat} {o : Oper} {is : List Nat} {los : List Oper} (h : ops[i]? = some o) (t : OpsAt ops is los) : OpsAt ops (i :: is) (o :: los)
theorem OpsAt.map {is : List Nat} {los : List Oper} (h : OpsAt ops is los) : is.map (ops[·]?) = los.map some := by
  induction h with
  | nil => rfl
  | cons h _ ih => simp only [List.map_cons, h, ih]
theorem wa_takes (is : List Nat) (fuel : Nat) {fuel0 : Nat} {los : List Oper} {listed : Array Bool} {env : Env} (hB : drawB P ops n = true) (he : OpsAt ops is los) (hf : fuel0 = los.length + fuel) (hx : takesB ops is listed = true)
    (h : TQ r P n ds ops lc los env (fun env' => WA r P base n ds ops Q lc fuel (setAll is listed) env' F)) : WA r P base n ds ops Q lc fuel0 listed env F := by
  subst hf; exact wa_takes0 hB is los listed env he.map hx h
theorem opn_makeSlice' {t e : TypeId} {x x' : Operand} {kx kx' : IntKind} {i i' : Int} (k : Nat) {z : Value} {size bytes : Nat} {zs cs : List Value} {l : List HP} {dst : Option Tmp} {ty : TypeId} {pos : String} {af : Array Edge} {g : Option (Nat × Bool)} {all : Array Oper} {env : Env} (hw : Want all ⟨dst, .makeSlice t x x', ty, pos, af, g⟩ env) (hx : ev env x = some (.int kx i)) (hx' : ev env x' = some (.int kx' i')) (hi : i = k) (hi' : i' = k) (hkk : kx' = kx) [hu : UL P t (.slice e)] [hti : TI P e z size bytes] (hz : IsCells z zs) (hlz : zs.length = size) (hb : k * bytes ≤ 140737488355328) (hk : k ≤ 9223372036854775807) (hsz : Nat.ble 1 size = true) (hcs : (List.replicate k zs).flatten = cs) :
    OpN r P all ⟨dst, .makeSlice t x x', ty, pos, af, g⟩ n ds env l (fun b : Nat => .slice (some ⟨b, 0, none⟩) k k) (fun b => Vec e size (some ⟨b, 0, none⟩) k k cs :: l) := by
  subst hi; subst hi'; subst hkk; subst hcs
  exact opn_makeSlice hw hx hx' hz hlz hb hk (Nat.le_of_ble_eq_true hsz)
theorem tc_cut {ι : Type} {c : Code} {env : Env} {l : List HP} (E : ι → Env) (L : ι → List HP) (hc : ∀ K, (∀ i env l, Sub env (E i) → Ent l (L i) → TK base n ds K env l) → TC r P base n ds c (Th K Q) env l) (hk : ∀ i, TK base n ds (Q .normal) (E i) (L i)) : TC r P base n ds c Q env l := by
  have h1 := hc (Q .normal) (fun i env l s e => TK.sub s (TK.ent e (hk i)))
  have h2 : Th (Q .normal) Q = Q := by
    funext e
    cases e <;> rfl
  rw [h2] at h1; exact h1
theorem Ent.vecNil {E sz : Nat} {l l' : List HP} (h : Ent l l') : Ent l (Vec E sz none 0 0 [] :: l') := fun _ x => lst_vec_nil (h _ x)
theorem fill_congr {pl pl' : Nat → Option (Nat × Nat)} : ∀ (parts : List (Nat × Value)) (cs : Array Value), (∀ q ∈ parts, pl q.1 = pl' q.1) → Instr.fill pl cs parts = Instr.fill pl' cs parts
  | [], _, _ => rfl
  | (i, v) :: rest, cs, h => by
    have h0 : pl i = pl' i := h (i, v) (by simp)
    simp only [Instr.fill, h0]
    cases pl' i with
    | none => rfl
    | some os =>
      obtain ⟨off, size⟩ := os
      simp only []
      split
      · rfl
      · exact fill_congr rest _ (fun q hq => h q (by simp [hq]))
theorem ixs1_lt : ∀ (k i j : Nat), j ∈ ixs1 i k → i ≤ j ∧ j < i + k
  | 0, i, j, h => by simp [ixs1] at h
  | k + 1, i, j, h => by
    simp only [ixs1, List.mem_cons] at h
    rcases h with rfl | h
    · omega
    · have := ixs1_lt k (i + 1) j h; omega
theorem opn_buildSlice1 {t e : TypeId} {k : Nat} {z : Value} {bytes : Nat} {parts : Array (Nat × Operand)} {vs : List Value} {l : List HP} {dst : Option Tmp} {ty : TypeId} {pos : String} {af : Array Edge} {g : Option (Nat × Bool)} {all : Array Oper} {env : Env} (hw : Want all ⟨dst, .buildSlice t k parts, ty, pos, af, g⟩ env) (hx : Evs env (parts.toList.map (·.2)) vs) (hp : parts.toList.map (·.1) = ixs1 0 k) (hvl : vs.length = k) (hp1 : plains vs = true) (hk : Nat.ble k 16777216 = true) [hu : UL P t (.slice e)] [hi : TI P e z 1 bytes] :
    OpN r P all ⟨dst, .buildSlice t k parts, ty, pos, af, g⟩ n ds env l (fun b : Nat => .slice (some ⟨b, 0, none⟩) k k) (fun b => Vec e 1 (some ⟨b, 0, none⟩) k k vs :: l) := by
  have hz : parts = ((parts.toList.map (·.1)).zip (parts.toList.map (·.2))).toArray := by
    apply Array.ext'
    have : ∀ l : List (Nat × Operand), l = (l.map (·.1)).zip (l.map (·.2)) := by
      intro l
      induction l with
      | nil => rfl
      | cons x l ih => simp only [List.map_cons, List.zip_cons_cons]; rw [← ih]
    simpa using this parts.toList
  refine opn_buildSlice (cs := vs) hw hz (by simp) hx (fun w => ?_) (by omega)
  obtain ⟨i0, hi0, hz0, hs0, _⟩ := info_parts hi.out
  rw [hp]
  have hk' := Nat.le_of_ble_eq_true hk
  have hsz : (sizeOf e).run P w = .ok 1 w := by simp [sizeOf, typeInfo, hi0, hs0]
  have hfill : ∀ cs : Array Value, cs.size = k → Instr.fill (fun i => some (i * 1, 1)) cs ((ixs1 0 k).zip vs) = some vs.toArray := by
    intro cs hcs
    rw [fill_congr (pl' := fun i => (places1 0 k)[i]?)]
    · have h1 := bld_all (k := k) vs [] cs.toList hp1 (by simp [hcs, hvl]) (by simp [hvl])
      simp only [List.length_nil, List.nil_append, hvl] at h1
      have := fill_bld (places := places1 0 k) _ _ _ h1
      simpa using this
    · intro q hq
      have h1 : q.1 ∈ ixs1 0 k := (List.of_mem_zip hq).1
      have h2 := (ixs1_lt k 0 q.1 h1).2
      rw [places1_get k 0 q.1 (by omega)]
      simp
  unfold Instr.buildSlice
  rw [Sem.run_bind, run_underlying hu.out]
  simp only [Result.andThen]
  rw [Sem.run_bind, hsz]
  simp only [Result.andThen, Nat.mul_one]
  rw [if_neg (by omega)]
  have hnew : ∀ o : Obj, (newObj o).run P w = .ok w.heap.size (w.alloc o) := fun _ => rfl
  by_cases hk0 : k = 0
  · subst hk0
    have hv : vs = [] := List.eq_nil_of_length_eq_zero hvl
    subst hv
    have h0 : ∀ f : Nat → Value, Array.map f (Array.range 0) = #[] := fun f => by apply Array.ext'; simp
    simp [Instr.fill, newRow, ixs1]
    exact congrArg (fun c => w.alloc (.cells c e)) (h0 _)
  · simp only [hk0, if_false]
    have hz1 : (zeroValue e).run P w = .ok z w := by simp [zeroValue, typeInfo, hi0, hz0]
    have hf := hfill ((Array.range k).map (z.cells[· % z.cells.size]!)) (by simp)
    simp only [Nat.mul_one] at hf
    simp [hz1, hf, newRow]
end
end Go.Sl

/- A range over a function: the iterator's contract, the loop's rule, functions that hold one. For whatever program. -/
namespace Go.Sl

def putsE : List Tmp → List Value → Env → Env
  | p :: ps, v :: vs, e => putsE ps vs ((p, v) :: e)
  | _, _, e => e
def putsT (ps : Array Tmp) (vs : Array Value) (tmps : Array Value) : Array Value := (ps.zip vs).foldl (fun tmps (t, a) => tmps.setIfInBounds t a) tmps
theorem puts_as {n : Nat} : ∀ (ps : List Tmp) (vs : List Value) (e : Env) (tmps : Array Value), (∀ p ∈ ps, p < n) → AS n [] e ⟨tmps, []⟩ → AS n [] (putsE ps vs e) ⟨(ps.zip vs).foldl (fun tmps (x : Tmp × Value) => tmps.setIfInBounds x.1 x.2) tmps, []⟩
  | [], _, e, tmps, _, h => by simpa [putsE] using h
  | p :: ps, [], e, tmps, _, h => by simpa [putsE] using h
  | p :: ps, v :: vs, e, tmps, hp, h => by
    simp only [List.zip_cons_cons, List.foldl_cons, putsE]
    exact puts_as ps vs _ _ (fun q hq => hp q (by simp [hq])) (h.put (hp p (by simp)) v)
theorem putsT_eq (ps : Array Tmp) (vs : List Value) (tmps : Array Value) : putsT ps vs.toArray tmps = (ps.toList.zip vs).foldl (fun tmps (x : Tmp × Value) => tmps.setIfInBounds x.1 x.2) tmps := by
  unfold putsT
  rw [← Array.foldl_toList]
  simp

def RoundH {α : Type} (P : Program) (lp : Nat) (rec : Loop) (args : List Value) (pre : List HP) (val : α → Bool) (post : α → List HP) : Prop :=
  ∀ (base : World) (F : HP) (w : World), St base (pre ++ [F]) w → RoundIn (Fc none) 0 P lp rec.fn (putsT rec.params args.toArray rec.tmps) rec.assign rec.body w fun e w' => ∃ x, e = .returned (.bool (val x)) ∧ St base (post x ++ [F]) w'
def doneL (rec : Loop) (c : Code) : Loop := { rec with state := .done, pending := some c }
def busyL (rec : Loop) : Loop := { rec with state := .busy }
def roundL (lp : Nat) (rec : Loop) (I : HP) (B : Code → HP) : Option Code → List HP
  | none => [blk lp (.loop rec), I]
  | some c => [blk lp (.loop (doneL rec c)), B c]
def iterL (lp : Nat) (rec : Loop) (I : HP) (B : Nat → Code → HP) : Option (Nat × Code) → List HP
  | none => [blk lp (.loop rec), I]
  | some x => [blk lp (.loop (doneL rec x.2)), B x.1 x.2]
def IterH (P : Program) (gf : FuncId) (captured : Array Value) (xs : List (List Value)) (own : List HP) : Prop :=
  ∀ (lp : Nat) (rec : Loop) (I : Nat → HP) (B : Nat → Code → HP), rec.state = .ready → rec.pending = none → (∀ a ∈ xs, a.length = rec.params.size) →
    (∀ i a, xs[i]? = some a → RoundH P lp rec a [blk lp (.loop rec), I i] (fun o : Option Code => o.isNone) (roundL lp rec (I (i + 1)) (B i))) →
    SpecH P gf (#[.func (.yield lp) #[] #[]] ++ captured) (blk lp (.loop rec) :: I 0 :: own) (fun _ : Option (Nat × Code) => .tuple #[]) (fun o => iterL lp rec (I xs.length) B o ++ own)

section
variable {r : Option Nat} {P : Program} {n : Nat} {ds : List Deferred} {env : Env} {l rest : List HP} {all : Array Oper} {base : World} {Q : Exit → Act → World → Prop}
variable {dst : Option Tmp} {ty : TypeId} {pos : String} {af : Array Edge} {g : Option (Nat × Bool)}

theorem opn_yield {α : Type} {lp : Nat} {rec : Loop} {x : Operand} {xs : List Operand} {ats : Array TypeId} {vs : List Value} {pre : List HP} {val : α → Bool} {post : α → List HP} (hs : RoundH P lp rec vs (blk lp (.loop rec) :: pre) val post)
    (hw : Want all ⟨dst, .call ⟨.value x, xs.toArray, ats⟩, ty, pos, af, g⟩ env) (hx : ev env x = some (.func (.yield lp) #[] #[])) (hxs : Evs env xs vs) (hl : vs.length = rec.params.size) (hp : Pick l (blk lp (.loop rec) :: pre) rest) :
    OpN r P all ⟨dst, .call ⟨.value x, xs.toArray, ats⟩, ty, pos, af, g⟩ n ds env l (fun y => .bool (val y)) (fun y => post y ++ rest) := fun base a w ha hst => by
  have h1 := ha.ev (x := x) (by simp [Op.operands, Call.operands]) hx
  have h2 := hxs.map ha (fun y hy => by simp [Op.operands, Call.operands, hy])
  refine ⟨by simp, ?_⟩
  have h3 : St base ((blk lp (.loop rec) :: pre) ++ [lst rest]) w := (St.ent hst (fun _ h => hp.out h)).ent (ent_fold _ _)
  have hb : w.heap[lp]? = some (.loop rec) := h3.block (.here _ _)
  have hrun : (execOp a.eval ⟨dst, .call ⟨.value x, xs.toArray, ats⟩, ty, pos, af, g⟩).run P w = .ok (.round lp rec.fn (putsT rec.params vs.toArray rec.tmps) rec.assign rec.body) w := by
    simp only [execOp, resolve, Sem.run_bind]
    simp [h1, h2, Deferred.ofValue, invoke, Instr.yield, Instr.getLoop, getObj, Sem.run, hb, hl, putsT]
  rw [if_pos (hw _ ha.val), hrun]
  exact (RoundIn.mono (hs base (lst rest) w h3) fun e w' ⟨y, he, hs'⟩ => ⟨.bool (val y), he, y, rfl, hs'.ent (ent_unfold _ _)⟩)

/-! ### A round from its body -/
def Rb (P : Program) (lp : Nat) (body : Code) (RR : Exit → Act → World → Prop) : Act → World → Prop := fun a w => ∃ w', (Instr.beginRound lp).run P w = .ok () w' ∧ body.wpIn (Fc (some lp)) 0 P RR a w'
def Rp (P : Program) (lp : Nat) (base : World) (F : HP) (post : Option Code → List HP) : Exit → Act → World → Prop := roundPost P lp (fun e w' => ∃ o : Option Code, e = .returned (.bool o.isNone) ∧ St base (post o ++ [F]) w')
theorem round_of {lp : Nat} {rec : Loop} {args : List Value} {pre : List HP} {post : Option Code → List HP} {e0 : Env} (hps : ∀ p ∈ rec.params.toList, p < n) (ha : AS n [] e0 ⟨rec.tmps, []⟩)
    (h : ∀ (base : World) (F : HP) (l0 : List HP), l0 = pre ++ [F] → TC (some lp) P base n [] rec.assign (Th (Rb P lp rec.body (Rp P lp base F post)) noQ) (putsE rec.params.toList args e0) l0) : RoundH P lp rec args pre (fun o : Option Code => o.isNone) post := fun base F w hw =>
  roundIn_of_wpIn (F := Fc none) (l := lp) trivial (h base F _ rfl _ _ (by rw [putsT_eq]; exact puts_as _ _ _ _ hps ha) hw)
theorem run_setLoop {lp : Nat} {rec rec' : Loop} {w : World} (hb : w.heap[lp]? = some (.loop rec)) : (setObj lp (.loop rec')).run P w = .ok () { w with heap := w.heap.setIfInBounds lp (.loop rec') } := by
  simp only [setObj, Sem.run, hb]
theorem St.setObj {lp : Nat} {o o' : Obj} {l' : List HP} {w : World} (h : St base l w) (hr : Rep (blk lp o) (blk lp o') l l') : St base l' { w with heap := w.heap.setIfInBounds lp o' } := by
  obtain ⟨q, hq, _⟩ := hr.rem
  have hb := h.block hq
  have hlt : lp < w.heap.size := (Array.getElem?_eq_some_iff.1 hb).1
  refine h.setBlock hr _ rfl rfl rfl (fun k => ?_)
  simp only [Array.getElem?_setIfInBounds]
  by_cases hk : k = lp
  · subst hk; simp [hlt]
  · have hk' : ¬ lp = k := fun e => hk e.symm
    simp [hk, hk']
theorem tk_rb {lp : Nat} {rec : Loop} {body : Code} {RR : Exit → Act → World → Prop} {l' : List HP} (hst : rec.state = .ready) (hr : Rep (blk lp (.loop rec)) (blk lp (.loop (busyL rec))) l l') (h : TC (some lp) P base n ds body RR env l') : TK base n ds (Rb P lp body RR) env l := fun a w ha hw => by
  obtain ⟨q, hq, _⟩ := hr.rem
  have hb := hw.block hq
  refine ⟨{ w with heap := w.heap.setIfInBounds lp (.loop (busyL rec)) }, ?_, h a _ ha (hw.setObj hr)⟩
  have h1 := run_setLoop (P := P) (rec' := busyL rec) hb
  simp only [busyL] at h1
  have h2 : (Instr.getLoop lp).run P w = .ok rec w := by simp [Instr.getLoop, getObj, Sem.run, hb]
  unfold Instr.beginRound
  rw [Sem.run_bind, h2]
  simp only [Result.andThen]
  rw [Sem.run_bind, h1]
  simp only [Result.andThen, hst, busyL]
  rfl
theorem run_endRound {lp : Nat} {rec : Loop} {w : World} (jump : Option Code) (hb : w.heap[lp]? = some (.loop (busyL rec))) : (Instr.endRound lp jump).run P w = .ok (.bool jump.isNone) { w with heap := w.heap.setIfInBounds lp (.loop { rec with state := if jump.isNone then .ready else .done, pending := jump }) } := by
  have h2 : (Instr.getLoop lp).run P w = .ok (busyL rec) w := by simp [Instr.getLoop, getObj, Sem.run, hb]
  have h1 := run_setLoop (P := P) (rec' := { rec with state := if jump.isNone then .ready else .done, pending := jump }) hb
  unfold Instr.endRound
  rw [Sem.run_bind, h2]
  simp only [Result.andThen, busyL]
  rw [Sem.run_bind, h1]
  simp only [Result.andThen]
  rfl
theorem tk_rp_n {lp : Nat} {rec : Loop} {F : HP} {post : Option Code → List HP} {l' : List HP} (hst : rec.state = .ready) (hpe : rec.pending = none) (hr : Rep (blk lp (.loop (busyL rec))) (blk lp (.loop rec)) l l') (he : Ent l' (post none ++ [F])) : TK base n ds (Rp P lp base F post .normal) env l := fun a w ha hw => by
  obtain ⟨q, hq, _⟩ := hr.rem
  have hb := hw.block hq
  have h1 := run_endRound (P := P) none hb
  have h2 : ({ rec with state := if (none : Option Code).isNone then .ready else .done, pending := none } : Loop) = rec := by cases rec; simp_all
  rw [h2] at h1
  exact ⟨_, _, h1, none, rfl, (hw.setObj hr).ent he⟩
theorem tk_rp_x {lp id : Nat} {rec : Loop} {F : HP} {post : Option Code → List HP} {l' : List HP} (hr : Rep (blk lp (.loop (busyL rec))) (blk lp (.loop (doneL rec (.exit id)))) l l') (he : Ent l' (post (some (.exit id)) ++ [F])) : TK base n ds (Rp P lp base F post (.exit id)) env l := fun a w ha hw => by
  obtain ⟨q, hq, _⟩ := hr.rem
  have hb := hw.block hq
  exact ⟨_, _, run_endRound (P := P) (some (.exit id)) hb, some (.exit id), rfl, (hw.setObj hr).ent he⟩

/-! ### The loop -/
def coll (rb : Nat) : Deferred := { target := .collected rb, args := #[] }
theorem run_endLoop {lp : Nat} {rec : Loop} {w : World} (hb : w.heap[lp]? = some (.loop rec)) (hst : rec.state ≠ .busy) : (Instr.endLoop lp).run P w = .ok rec.pending { w with heap := w.heap.setIfInBounds lp (.loop { rec with state := .exhausted }) } := by
  have h2 : (Instr.getLoop lp).run P w = .ok rec w := by simp [Instr.getLoop, getObj, Sem.run, hb]
  have h1 := run_setLoop (P := P) (rec' := { rec with state := .exhausted }) hb
  unfold Instr.endLoop
  rw [Sem.run_bind, h2]
  simp only [Result.andThen]
  have h3 : (rec.state == LoopState.busy) = false := by simpa using hst
  rw [h3]
  simp only [Bool.false_eq_true, if_false]
  rw [Sem.run_bind]
  simp only [pure, Sem.run, Result.andThen]
  rw [h1]
theorem tc_rangeFunc {f : Operand} {ps : Array Tmp} {assign body : Code} {gf : FuncId} {captured : Array Value} {xs : List (List Value)} {own R : List HP} (I : Nat → HP) (B : Nat → Code → HP) (hit : IterH P gf captured xs own) (hf : ev env f = some (.func (.func gf) #[] captured)) [CF P gf]
    (hps : ∀ p ∈ ps.toList, p < n) (hxs : ∀ a ∈ xs, a.length = ps.size) (hl : Ent l (I 0 :: own ++ R))
    (hround : ∀ (lp : Nat) (rec : Loop) (i : Nat) (a : List Value), rec.state = .ready → rec.pending = none → xs[i]? = some a → ∀ (base : World) (F : HP), TC (some lp) P base n [] assign (Th (Rb P lp body (Rp P lp base F (roundL lp rec (I (i + 1)) (B i)))) noQ) (putsE ps.toList a env) [blk lp (.loop rec), I i, F])
    (hdone : ∀ rb, TK base n (coll rb :: ds) (Q .normal) env (blk rb (.deferred (some [])) :: I xs.length :: own ++ R))
    (hstop : ∀ rb i c, TC none P base n (coll rb :: ds) c Q env (blk rb (.deferred (some [])) :: B i c :: own ++ R)) : TC none P base n ds (.rangeFunc f ps assign body) Q env l := fun a w ha hw => by
  refine wpIn_rangeFunc (F := Fc none) fun fn _ => ?_
  have hev := ha.ev hf
  let rec0 : Loop := { state := .ready, pending := none, fn, tmps := a.tmps, params := ps, assign, body, defers := w.heap.size }
  have hs1 := (hw.ent hl).alloc (.deferred (some []))
  have hs2 := hs1.alloc (.loop rec0)
  have hsz : (w.heap.push (Obj.deferred (some []))).size = w.heap.size + 1 := by simp
  let W : World := { w with heap := (w.heap.push (.deferred (some []))).push (.loop rec0) }
  refine ⟨w.heap.size + 1, [coll w.heap.size], W, { target := .fn (.func gf) captured, args := #[.func (.yield (w.heap.size + 1)) #[] #[]] }, W, gf, #[.func (.yield (w.heap.size + 1)) #[] #[]] ++ captured, W, ?_, ?_, fun _ _ => trivial, ?_, fun h => (by simp [Fc, Fence.wide] at h), ?_⟩
  · have e1 : (w.heap.push (Obj.deferred (some []))).size = w.heap.size + 1 := by simp
    unfold Instr.enterLoop
    show Sem.run P (do let r ← newObj (.deferred (some [])); let l ← newObj (.loop { state := .ready, pending := none, fn, tmps := a.tmps, params := ps, assign, body, defers := r }); pure (l, [coll r]) : Sem _) w = _
    show Result.ok ((w.heap.push (Obj.deferred (some []))).size, _) _ = _
    rw [e1]
  · simp [resolve, Act.eval] at hev ⊢
    rw [hev]
    simp [Deferred.ofValue]
  · exact (CF.out (P := P) (f := gf)) _ _
  · have hs3 : St base (blk (w.heap.size + 1) (.loop rec0) :: blk w.heap.size (.deferred (some [])) :: I 0 :: own ++ R) W := by rw [hsz] at hs2; exact hs2
    have hspec := hit (w.heap.size + 1) rec0 I B rfl rfl (fun a ha => hxs a ha) (fun i a' hi => by
      refine round_of (n := n) (e0 := env) hps ⟨ha.size, rfl, ha.val⟩ ?_
      intro base' F' l0 hl0
      subst hl0
      exact hround (w.heap.size + 1) rec0 i a' rfl rfl hi base' F')
    have hpick : Ent (blk (w.heap.size + 1) (.loop rec0) :: blk w.heap.size (.deferred (some [])) :: I 0 :: own ++ R) ((blk (w.heap.size + 1) (.loop rec0) :: I 0 :: own) ++ [lst (blk w.heap.size (.deferred (some [])) :: R)]) := by
      refine Ent.trans ?_ (ent_fold (blk (w.heap.size + 1) (.loop rec0) :: I 0 :: own) (blk w.heap.size (.deferred (some [])) :: R))
      intro h x
      refine lst_cons_mono (fun _ y => y) (fun _ y => ?_) x
      have y2 : lst (blk w.heap.size (.deferred (some [])) :: ((I 0 :: own) ++ R)) _ := y
      have y3 := sep_mono (fun _ z => z) (fun _ z => lst_unflat z) y2
      exact lst_flat (xs := I 0 :: own) (l := blk w.heap.size (.deferred (some [])) :: R) (sep_swap y3)
    have hcall := hspec base _ W (hs3.ent hpick)
    refine CallsIn.mono hcall ?_
    rintro e w' ⟨o, rfl, hs'⟩
    have hs4 := hs'.ent (ent_unfold (iterL (w.heap.size + 1) rec0 (I xs.length) B o ++ own) (blk w.heap.size (.deferred (some [])) :: R))
    cases o with
    | none =>
      have hb : w'.heap[w.heap.size + 1]? = some (.loop rec0) := hs4.block (.here _ _)
      refine ⟨none, _, run_endLoop hb (by simp [rec0]), ?_⟩
      have hs5 := hs4.setObj (o' := .loop { rec0 with state := .exhausted }) (.here _)
      refine hdone w.heap.size _ _ ⟨ha.size, by simp [ha.defers], ha.val⟩ (hs5.ent ?_)
      intro h x
      have x2 : lst ((I xs.length :: own) ++ (blk w.heap.size (.deferred (some [])) :: R)) h := lst_drop x
      have x3 := sep_swap (lst_unflat x2)
      exact sep_mono (fun _ z => z) (fun _ z => lst_flat z) x3
    | some ic =>
      obtain ⟨i, c⟩ := ic
      have hb : w'.heap[w.heap.size + 1]? = some (.loop (doneL rec0 c)) := hs4.block (.here _ _)
      refine ⟨some c, _, run_endLoop hb (by simp [doneL]), ?_⟩
      have hs5 := hs4.setObj (o' := .loop { doneL rec0 c with state := .exhausted }) (.here _)
      refine hstop w.heap.size i c _ _ ⟨ha.size, by simp [ha.defers], ha.val⟩ (hs5.ent ?_)
      intro h x
      have x2 : lst ((B i c :: own) ++ (blk w.heap.size (.deferred (some [])) :: R)) h := lst_drop x
      have x3 := sep_swap (lst_unflat x2)
      exact sep_mono (fun _ z => z) (fun _ z => lst_flat z) x3
end
end Go.Sl

/- Functions that hold a range over a function: their ends. For whatever program. -/
namespace Go.Sl
section
variable {P : Program} {n : Nat} {ds : List Deferred} {env : Env} {l l' : List HP} {base : World} {α : Type} {val : α → Value} {post : α → List HP} {F : HP} {fn : Func}

def fnPostM {α : Type} (P : Program) (base : World) (fn : Func) (val : α → Value) (post : α → List HP) (F : HP) : Exit → Act → World → Prop := bodyPostM (Fc none) 0 P fn (fun e w' => ∃ x, e = .returned (val x) ∧ St base (post x ++ [F]) w')
theorem spec_of_m {f : FuncId} {c : Code} {vs : List Value} {pre : List HP} {k : Nat} (hf : P.funcs[f]? = some fn) (hb : fn.body = some c) (hn : fn.ntmps = k) (hk' : Nat.ble vs.length k = true) (env0 : Env) (he : zipEnv 0 vs = env0)
    (h : ∀ (base : World) (F : HP) (l0 : List HP), l0 = pre ++ [F] → TC none P base k [] c (fnPostM P base fn val post F) env0 l0) : SpecH P f vs.toArray pre val post := fun base F w hw => by
  have hk : vs.length ≤ k := Nat.le_of_ble_eq_true hk'
  refine callsIn_of_wp_marks hf hb trivial ?_
  refine h base F _ rfl _ _ ⟨?_, rfl, ?_⟩ hw
  · simp [hn]; omega
  · intro t v hv
    rw [← he] at hv
    obtain ⟨_, h1⟩ := look_zip vs 0 t v hv
    simp only [Nat.sub_zero] at h1
    have ht : t < vs.length := (List.getElem?_eq_some_iff.1 h1).1
    have h2 : vs[t] = v := by rw [List.getElem?_eq_getElem ht] at h1; exact Option.some.inj h1
    simp [Array.getD_eq_getD_getElem?, Array.getElem?_append, ht, h2]
inductive Colls : List Deferred → List HP → List HP → Prop
  | nil (l : List HP) : Colls [] l l
  | cons {rb : Nat} {ds : List Deferred} {l l1 l2 : List HP} (h : Rem l (blk rb (.deferred (some []))) l1) (k : Colls ds l1 l2) : Colls (coll rb :: ds) l l2
theorem leaves_colls {tmps : Array Value} {R : Ending → World → Prop} (hc : Colls ds l l') : ∀ {w : World}, St base l w → (∀ w', St base l' w' → LeavesInM (Fc none) 0 P fn tmps R [] .returning w') → LeavesInM (Fc none) 0 P fn tmps R ds .returning w := by
  induction hc with
  | nil l => exact fun hw h => h _ hw
  | @cons rb ds l l1 l2 hr _ ih =>
    intro w hw h
    have hb := hw.block hr
    refine ⟨by simp, .inl ⟨rb, { w with heap := w.heap.setIfInBounds rb (.deferred none) }, rfl, ?_, ?_⟩⟩
    · unfold Instr.takeDeferred
      have h1 : (getObj rb).run P w = .ok (.deferred (some [])) w := by simp [getObj, Sem.run, hb]
      rw [Sem.run_bind, h1]
      simp only [Result.andThen]
      have h2 : (setObj rb (.deferred none)).run P w = .ok () { w with heap := w.heap.setIfInBounds rb (.deferred none) } := by simp only [setObj, Sem.run, hb]
      rw [Sem.run_bind, h2]
      rfl
    · refine ih ?_ h
      have h3 : St base (blk rb (.deferred (some [])) :: l1) w := hw.ent (fun _ => hr.out)
      exact (h3.setObj (o' := .deferred none) (.here _)).ent (Ent.drop (Ent.refl _))
theorem tk_retm1 {r1 : ResultVar} {v1 : Value} (hres : fn.results = #[r1]) (hc : Colls ds l l') (h1 : Res P l' env r1 v1) (x : α) (hx : v1 = val x) (he : Ent l' (post x ++ [F])) : TK base n ds (fnPostM P base fn val post F .ret) env l := fun a w ha hs => by
  show LeavesInM (Fc none) 0 P fn a.tmps _ a.defers .returning w
  rw [ha.defers]
  refine leaves_colls hc hs fun w' hw' => ?_
  have hr := h1.run (a := a) ha hw'
  exact ⟨v1, by simp [results_eq, hres, hr], x, by rw [hx], hw'.ent he⟩
end
section
variable {r : Option Nat} {P : Program} {n : Nat} {ds : List Deferred} {env : Env} {l rest : List HP} {base : World} {Q : Exit → Act → World → Prop} {all : Array Oper} {ro : List Oper}
theorem tl_yield {α : Type} {lp : Nat} {rec : Loop} {x : Operand} {xs : List Operand} {ats : Array TypeId} {vs : List Value} {pre : List HP} {val : α → Bool} {post : α → List HP} {dst : Option Tmp} {ty : TypeId} {pos : String} {af : Array Edge} {g : Option (Nat × Bool)} {d : Nat} (hs : RoundH P lp rec vs (blk lp (.loop rec) :: pre) val post)
    (hw : Want all ⟨dst, .call ⟨.value x, xs.toArray, ats⟩, ty, pos, af, g⟩ env) (hx : ev env x = some (.func (.yield lp) #[] #[])) (hxs : Evs env xs vs) (hl : vs.length = rec.params.size) (hp : Pick l (blk lp (.loop rec) :: pre) rest) (hd : dst = some d) (hn : d < n)
    (h : ∀ o l2, l2 = post o ++ rest → TL r P base n ds all ro Q ((d, .bool (val o)) :: env) l2) : TL r P base n ds all (⟨dst, .call ⟨.value x, xs.toArray, ats⟩, ty, pos, af, g⟩ :: ro) Q env l := tl_n (opn_yield hs hw hx hxs hl hp) hd hn (fun o => h o _ rfl)
theorem Src.cons {sz : Nat} {a : Option Addr} {m : Nat} {cs : List Value} (x : HP) (h : Src l sz a m cs) : Src (x :: l) sz a m cs := by
  cases h with
  | nil => exact .nil
  | zero ad => exact .zero ad
  | lies hr hl => exact .lies (fun h hx => hr h (lst_drop hx)) hl
theorem opq_makeFunc {fn : Fn} {xs ys : List Operand} {vs us : List Value} {lc : List HP} {dst : Option Tmp} {ty : TypeId} {pos : String} {af : Array Edge} {g : Option (Nat × Bool)} (hw : Want all ⟨dst, .makeFunc fn xs.toArray ys.toArray, ty, pos, af, g⟩ env) (hx : Evs env xs vs) (hy : Evs env ys us) : OpQ r P all ⟨dst, .makeFunc fn xs.toArray ys.toArray, ty, pos, af, g⟩ n ds env lc (.func fn vs.toArray us.toArray) :=
  opq_pure hw (by simp) fun a w ha => by
    have h1 := hx.map ha (fun y hy => by simp [Op.operands, hy])
    have h2 := hy.map ha (fun y hy => by simp [Op.operands, hy])
    simp [execOp, Instr.makeFunc, h1, h2]
theorem opn_appendN {t e : TypeId} {x y : Operand} {a2 : Option Addr} {m c2 size bytes : Nat} {z : Value} {zs cs2 : List Value} {dst : Option Tmp} {ty : TypeId} {pos : String} {af : Array Edge} {g : Option (Nat × Bool)} (hw : Want all ⟨dst, .call ⟨.builtin .append, #[x, y], #[t, t]⟩, ty, pos, af, g⟩ env)
    (hx : ev env x = some (.slice none 0 0)) (hy : ev env y = some (.slice a2 m c2)) [hu : UL P t (.slice e)] [hi : TI P e z size bytes] (hsrc : Src l size a2 m cs2) (hp : ∀ v ∈ cs2, plain v = true)
    (hz : IsCells z zs) (hlz : zs.length = size) (hb : m * bytes ≤ 140737488355328) (hk : m ≤ 9223372036854775807) :
    OpN r P all ⟨dst, .call ⟨.builtin .append, #[x, y], #[t, t]⟩, ty, pos, af, g⟩ n ds env l (fun q : Option Addr × Nat => .slice q.1 m q.2) (fun q => Vec e size q.1 m q.2 cs2 :: l) := fun base a w ha hs => by
  have h1 := opn_append (r := r) (P := P) (n := n) (ds := ds) (k := 0) (cap := 0) (cs := []) (r1 := l) hw hx hy (.here _ _) (hsrc.cons (Vec e size none 0 0 [])) hp hz hlz (by simpa using hb) (by simpa using hk) base a w ha (hs.ent (Ent.vecNil (Ent.refl l)))
  refine h1.mono r P fun u w' ⟨q, hu', hs'⟩ => ⟨q, by rw [hu', Nat.zero_add], by rw [Nat.zero_add, List.nil_append] at hs'; exact hs'⟩
end
end Go.Sl

/- More operations: an element of an array, a part of a slice; slices that will never change. For whatever program. -/
namespace Go.Sl
section
variable {r : Option Nat} {P : Program} {n : Nat} {ds : List Deferred} {env : Env} {lc l l' : List HP} {all : Array Oper}
variable {dst : Option Tmp} {ty : TypeId} {pos : String} {af : Array Edge} {g : Option (Nat × Bool)}
theorem OpN.ent {α : Type} {o : Oper} {val : α → Value} {post post' : α → List HP} (h : OpN r P all o n ds env l val post) (he : ∀ x, Ent (post x) (post' x)) : OpN r P all o n ds env l val post' := fun base a w ha hs =>
  (h base a w ha hs).mono r P fun _ _ ⟨x, hu, hs'⟩ => ⟨x, hu, hs'.ent (he x)⟩
theorem opq_index {t e : TypeId} {x y : Operand} {len : Nat} {k : IntKind} {i : Int} {vs : List Value} {v z : Value} {bytes : Nat} (hw : Want all ⟨dst, .index t x y, ty, pos, af, g⟩ env) (hx : ev env x = some (.agg vs.toArray)) (hy : ev env y = some (.int k i)) [hu : UL P t (.array len e)] [hi : TI P e z 1 bytes] [hn : NAgg P e] (h0 : 0 ≤ i) (h1 : i < len) (hv : vs[i.toNat]? = some v) :
    OpQ r P all ⟨dst, .index t x y, ty, pos, af, g⟩ n ds env lc v :=
  opq_pure hw (by simp) fun a w ha => by
    have e1 := ha.ev (x := x) (by simp [Op.operands]) hx
    have e2 := ha.ev (x := y) (by simp [Op.operands]) hy
    obtain ⟨i0, hi0, _, hs, _⟩ := info_parts hi.out
    have hsz : (sizeOf e).run P w = .ok 1 w := by simp [sizeOf, typeInfo, hi0, hs]
    simp [execOp, e1, e2, Instr.index, asIntOf, run_underlying hu.out, h0, h1, hsz, part, hn.out w, hv]
theorem opq_buildA {t e : TypeId} {k size bytes bytes' : Nat} {z : Value} {parts : Array (Nat × Operand)} {vs zs : List Value} (hw : Want all ⟨dst, .build t parts, ty, pos, af, g⟩ env) [hu : UL P t (.array k e)] [hi : TI P e z 1 bytes] [ht : TI P t (.agg zs.toArray) size bytes'] (hx : Evs env (parts.toList.map (·.2)) vs) (hp : parts.toList.map (·.1) = ixs1 0 k) (hvl : vs.length = k) (hzl : zs.length = k) (hp1 : plains vs = true) :
    OpQ r P all ⟨dst, .build t parts, ty, pos, af, g⟩ n ds env lc (.agg vs.toArray) := by
  have hz : parts = ((parts.toList.map (·.1)).zip (parts.toList.map (·.2))).toArray := by
    apply Array.ext'
    have : ∀ l : List (Nat × Operand), l = (l.map (·.1)).zip (l.map (·.2)) := by
      intro l
      induction l with
      | nil => rfl
      | cons x l ih => simp only [List.map_cons, List.zip_cons_cons]; rw [← ih]
    simpa using this parts.toList
  generalize hxs : parts.toList.map (·.2) = xs at hz hx
  have hlen : (parts.toList.map (·.1)).length = xs.length := by rw [← hxs]; simp
  rw [hp] at hz hlen
  subst hz
  refine opq_pure hw (by simp) fun a w ha => ?_
  have h1 := hx.map ha (fun x hx' => by
    simp only [Op.operands]
    rw [List.map_snd_zip (by omega)]; exact hx')
  have h2 : (((ixs1 0 k).zip xs).toArray.map fun (i, x) => (i, a.eval x)) = ((ixs1 0 k).zip vs).toArray := by
    rw [← h1]
    simp only [List.map_toArray]
    congr 1
    clear h1 hx hw ha hxs hvl hp hp1
    generalize ixs1 0 k = ixs at hlen ⊢
    induction ixs generalizing xs with
    | nil => simp
    | cons i ixs ih => cases xs with
      | nil => simp
      | cons x xs => simp only [List.zip_cons_cons, List.map_cons]; rw [ih]; simpa using hlen
  obtain ⟨i0, hi0, _, hs0, _⟩ := info_parts hi.out
  obtain ⟨i1, hi1, hz1, _, _⟩ := info_parts ht.out
  have hsz : (sizeOf e).run P w = .ok 1 w := by simp [sizeOf, typeInfo, hi0, hs0]
  have hzr : (zeroValue t).run P w = .ok (.agg zs.toArray) w := by simp [zeroValue, typeInfo, hi1, hz1]
  have hfill : Instr.fill (fun i => some (i * 1, 1)) zs.toArray ((ixs1 0 k).zip vs) = some vs.toArray := by
    rw [fill_congr (pl' := fun i => (places1 0 k)[i]?)]
    · have h1 := bld_all (k := k) vs [] zs hp1 (by omega) (by simp [hvl])
      simp only [List.length_nil, List.nil_append, hvl] at h1
      have := fill_bld (places := places1 0 k) _ _ _ h1
      simpa using this
    · intro q hq
      have h1 : q.1 ∈ ixs1 0 k := (List.of_mem_zip hq).1
      have h2 := (ixs1_lt k 0 q.1 h1).2
      rw [places1_get k 0 q.1 (by omega)]
      simp
  have hb : (Instr.build t ((ixs1 0 k).zip vs).toArray).run P w = .ok (.agg vs.toArray) w := by
    unfold Instr.build
    rw [Sem.run_bind, hzr]
    simp only [Result.andThen]
    rw [Sem.run_bind, run_underlying hu.out]
    simp only [Result.andThen]
    rw [Sem.run_bind, hsz]
    simp only [Result.andThen, Value.cells, hfill]
    rfl
  simp [execOp, h2, hb]

def slA (a : Option Addr) (cap i size : Nat) : Option Addr := if cap = i then a else a.map (·.add (i * size))
theorem run_sliceBound {k : IntKind} {i : Int} {y : Nat} {c : BoundsCode} {w : World} (h0 : 0 ≤ i) (h1 : i ≤ y) : (Instr.sliceBound (.int k i) y c).run P w = .ok i.toNat w := by
  simp [Instr.sliceBound, asIntOf, h0, h1]
theorem opq_sliceLo {t e : TypeId} {x y : Operand} {a : Option Addr} {len cap size bytes : Nat} {k : IntKind} {i : Int} {z : Value} (hw : Want all ⟨dst, .slice t x (some y) none none, ty, pos, af, g⟩ env) (hx : ev env x = some (.slice a len cap)) (hy : ev env y = some (.int k i)) [hu : UL P t (.slice e)] [hi : TI P e z size bytes] (h0 : 0 ≤ i) (h1 : i ≤ len) :
    OpQ r P all ⟨dst, .slice t x (some y) none none, ty, pos, af, g⟩ n ds env lc (.slice (slA a cap i.toNat size) (len - i.toNat) (cap - i.toNat)) :=
  opq_pure hw (by simp) fun ac w ha => by
    have e1 := ha.ev (x := x) (by simp [Op.operands]) hx
    have e2 := ha.ev (x := y) (by simp [Op.operands]) hy
    obtain ⟨i0, hi0, _, hs, _⟩ := info_parts hi.out
    have hsz : (sizeOf e).run P w = .ok size w := by simp [sizeOf, typeInfo, hi0, hs]
    simp [execOp, e1, e2, Instr.sliceAt, Instr.slice, Instr.sliceBounds, run_underlying hu.out, hsz, run_sliceBound h0 h1, slA]
theorem opq_sliceHi {t e : TypeId} {x y : Operand} {a : Option Addr} {len cap size bytes : Nat} {k : IntKind} {j : Int} {z : Value} (hw : Want all ⟨dst, .slice t x none (some y) none, ty, pos, af, g⟩ env) (hx : ev env x = some (.slice a len cap)) (hy : ev env y = some (.int k j)) [hu : UL P t (.slice e)] [hi : TI P e z size bytes] (h0 : 0 ≤ j) (h1 : j ≤ cap) :
    OpQ r P all ⟨dst, .slice t x none (some y) none, ty, pos, af, g⟩ n ds env lc (.slice (slA a cap 0 size) j.toNat cap) :=
  opq_pure hw (by simp) fun ac w ha => by
    have e1 := ha.ev (x := x) (by simp [Op.operands]) hx
    have e2 := ha.ev (x := y) (by simp [Op.operands]) hy
    obtain ⟨i0, hi0, _, hs, _⟩ := info_parts hi.out
    have hsz : (sizeOf e).run P w = .ok size w := by simp [sizeOf, typeInfo, hi0, hs]
    simp [execOp, e1, e2, Instr.sliceAt, Instr.slice, Instr.sliceBounds, run_underlying hu.out, hsz, run_sliceBound h0 h1, slA]
theorem opq_sliceLH {t e : TypeId} {x y y2 : Operand} {a : Option Addr} {len cap size bytes : Nat} {k k2 : IntKind} {i j : Int} {z : Value} (hw : Want all ⟨dst, .slice t x (some y) (some y2) none, ty, pos, af, g⟩ env) (hx : ev env x = some (.slice a len cap)) (hy : ev env y = some (.int k i)) (hy2 : ev env y2 = some (.int k2 j)) [hu : UL P t (.slice e)] [hi : TI P e z size bytes] (h0 : 0 ≤ i) (h1 : i ≤ j) (h2 : j ≤ cap) :
    OpQ r P all ⟨dst, .slice t x (some y) (some y2) none, ty, pos, af, g⟩ n ds env lc (.slice (slA a cap i.toNat size) (j.toNat - i.toNat) (cap - i.toNat)) :=
  opq_pure hw (by simp) fun ac w ha => by
    have e1 := ha.ev (x := x) (by simp [Op.operands]) hx
    have e2 := ha.ev (x := y) (by simp [Op.operands]) hy
    have e3 := ha.ev (x := y2) (by simp [Op.operands]) hy2
    obtain ⟨i0, hi0, _, hs, _⟩ := info_parts hi.out
    have hsz : (sizeOf e).run P w = .ok size w := by simp [sizeOf, typeInfo, hi0, hs]
    have h3 : i ≤ (j.toNat : Int) := by omega
    simp [execOp, e1, e2, e3, Instr.sliceAt, Instr.slice, Instr.sliceBounds, run_underlying hu.out, hsz, run_sliceBound (Int.le_trans h0 h1) h2, run_sliceBound h0 h3, slA]
/-! ### Parts of what can be read -/
theorem Rd.drop {a : Addr} {cs : List Value} (h : Rd l a cs) (i : Nat) : Rd l (a.add i) (cs.drop i) := fun x hx => by
  obtain ⟨h1, h2⟩ := h x hx
  have h3 : Addr.add a i = ⟨a.block, a.off + i, none⟩ := by unfold Addr.add; cases a; simp at h1; subst h1; simp
  rw [h3]
  refine ⟨rfl, fun j v hj => ?_⟩
  rw [List.getElem?_drop] at hj
  obtain ⟨c, T, fr, e1, e2⟩ := h2 (i + j) v hj
  exact ⟨c, T, fr, e1, by rw [Nat.add_assoc]; exact e2⟩
theorem Rd.take {a : Addr} {cs : List Value} (h : Rd l a cs) (i : Nat) : Rd l a (cs.take i) := fun x hx => by
  obtain ⟨h1, h2⟩ := h x hx
  refine ⟨h1, fun j v hj => ?_⟩
  rw [List.getElem?_take] at hj
  split at hj
  · exact h2 j v hj
  · cases hj
theorem Src.drop {sz : Nat} {a : Option Addr} {m cap : Nat} {cs : List Value} (h : Src l sz a m cs) (i : Nat) (hi : i ≤ m) (hc : m ≤ cap) : Src l sz (slA a cap i sz) (m - i) (cs.drop (i * sz)) := by
  cases h with
  | nil => unfold slA; simp only [Option.map_none, ite_self, List.drop_nil, Nat.zero_sub]; exact .nil
  | zero ad => unfold slA; simp only [Option.map_some, List.drop_nil, Nat.zero_sub]; split <;> exact .zero _
  | @lies ad m cs h hl =>
    unfold slA
    have hlen : (cs.drop (i * sz)).length = (m - i) * sz := by rw [List.length_drop, hl, Nat.sub_mul]
    split
    · refine .lies ?_ hlen
      have : cs.drop (i * sz) = [] := by apply List.eq_nil_of_length_eq_zero; rw [hlen]; simp [show m - i = 0 by omega]
      rw [this]
      exact fun x hx => ⟨(h x hx).1, fun j v hj => by simp at hj⟩
    · exact .lies (h.drop (i * sz)) hlen
theorem Src.take {sz : Nat} {a : Option Addr} {m : Nat} {cs : List Value} (h : Src l sz a m cs) (i : Nat) (hi : i ≤ m) : Src l sz a i (cs.take (i * sz)) := by
  cases h with
  | nil => obtain rfl : i = 0 := by omega
           simp only [List.take_nil]; exact .nil
  | zero ad => obtain rfl : i = 0 := by omega
               simp only [List.take_nil]; exact .zero ad
  | @lies ad m cs h hl => exact .lies (h.take _) (by rw [List.length_take, hl, Nat.min_eq_left (Nat.mul_le_mul_right _ hi)])
theorem slA_zero {a : Option Addr} {cap sz : Nat} (h : 0 < cap → ∀ ad, a = some ad → ad.spot = none) : slA a cap 0 sz = a := by
  unfold slA
  split
  · rfl
  · cases a with
    | none => rfl
    | some ad =>
      have := h (by omega) ad rfl
      cases ad; simp at this; subst this; simp [Addr.add]
end
/-! ### Slices that will never change -/
section
variable {l r : List HP} {base : World} {w : World} {E sz m cap : Nat} {a : Option Addr} {cs : List Value}
theorem lst_roS {h : Hp} (x : lst (RoS sz a m cap cs :: l) h) : (cs.length = m * sz ∧ m ≤ cap) ∧ ((cap = 0 ∧ m = 0) ∨ ∃ b o, a = some ⟨b, o, none⟩) := by
  obtain ⟨_, _, _, _, hp, _⟩ := x
  rcases hp with ⟨rfl, rfl, rfl, _⟩ | ⟨b, o, c, T, fr, rfl, h1, h2, _⟩
  · simp
  · exact ⟨⟨h2, h1⟩, .inr ⟨b, o, rfl⟩⟩
theorem St.freeze (hs : St base l w) (hr : Rem l (Vec E sz a m cap cs) r) : St base (RoS sz a m cap cs :: r) w := by
  rcases hs.vec hr with ⟨rfl, rfl, rfl, rfl⟩ | ⟨b, junk, rfl, h1, h2, h3, h4⟩
  · exact hs.ent fun _ y => ⟨fun _ => none, _, fun _ => .inl rfl, by funext k; rfl, .inl ⟨rfl, rfl, rfl, rfl⟩, lst_drop (hr.out y)⟩
  · refine (h4.share (.here _ _)).ent fun _ y => sep_mono (fun _ z => .inr ⟨b, 0, _, _, _, rfl, h1, h2, fun j v hj => ?_, z⟩) (fun _ z => z) y
    rw [Nat.zero_add]
    simp only [List.getElem?_toArray]
    have := (List.getElem?_eq_some_iff.1 hj).1
    rw [List.getElem?_append_left this]; exact hj
theorem lst_roS_nil {h : Hp} (x : lst l h) : lst (RoS sz none 0 0 [] :: l) h := ⟨fun _ => none, h, fun _ => .inl rfl, by funext k; rfl, .inl ⟨rfl, rfl, rfl, rfl⟩, x⟩
end
section
variable {r : Option Nat} {P : Program} {base : World} {n : Nat} {ds : List Deferred} {Q : Exit → Act → World → Prop} {env : Env} {l r1 r2 : List HP} {all : Array Oper} {c : Code} {ro : List Oper} {K : Act → World → Prop} {E sz m cap : Nat} {a : Option Addr} {cs : List Value}
theorem TK.freeze (hr : Rem l (Vec E sz a m cap cs) r1) (h : TK base n ds K env (RoS sz a m cap cs :: r1)) : TK base n ds K env l := fun ac w ha hw => h ac w ha (hw.freeze hr)
theorem TC.freeze (hr : Rem l (Vec E sz a m cap cs) r1) (h : TC r P base n ds c Q env (RoS sz a m cap cs :: r1)) : TC r P base n ds c Q env l := TK.freeze hr h
theorem TL.freeze (hr : Rem l (Vec E sz a m cap cs) r1) (h : TL r P base n ds all ro Q env (RoS sz a m cap cs :: r1)) : TL r P base n ds all ro Q env l := TK.freeze hr h
theorem TK.roS (hr : Rem l (RoS sz a m cap cs) r1) (h : cs.length = m * sz → m ≤ cap → (cap = 0 ∧ m = 0) ∨ (∃ b o, a = some ⟨b, o, none⟩) → TK base n ds K env l) : TK base n ds K env l := fun ac w ha hw => by
  obtain ⟨hp, hf, hl⟩ := hw.heap
  obtain ⟨⟨h1, h2⟩, h3⟩ := lst_roS (hr.out hl)
  exact h h1 h2 h3 ac w ha hw
theorem TC.roAt (hr : Rem l (RoS sz a m cap cs) r1) (hm : 0 < m) (h : ∀ b o, a = some ⟨b, o, none⟩ → TC r P base n ds c Q env l) : TC r P base n ds c Q env l := TK.roS hr fun _ _ hd => by
  rcases hd with ⟨_, h0⟩ | ⟨b, o, e⟩
  · omega
  · exact h b o e
theorem TL.roAt (hr : Rem l (RoS sz a m cap cs) r1) (hm : 0 < m) (h : ∀ b o, a = some ⟨b, o, none⟩ → TL r P base n ds all ro Q env l) : TL r P base n ds all ro Q env l := TK.roS hr fun _ _ hd => by
  rcases hd with ⟨_, h0⟩ | ⟨b, o, e⟩
  · omega
  · exact h b o e
end
end Go.Sl

/- Ends of functions whose results lie in variables. For whatever program. -/
namespace Go.Sl
section
variable {P : Program} {base : World} {n : Nat} {env : Env} {l rest : List HP} {fn : Func} {α : Type} {val : α → Value} {post : α → List HP} {F : HP}
theorem tk_ret1a {t b size : Nat} {T T' : TypeId} {vs : List Value} (hres : fn.results = #[.cell t T]) (hp : look env t = some (.pointer (some ⟨b, 0, none⟩))) [IAgg P T size] (hr : Rem l (obj b T' vs) rest) (hl : vs.length = size) (x : α) (hx : .agg vs.toArray = val x) (he : Ent l (post x ++ [F])) : TK base n [] (fnPost P base fn val post F .ret) env l :=
  tk_ret1 hres (Res.agg hp (rd_obj hr) hl) x hx he
theorem tk_ret2a {t b size t2 : Nat} {T T' : TypeId} {vs : List Value} {v2 : Value} (hres : fn.results = #[.cell t T, .tmp t2]) (hp : look env t = some (.pointer (some ⟨b, 0, none⟩))) [IAgg P T size] (hr : Rem l (obj b T' vs) rest) (hl : vs.length = size) (h2 : look env t2 = some v2) (x : α) (hx : .tuple #[.agg vs.toArray, v2] = val x) (he : Ent l (post x ++ [F])) : TK base n [] (fnPost P base fn val post F .ret) env l :=
  tk_ret2 hres (Res.agg hp (rd_obj hr) hl) (Res.tmp h2) x hx he
end
end Go.Sl
