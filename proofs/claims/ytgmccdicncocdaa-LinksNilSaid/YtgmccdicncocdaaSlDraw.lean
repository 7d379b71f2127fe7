/- A region that draws its order, walked: operations that leave the shared assertions alone may be taken first. For whatever program. -/
import Derived.Test.YtgmccdicncocdaaSlCall
namespace Go.Sl

def putE (dst : Option Tmp) (v : Value) (e : Env) : Env := match dst with | some d => (d, v) :: e | none => e
theorem AS.putE {n : Nat} {ds : List Deferred} {e : Env} {a : Act} (h : AS n ds e a) {dst : Option Tmp} (hd : ∀ d, dst = some d → d < n) (v : Value) : AS n ds (putE dst v e) (a.put dst v) := by
  cases dst with
  | none => exact h
  | some d => exact h.put (hd d rfl) v

section
variable {r : Option Nat} {P : Program} {base : World} {n : Nat} {ds : List Deferred} {Q : Exit → Act → World → Prop} {ops : Array Oper} {lc : List HP}

/-- One operation, in whatever world meets 'lc' and 'F'. -/
def OpX (r : Option Nat) (P : Program) (base : World) (n : Nat) (ds : List Deferred) (ops : Array Oper) (lc : List HP) (o : Oper) (env : Env) (F : List HP) (K : Value → List HP → Prop) : Prop :=
  ∀ a w, AO ops o n ds env a → St base (lc ++ F) w → VStep r P ops o a w (fun u w' => ∃ F', St base (lc ++ F') w' ∧ K u F')
theorem OpX.mono {o : Oper} {env : Env} {F : List HP} {K K' : Value → List HP → Prop} (h : OpX r P base n ds ops lc o env F K) (hk : ∀ u F, K u F → K' u F) : OpX r P base n ds ops lc o env F K' := fun a w ha hs =>
  (h a w ha hs).mono r P fun _ _ ⟨F', h1, h2⟩ => ⟨F', h1, hk _ _ h2⟩

/-- Whatever order is picked from here on. -/
def WA (r : Option Nat) (P : Program) (base : World) (n : Nat) (ds : List Deferred) (ops : Array Oper) (Q : Exit → Act → World → Prop) (lc : List HP) : Nat → Array Bool → Env → List HP → Prop
  | 0, listed, env, F => Region.ready .any ops listed = [] ∧ TK base n ds (Q .normal) env (lc ++ F)
  | fuel + 1, listed, env, F => (Region.ready .any ops listed = [] → TK base n ds (Q .normal) env (lc ++ F)) ∧
    ∀ i ∈ Region.ready .any ops listed, ∀ o, ops[i]? = some o → OpX r P base n ds ops lc o env F (fun u F' => WA r P base n ds ops Q lc fuel (listed.setIfInBounds i true) (putE o.dst u env) F')

theorem wa_sound (hd : ∀ (i : Nat) (o : Oper), ops[i]? = some o → ∀ d, o.dst = some d → d < n) : ∀ (fuel : Nat) (listed : Array Bool) (env : Env) (F : List HP), WA r P base n ds ops Q lc fuel listed env F → ∀ a w, AS n ds env a → St base (lc ++ F) w → wpAnyIn (Fc r) 0 P .any ops Q fuel listed a w
  | 0, _, _, _, h, a, w, ha, hs => ⟨h.1, h.2 a w ha hs⟩
  | fuel + 1, listed, env, F, h, a, w, ha, hs => by
    refine ⟨fun h0 => h.1 h0 a w ha hs, fun i hi => ?_⟩
    obtain ⟨_, o, ho, _⟩ := mem_ready.1 hi
    unfold wpOpIn
    simp only [ho]
    have hx := h.2 i hi o ho a w (ha.ao ops o) hs
    have := Step.of_v (K := wpAnyIn (Fc r) 0 P .any ops Q fuel (listed.setIfInBounds i true)) (Q := Q) r P hx (fun u w' ⟨F', hs', hk⟩ => wa_sound hd fuel _ _ _ hk _ _ (ha.putE (hd i o ho) u) hs')
    unfold Step at this
    split
    · rename_i hw; rw [if_pos hw] at this; exact this
    · rename_i hw; rw [if_neg hw] at this; exact ⟨fun _ _ => trivial, this⟩

def EqE (e e' : Env) : Prop := ∀ t, look e t = look e' t
theorem EqE.putE {e e' : Env} (h : EqE e e') (dst : Option Tmp) (v : Value) : EqE (putE dst v e) (putE dst v e') := by
  cases dst with
  | none => exact h
  | some d => intro t; simp only [Sl.putE, look_cons]; split; rfl; exact h t
theorem putE_comm {x y : Option Tmp} (hxy : ∀ d, x = some d → y ≠ some d) (u v : Value) (e : Env) : EqE (putE x u (putE y v e)) (putE y v (putE x u e)) := by
  cases x with
  | none => intro t; rfl
  | some d => cases y with
    | none => intro t; rfl
    | some d' =>
      have hne : d ≠ d' := fun e => hxy d rfl (by rw [e])
      intro t
      simp only [putE, look_cons]
      by_cases h1 : d = t
      · subst h1; simp [Ne.symm hne]
      · by_cases h2 : d' = t <;> simp [h1, h2]
theorem AO.congr {o : Oper} {e e' : Env} {a : Act} (h : EqE e e') (x : AO ops o n ds e a) : AO ops o n ds e' a := ⟨x.size, x.defers, fun t ht v hv => x.val t ht v ((h t).trans hv)⟩
theorem AS.congr {e e' : Env} {a : Act} (h : EqE e e') (x : AS n ds e a) : AS n ds e' a := ⟨x.size, x.defers, fun t v hv => x.val t v ((h t).trans hv)⟩
theorem EqE.symm {e e' : Env} (h : EqE e e') : EqE e' e := fun t => (h t).symm
theorem wa_congr : ∀ (fuel : Nat) (listed : Array Bool) (e e' : Env) (F : List HP), EqE e e' → WA r P base n ds ops Q lc fuel listed e F → WA r P base n ds ops Q lc fuel listed e' F
  | 0, _, _, _, _, he, h => ⟨h.1, fun a w ha hs => h.2 a w (ha.congr he.symm) hs⟩
  | fuel + 1, _, _, _, _, he, h => ⟨fun h0 a w ha hs => h.1 h0 a w (ha.congr he.symm) hs, fun i hi o ho a w ha hs =>
      (h.2 i hi o ho a w (ha.congr he.symm) hs).mono r P fun u _ ⟨F', h1, h2⟩ => ⟨F', h1, wa_congr fuel _ _ _ _ (he.putE o.dst u) h2⟩⟩

/-- Operation 'oj', apart from 'oi': whether 'oi''s value is already in its slot makes no difference to it. -/
theorem VStep.put {oi oj : Oper} {a : Act} {w : World} {v : Value} {R : Value → World → Prop} (hap : oi.apart ops oj = true) (hs : ∀ cs b, oj.op ≠ .select cs b) (h : VStep r P ops oj (a.put oi.dst v) w R) : VStep r P ops oj a w R := by
  obtain ⟨h1, _, _⟩ := Oper.apart_spec hap
  refine ⟨h.1, ?_⟩
  have h2 := h.2
  rw [wanted_put oj a oi.dst v h1, execOp_put oj hs a oi.dst v h1] at h2
  exact h2
theorem OpQ.put {oi oj : Oper} {env : Env} {u v : Value} (hap : oi.apart ops oj = true) (h : OpQ r P ops oi n ds env lc v) : OpQ r P ops oi n ds (putE oj.dst u env) lc v := fun b F a w ha hs => h b F a w ⟨ha.size, ha.defers, fun t ht x hx => ha.val t ht x (by
  obtain ⟨_, _, h3⟩ := Oper.apart_spec hap
  cases hdst : oj.dst with
  | none => exact hx
  | some d =>
    have : d ∉ oi.looksAt ops := h3 d hdst
    simp only [putE, look_cons]
    rw [if_neg (fun e : d = t => this (e ▸ ht))]; exact hx)⟩ hs

theorem wa_first {i : Nat} {oi : Oper} {v : Value} (hi : ops[i]? = some oi) (hsel : ∀ (j : Nat) (o : Oper) cs b, ops[j]? = some o → o.op ≠ .select cs b) (_hd : ∀ (i : Nat) (o : Oper), ops[i]? = some o → ∀ d, o.dst = some d → d < n) :
    ∀ (fuel : Nat) (listed : Array Bool) (env : Env) (F : List HP),
      (∀ j oj, ops[j]? = some oj → j ≠ i → listed.getD j true = false → (∀ e ∈ oj.after, Region.binds .any e = true → e.on ≠ i) → oi.apart ops oj = true) →
      i ∈ Region.ready .any ops listed → OpQ r P ops oi n ds env lc v →
      WA r P base n ds ops Q lc fuel (listed.setIfInBounds i true) (putE oi.dst v env) F → WA r P base n ds ops Q lc (fuel + 1) listed env F := by
  intro fuel
  have self : ∀ (fuel : Nat) (listed : Array Bool) (env : Env) (F : List HP), OpQ r P ops oi n ds env lc v → WA r P base n ds ops Q lc fuel (listed.setIfInBounds i true) (putE oi.dst v env) F →
      OpX r P base n ds ops lc oi env F (fun u F' => WA r P base n ds ops Q lc fuel (listed.setIfInBounds i true) (putE oi.dst u env) F') := fun fuel listed env F hq H a w ha hs =>
    (hq base F a w ha hs).mono r P fun u w' ⟨hu, hs'⟩ => ⟨F, hs', hu ▸ H⟩
  induction fuel with
  | zero =>
    intro listed env F _ hr hq H
    refine ⟨fun h => (by rw [h] at hr; cases hr), fun j hj oj hoj => ?_⟩
    by_cases hji : j = i
    · subst hji
      have : oj = oi := Option.some.inj (hoj.symm.trans hi)
      subst this; exact self 0 listed env F hq H
    · have := ready_mono hj hji
      rw [H.1] at this
      cases this
  | succ fuel ih =>
    intro listed env F hfree hr hq H
    refine ⟨fun h => (by rw [h] at hr; cases hr), fun j hj oj hoj => ?_⟩
    by_cases hji : j = i
    · subst hji
      have : oj = oi := Option.some.inj (hoj.symm.trans hi)
      subst this; exact self (fuel + 1) listed env F hq H
    · have h1 := H.2 j (ready_mono hj hji) oj hoj
      obtain ⟨hjun, oj', hoj', hall⟩ := mem_ready.1 hj
      have hjj : oj' = oj := Option.some.inj (hoj'.symm.trans hoj)
      subst hjj
      have hnot : ∀ e ∈ oj'.after, Region.binds .any e = true → e.on ≠ i := fun e he hb heq => by
        have h1 := hall e he hb
        have h0 := (mem_ready.1 hr).1
        rw [heq] at h1
        rcases Nat.lt_or_ge i listed.size with h' | h'
        · simp [h'] at h0 h1; rw [h0] at h1; cases h1
        · simp [Array.getElem?_eq_none h'] at h1
      have hap := hfree j oj' hoj hji hjun hnot
      have hfree' : ∀ k ok, ops[k]? = some ok → k ≠ i → (listed.setIfInBounds j true).getD k true = false →
          (∀ e ∈ ok.after, Region.binds .any e = true → e.on ≠ i) → oi.apart ops ok = true := fun k ok hk hki hun hno => by
        refine hfree k ok hk hki ?_ hno
        by_cases hjk : j = k
        · subst hjk; exact hjun
        · rw [getD_set_ne true hjk] at hun; exact hun
      intro a w ha hs
      obtain ⟨p1, p2, p3⟩ := Oper.apart_spec hap
      have ha' : AO ops oj' n ds (putE oi.dst v env) (a.put oi.dst v) := by
        refine ⟨by cases oi.dst <;> simp [Act.put, ha.size], by cases oi.dst <;> simp [Act.put, ha.defers], fun t ht x hx => ?_⟩
        cases hdst : oi.dst with
        | none => rw [hdst] at hx; exact ha.val t ht x hx
        | some d =>
          rw [hdst] at hx
          simp only [putE, look_cons] at hx
          have hne : d ≠ t := fun e => p1 d hdst (e ▸ ht)
          rw [if_neg hne] at hx
          have := ha.val t ht x hx
          simp only [Act.put, Array.getD_eq_getD_getElem?, Array.getElem?_setIfInBounds, if_neg hne] at this ⊢
          exact this
      refine ((h1 _ w ha' hs).put hap (fun cs b => hsel j oj' cs b hoj)).mono r P fun u w' ⟨F', hs', hk⟩ => ⟨F', hs', ?_⟩
      refine ih (listed.setIfInBounds j true) _ F' hfree' (ready_mono hr (Ne.symm hji)) (hq.put hap) ?_
      rw [Array.setIfInBounds_comm _ _ hji]
      exact wa_congr _ _ _ _ _ (putE_comm (fun d hd' he => p2 d he hd') u v env) hk

/-- Slots within the frame. -/
def dstB (ops : Array Oper) (n : Nat) : Bool := ops.all fun o => match o.dst with | some d => decide (d < n) | none => true
theorem dstB_spec (h : dstB ops n = true) : ∀ (i : Nat) (o : Oper), ops[i]? = some o → ∀ d, o.dst = some d → d < n := fun i o ho d hd => by
  have := Array.all_eq_true'.1 h o (Array.mem_of_getElem? ho)
  rw [hd] at this; simpa using this
/-- What is asked of the region as a whole. -/
def drawB (P : Program) (ops : Array Oper) (n : Nat) : Bool := P.follows .mixedOrders && Region.noSelect ops && dstB ops n
theorem tc_draw {id : Nat} {env : Env} {l : List HP} (lc F : List HP) (hB : drawB P ops n = true) (hl : Ent l (lc ++ F)) (h : WA r P base n ds ops Q lc ops.size (Array.replicate ops.size false) env F) : TC r P base n ds (.region id ops true) Q env l := fun a w ha hs => by
  simp only [drawB, Bool.and_eq_true] at hB
  exact wpIn_region_any hB.1.1 (wa_sound (dstB_spec hB.2) _ _ _ _ h a _ ha ((hs.drawn _).ent hl))
theorem wa_take {i fuel : Nat} {o : Oper} {v : Value} {listed listed' : Array Bool} {env : Env} {F : List HP} (hi : ops[i]? = some o) (hB : drawB P ops n = true) (hf : Region.free .any ops listed i = true) (hr : (Region.ready .any ops listed).contains i = true) (hl : listed.setIfInBounds i true = listed')
    (hq : OpQ r P ops o n ds env lc v) (h : WA r P base n ds ops Q lc fuel listed' (putE o.dst v env) F) : WA r P base n ds ops Q lc (fuel + 1) listed env F := by
  simp only [drawB, Bool.and_eq_true] at hB
  exact wa_first hi (Region.noSelect_spec hB.1.2) (dstB_spec hB.2) fuel listed env F (Region.free_spec hi hf) (by simpa using hr) hq (hl ▸ h)
/-- The one operation that may come up. -/
theorem wa_one {α : Type} {i fuel : Nat} {o : Oper} {listed listed' : Array Bool} {env : Env} {F : List HP} {val : α → Value} {post : α → List HP} (hi : ops[i]? = some o) (hr : Region.ready .any ops listed = [i]) (hl : listed.setIfInBounds i true = listed')
    (hq : OpN r P ops o n ds env (lc ++ F) val (fun x => lc ++ post x)) (h : ∀ x, WA r P base n ds ops Q lc fuel listed' (putE o.dst (val x) env) (post x)) : WA r P base n ds ops Q lc (fuel + 1) listed env F := by
  refine ⟨fun h0 => (by rw [hr] at h0; cases h0), fun j hj oj hoj a w ha hs => ?_⟩
  rw [hr] at hj
  have hji : j = i := by simpa using hj
  subst hji
  have : oj = o := Option.some.inj (hoj.symm.trans hi)
  subst this
  exact (hq base a w ha hs).mono r P fun u w' ⟨x, hu, hs'⟩ => ⟨post x, hs', by rw [hu, hl]; exact h x⟩
/-- Two operations that may come up. -/
theorem wa_two {i j fuel : Nat} {oi oj : Oper} {listed : Array Bool} {env : Env} {F : List HP} (hi : ops[i]? = some oi) (hj : ops[j]? = some oj) (hr : Region.ready .any ops listed = [i, j])
    (h1 : OpX r P base n ds ops lc oi env F (fun u F' => WA r P base n ds ops Q lc fuel (listed.setIfInBounds i true) (putE oi.dst u env) F'))
    (h2 : OpX r P base n ds ops lc oj env F (fun u F' => WA r P base n ds ops Q lc fuel (listed.setIfInBounds j true) (putE oj.dst u env) F')) : WA r P base n ds ops Q lc (fuel + 1) listed env F := by
  refine ⟨fun h0 => (by rw [hr] at h0; cases h0), fun k hk ok hok => ?_⟩
  rw [hr] at hk
  rcases List.mem_cons.1 hk with rfl | hk
  · have : ok = oi := Option.some.inj (hok.symm.trans hi)
    subst this; exact h1
  · have hkj : k = j := by simpa using hk
    subst hkj
    have : ok = oj := Option.some.inj (hok.symm.trans hj)
    subst this; exact h2
theorem opx_n {α : Type} {o : Oper} {env : Env} {F : List HP} {K : Value → List HP → Prop} {val : α → Value} {post : α → List HP} (hq : OpN r P ops o n ds env (lc ++ F) val (fun x => lc ++ post x)) (h : ∀ x, K (val x) (post x)) : OpX r P base n ds ops lc o env F K := fun a w ha hs =>
  (hq base a w ha hs).mono r P fun u w' ⟨x, hu, hs'⟩ => ⟨post x, hs', by rw [hu]; exact h x⟩
theorem wa_done {listed : Array Bool} {env : Env} {F : List HP} {fuel : Nat} (hr : Region.ready .any ops listed = []) (h : TK base n ds (Q .normal) env (lc ++ F)) : WA r P base n ds ops Q lc fuel listed env F := by
  cases fuel with
  | zero => exact ⟨hr, h⟩
  | succ fuel => exact ⟨fun _ => h, fun i hi => by rw [hr] at hi; cases hi⟩

/-! ### All the region's operations leave all as it was: one walk in the order of the text -/
/-- From operation 'k' on. -/
def TQ (r : Option Nat) (P : Program) (n : Nat) (ds : List Deferred) (all : Array Oper) (lc : List HP) : List Oper → Env → (Env → Prop) → Prop
  | [], env, K => K env
  | o :: rest, env, K => ∃ v, OpQ r P all o n ds env lc v ∧ TQ r P n ds all lc rest (putE o.dst v env) K
theorem wa_lex {K : Env → Prop} {F : List HP} (hB : drawB P ops n = true) : ∀ (l : List Oper) (k : Nat) (listed : Array Bool) (env : Env), (∀ j, l[j]? = ops[k + j]?) → Region.lexFrom .any ops l.length k listed = true → TQ r P n ds ops lc l env K →
    (∀ env, K env → TK base n ds (Q .normal) env (lc ++ F)) → WA r P base n ds ops Q lc l.length listed env F
  | [], k, listed, env, _, hx, h, hK => ⟨by simpa [Region.lexFrom] using hx, hK _ h⟩
  | o :: l, k, listed, env, hl, hx, h, hK => by
    have h0 : ops[k]? = some o := by simpa using (hl 0).symm
    simp only [List.length_cons, Region.lexFrom, Bool.and_eq_true] at hx
    obtain ⟨⟨hr, hf⟩, hx'⟩ := hx
    obtain ⟨v, hq, h'⟩ := h
    exact wa_take h0 hB hf hr rfl hq (wa_lex hB l (k + 1) _ _ (fun j => by have := hl (j + 1); simpa [Nat.add_assoc, Nat.add_comm 1 j] using this) hx' h' hK)
theorem tc_quiet {id : Nat} {env : Env} {l : List HP} (hB : drawB P ops n = true) (hx : Region.lexB .any ops = true) (h : TQ r P n ds ops l ops.toList env (fun env' => TK base n ds (Q .normal) env' l)) : TC r P base n ds (.region id ops true) Q env l := by
  simp only [Region.lexB, Bool.and_eq_true] at hx
  refine tc_draw l [] hB (by simpa using Ent.refl l) ?_
  have := wa_lex (r := r) (P := P) (base := base) (ds := ds) (Q := Q) (lc := l) (F := []) hB ops.toList 0 (Array.replicate ops.size false) env (by simp) (by simpa using hx.2) h (fun env h => by simpa using h)
  simpa using this
theorem tq_nil {all : Array Oper} {env : Env} {K : Env → Prop} {l : List HP} (h : K env) : TQ r P n ds all l [] env K := h
theorem tq_cons {all : Array Oper} {o : Oper} {rest : List Oper} {env : Env} {K : Env → Prop} {l : List HP} {v : Value} {d : Nat} (hq : OpQ r P all o n ds env l v) (hd : o.dst = some d) (h : TQ r P n ds all l rest ((d, v) :: env) K) : TQ r P n ds all l (o :: rest) env K :=
  ⟨v, hq, by rw [hd]; exact h⟩
end

section
variable {r : Option Nat} {P : Program} {base : World} {n : Nat} {ds : List Deferred} {Q : Exit → Act → World → Prop} {env env' : Env} {l l' rest : List HP} {all : Array Oper} {c : Code} {ro : List Oper} {K : Act → World → Prop}
/-! ### The same moves at code, at a list of operations, at an end -/
theorem TC.ent (s : Ent l l') (h : TC r P base n ds c Q env l') : TC r P base n ds c Q env l := TK.ent s h
theorem TL.ent (s : Ent l l') (h : TL r P base n ds all ro Q env l') : TL r P base n ds all ro Q env l := TK.ent s h
theorem TC.sub (s : Sub env env') (h : TC r P base n ds c Q env' l) : TC r P base n ds c Q env l := TK.sub s h
theorem TL.sub (s : Sub env env') (h : TL r P base n ds all ro Q env' l) : TL r P base n ds all ro Q env l := TK.sub s h
theorem TK.pick {x : HP} (s : Rem l x rest) (h : TK base n ds K env (x :: rest)) : TK base n ds K env l := TK.ent (fun _ => s.out) h
theorem TC.pick {x : HP} (s : Rem l x rest) (h : TC r P base n ds c Q env (x :: rest)) : TC r P base n ds c Q env l := TK.pick s h
theorem TL.pick {x : HP} (s : Rem l x rest) (h : TL r P base n ds all ro Q env (x :: rest)) : TL r P base n ds all ro Q env l := TK.pick s h
theorem TC.fact {p : Prop} (h : p → TC r P base n ds c Q env l) : TC r P base n ds c Q env (fact p :: l) := TK.fact h
theorem TL.fact {p : Prop} (h : p → TL r P base n ds all ro Q env l) : TL r P base n ds all ro Q env (fact p :: l) := TK.fact h
theorem TC.know {p : Prop} (s : ∀ h, lst l h → p) (h : p → TC r P base n ds c Q env l) : TC r P base n ds c Q env l := TK.know s h
theorem TL.know {p : Prop} (s : ∀ h, lst l h → p) (h : p → TL r P base n ds all ro Q env l) : TL r P base n ds all ro Q env l := TK.know s h
theorem TC.vecAt {E sz : Nat} {a : Option Addr} {k cap : Nat} {cs : List Value} (hr : Rem l (Vec E sz a k cap cs) rest) (hk : 0 < k) (h : (∃ b, a = some ⟨b, 0, none⟩) → TC r P base n ds c Q env l) : TC r P base n ds c Q env l := TK.vecAt hr hk h
theorem TL.vecAt {E sz : Nat} {a : Option Addr} {k cap : Nat} {cs : List Value} (hr : Rem l (Vec E sz a k cap cs) rest) (hk : 0 < k) (h : (∃ b, a = some ⟨b, 0, none⟩) → TL r P base n ds all ro Q env l) : TL r P base n ds all ro Q env l := TK.vecAt hr hk h
theorem TC.vecLen {E sz : Nat} {a : Option Addr} {k cap : Nat} {cs : List Value} (hr : Rem l (Vec E sz a k cap cs) rest) (h : cs.length = k * sz ∧ k ≤ cap → TC r P base n ds c Q env l) : TC r P base n ds c Q env l := TK.vecLen hr h
theorem TL.vecLen {E sz : Nat} {a : Option Addr} {k cap : Nat} {cs : List Value} (hr : Rem l (Vec E sz a k cap cs) rest) (h : cs.length = k * sz ∧ k ≤ cap → TL r P base n ds all ro Q env l) : TL r P base n ds all ro Q env l := TK.vecLen hr h
/-- A call of a function that hands back one value and leaves what it asks as it was. -/
theorem tl_callq {f : FuncId} {xs : List Operand} {ats : Array TypeId} {vs : List Value} {pre : List HP} {v : Value} {dst : Option Tmp} {ty : TypeId} {pos : String} {af : Array Edge} {g : Option (Nat × Bool)} {d : Nat} [CF P f] (hs : SpecH P f vs.toArray pre (fun _ : Unit => v) (fun _ => pre))
    (hw : Want all ⟨dst, .call ⟨.value (.func f), xs.toArray, ats⟩, ty, pos, af, g⟩ env) (hxs : Evs env xs vs) (hp : Pick l pre rest) (hd : dst = some d) (hn : d < n)
    (h : TL r P base n ds all ro Q ((d, v) :: env) l) : TL r P base n ds all (⟨dst, .call ⟨.value (.func f), xs.toArray, ats⟩, ty, pos, af, g⟩ :: ro) Q env l := tl_q (opq_call hw hxs hs hp) hd hn h
/-- A call. -/
theorem tl_call {α : Type} {f : FuncId} {xs : List Operand} {ats : Array TypeId} {vs : List Value} {pre : List HP} {val : α → Value} {post : α → List HP} {dst : Option Tmp} {ty : TypeId} {pos : String} {af : Array Edge} {g : Option (Nat × Bool)} {d : Nat} [CF P f] (hs : SpecH P f vs.toArray pre val post)
    (hw : Want all ⟨dst, .call ⟨.value (.func f), xs.toArray, ats⟩, ty, pos, af, g⟩ env) (hxs : Evs env xs vs) (hp : Pick l pre rest) (hd : dst = some d) (hn : d < n)
    (h : ∀ x l2, l2 = post x ++ rest → TL r P base n ds all ro Q ((d, val x) :: env) l2) : TL r P base n ds all (⟨dst, .call ⟨.value (.func f), xs.toArray, ats⟩, ty, pos, af, g⟩ :: ro) Q env l := tl_n (opn_call hw hxs hs hp) hd hn (fun x => h x _ rfl)
theorem tl_call0 {α : Type} {f : FuncId} {xs : List Operand} {ats : Array TypeId} {vs : List Value} {pre : List HP} {val : α → Value} {post : α → List HP} {dst : Option Tmp} {ty : TypeId} {pos : String} {af : Array Edge} {g : Option (Nat × Bool)} [CF P f] (hs : SpecH P f vs.toArray pre val post)
    (hw : Want all ⟨dst, .call ⟨.value (.func f), xs.toArray, ats⟩, ty, pos, af, g⟩ env) (hxs : Evs env xs vs) (hp : Pick l pre rest) (hd : dst = none)
    (h : ∀ x l2, l2 = post x ++ rest → TL r P base n ds all ro Q env l2) : TL r P base n ds all (⟨dst, .call ⟨.value (.func f), xs.toArray, ats⟩, ty, pos, af, g⟩ :: ro) Q env l := tl_n0 (opn_call hw hxs hs hp) hd (fun x => h x _ rfl)
end
end Go.Sl
