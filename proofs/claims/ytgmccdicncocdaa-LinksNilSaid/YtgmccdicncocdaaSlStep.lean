/- The rules of the walk over assertions: what a frame holds, one operation, a list of operations, code, a call. For whatever program. -/
import Derived.Test.YtgmccdicncocdaaSlHeap
namespace Go.Sl

abbrev Env := List (Nat × Value)
def look : Env → Nat → Option Value
  | [], _ => none
  | (k, v) :: e, t => bif Nat.beq k t then some v else look e t
def ev (e : Env) : Operand → Option Value
  | .tmp t => look e t
  | .const v => some v
  | .global g => some (.pointer (some ⟨g, 0, none⟩))
  | .func f => some (.func (.func f) #[] #[])

/-- The frame: its size, its deferred calls, what is known of its slots. -/
structure AS (n : Nat) (ds : List Deferred) (e : Env) (a : Act) : Prop where
  size : a.tmps.size = n
  defers : a.defers = ds
  val : ∀ t v, look e t = some v → a.tmps.getD t undef = v
/-- The same, of the slots that operation 'o' looks at. -/
structure AO (all : Array Oper) (o : Oper) (n : Nat) (ds : List Deferred) (e : Env) (a : Act) : Prop where
  size : a.tmps.size = n
  defers : a.defers = ds
  val : ∀ t ∈ o.looksAt all, ∀ v, look e t = some v → a.tmps.getD t undef = v

theorem AS.ao {n : Nat} {ds : List Deferred} {e : Env} {a : Act} (h : AS n ds e a) (all : Array Oper) (o : Oper) : AO all o n ds e a := ⟨h.size, h.defers, fun t _ v hv => h.val t v hv⟩
theorem AO.ev {all : Array Oper} {o : Oper} {n : Nat} {ds : List Deferred} {e : Env} {a : Act} (h : AO all o n ds e a) {x : Operand} {v : Value} (hx : x ∈ o.op.operands.toList) (hv : ev e x = some v) : a.eval x = v := by
  cases x with
  | tmp t => exact h.val t (List.mem_append_left _ (List.mem_filterMap.2 ⟨.tmp t, hx, rfl⟩)) v hv
  | const u => simpa [Act.eval, Sl.ev] using hv
  | global g => simpa [Act.eval, Sl.ev] using hv
  | func f => simpa [Act.eval, Sl.ev] using hv
theorem AS.ev {n : Nat} {ds : List Deferred} {e : Env} {a : Act} (h : AS n ds e a) {x : Operand} {v : Value} (hv : ev e x = some v) : a.eval x = v := by
  cases x with
  | tmp t => exact h.val t v hv
  | const u => simpa [Act.eval, Sl.ev] using hv
  | global g => simpa [Act.eval, Sl.ev] using hv
  | func f => simpa [Act.eval, Sl.ev] using hv
theorem look_cons {e : Env} {k t : Nat} {v : Value} : look ((k, v) :: e) t = if k = t then some v else look e t := by
  show (bif Nat.beq k t then some v else look e t) = _
  by_cases h : k = t
  · subst h; simp
  · have : Nat.beq k t = false := by
      cases hb : Nat.beq k t with
      | false => rfl
      | true => exact absurd (Nat.eq_of_beq_eq_true hb) h
    simp [this, h]
theorem AS.put {n : Nat} {ds : List Deferred} {e : Env} {a : Act} (h : AS n ds e a) {d : Nat} (hd : d < n) (v : Value) : AS n ds ((d, v) :: e) (a.put (some d) v) := by
  refine ⟨by simpa [Act.put] using h.size, h.defers, fun t u hu => ?_⟩
  rw [look_cons] at hu
  by_cases ht : d = t
  · subst ht
    simp only [if_true, Option.some.injEq] at hu
    subst hu
    simp [Act.put, h.size, hd]
  · rw [if_neg ht] at hu
    have := h.val t u hu
    simp only [Act.put, Array.getD_eq_getD_getElem?, Array.getElem?_setIfInBounds, if_neg ht] at this ⊢
    exact this
theorem AS.put_none {n : Nat} {ds : List Deferred} {e : Env} {a : Act} (h : AS n ds e a) (v : Value) : AS n ds e (a.put none v) := h
/-- The slots that are kept. -/
inductive Prune (e : Env) : List Nat → Env → Prop
  | nil : Prune e [] []
  | cons {k : Nat} {v : Value} {ks : List Nat} {e' : Env} (h : look e k = some v) (t : Prune e ks e') : Prune e (k :: ks) ((k, v) :: e')
/-- What is known here is known there. -/
inductive Sub (e : Env) : Env → Prop
  | nil : Sub e []
  | cons {k : Nat} {v : Value} {e' : Env} (h : look e k = some v) (t : Sub e e') : Sub e ((k, v) :: e')
theorem Sub.look {e e' : Env} (h : Sub e e') : ∀ t v, Sl.look e' t = some v → Sl.look e t = some v := by
  induction h with
  | nil => intro t v h; cases h
  | cons h _ ih =>
    intro t v ht
    rw [look_cons] at ht
    split at ht
    · rename_i hk; subst hk; simpa using h.trans ht
    · exact ih t v ht
theorem Prune.sub {e e' : Env} {ks : List Nat} (h : Prune e ks e') : Sub e e' := by
  induction h with
  | nil => exact .nil
  | cons h _ ih => exact .cons h ih
theorem AS.subs {n : Nat} {ds : List Deferred} {e e' : Env} {a : Act} (h : AS n ds e a) (s : ∀ t v, Sl.look e' t = some v → Sl.look e t = some v) : AS n ds e' a := ⟨h.size, h.defers, fun t v hv => h.val t v (s t v hv)⟩
theorem look_again {e : Env} {d : Nat} {u : Value} (h : look e d = some u) : ∀ t v, look ((d, u) :: e) t = some v → look e t = some v := fun t v hv => by
  rw [look_cons] at hv
  split at hv
  · rename_i hk; subst hk; exact h.trans hv
  · exact hv
theorem yielded_of {all : Array Oper} {j dj : Nat} {oj : Oper} {tmps : Array Value} {t : Bool} (hj : all[j]? = some oj) (hdj : oj.dst = some dj) (hv : tmps.getD dj undef = .bool t) : yielded all tmps j = some t := by
  unfold yielded
  have h1 : tmps[dj]? = some (.bool t) := by
    rw [Array.getD_eq_getD_getElem?] at hv
    cases h : tmps[dj]? with
    | none => rw [h] at hv; simp [undef] at hv
    | some v => rw [h] at hv; simpa using hv
  simp [hj, hdj, h1]
theorem wanted_of {all : Array Oper} {o : Oper} {j dj : Nat} {oj : Oper} {tmps : Array Value} {t u : Bool} (hg : o.guard = some (j, u)) (hj : all[j]? = some oj) (hdj : oj.dst = some dj) (hv : tmps.getD dj undef = .bool t) : Region.wanted o (yielded all tmps) = (t == u) := by
  unfold Region.wanted
  rw [hg]
  simp only [yielded_of hj hdj hv]
  cases t <;> cases u <;> rfl
theorem wanted_none {all : Array Oper} {o : Oper} {tmps : Array Value} (hg : o.guard = none) : Region.wanted o (yielded all tmps) = true := by
  unfold Region.wanted; rw [hg]
theorem AS.sub {n : Nat} {ds : List Deferred} {e e' : Env} {a : Act} (h : AS n ds e a) (s : Sub e e') : AS n ds e' a := ⟨h.size, h.defers, fun t v hv => h.val t v (s.look t v hv)⟩

/-- The fence that lets all in, in a round or in none. -/
def Fc (r : Option Nat) : Fence := { Fence.wide with round := r }

section
variable (r : Option Nat) (P : Program)

/-- One operation as the region carries it out. -/
def Step (all : Array Oper) (o : Oper) (K : Act → World → Prop) (Q : Exit → Act → World → Prop) (a : Act) (w : World) : Prop :=
  if Region.wanted o (yielded all a.tmps) then o.wpIn (Fc r) 0 P a w K Q else K (a.put o.dst undef) w
def noQ : Exit → Act → World → Prop := fun _ _ _ => False

/-- What an operation's run must come to: a value and a world of which 'R' holds. -/
def uponV (R : Value → World → Prop) : Result Next → Prop
  | .ok (.value v) w => R v w
  | .ok .skip w => R undef w
  | .ok (.enter f args) w => CallsIn (Fc r) 0 P f args w (fun e w' => ∃ v, e = .returned v ∧ R v w')
  | .ok (.round k f tmps assign body) w => RoundIn (Fc r) 0 P k f tmps assign body w (fun e w' => ∃ v, e = .returned v ∧ R v w')
  | _ => False
/-- One operation: the value that it leaves and the world behind it. -/
def VStep (all : Array Oper) (o : Oper) (a : Act) (w : World) (R : Value → World → Prop) : Prop :=
  (∀ c, o.op ≠ .defer c) ∧ if Region.wanted o (yielded all a.tmps) then uponV r P R ((execOp a.eval o).run P w) else R undef w
theorem uponV_mono {R R' : Value → World → Prop} (h : ∀ v w, R v w → R' v w) {res : Result Next} (x : uponV r P R res) : uponV r P R' res := by
  cases res with
  | ok y w =>
    cases y <;> simp only [uponV] at x ⊢ <;> first | exact h _ _ x | exact CallsIn.mono x (fun _ _ ⟨v, e, hv⟩ => ⟨v, e, h _ _ hv⟩) | exact RoundIn.mono x (fun _ _ ⟨v, e, hv⟩ => ⟨v, e, h _ _ hv⟩) | exact x
  | halt y w => exact x
theorem VStep.mono {all : Array Oper} {o : Oper} {a : Act} {w : World} {R R' : Value → World → Prop} (x : VStep r P all o a w R) (h : ∀ v w, R v w → R' v w) : VStep r P all o a w R' := by
  refine ⟨x.1, ?_⟩
  have x2 := x.2
  split
  · rename_i hw; rw [if_pos hw] at x2; exact uponV_mono r P h x2
  · rename_i hw; rw [if_neg hw] at x2; exact h _ _ x2
theorem Step.of_v {all : Array Oper} {o : Oper} {a : Act} {w : World} {R : Value → World → Prop} {K : Act → World → Prop} {Q : Exit → Act → World → Prop} (x : VStep r P all o a w R) (h : ∀ v w', R v w' → K (a.put o.dst v) w') : Step r P all o K Q a w := by
  unfold Step
  have x2 := x.2
  split
  · rename_i hw
    rw [if_pos hw] at x2
    refine ⟨fun _ _ => trivial, ?_⟩
    rw [Oper.semAt_eq _ _ _ x.1]
    generalize (execOp a.eval o).run P w = res at x2 ⊢
    cases res with
    | ok y w' =>
      cases y <;> simp only [uponV] at x2 <;> simp only [Oper.uponIn]
      case value v => exact h _ _ x2
      case skip => exact h _ _ x2
      case enter f args =>
        refine ⟨fun h => by simp [Fc, Fence.wide] at h, CallsIn.mono x2 ?_⟩
        rintro e w'' ⟨v, rfl, hv⟩; exact h _ _ hv
      case round k f tmps assign body =>
        refine ⟨fun h => by simp [Fc, Fence.wide] at h, RoundIn.mono x2 ?_⟩
        rintro e w'' ⟨v, rfl, hv⟩; exact h _ _ hv
    | halt y w' => exact x2.elim
  · rename_i hw; rw [if_neg hw] at x2; exact h _ _ x2
/-- An operation that yields one value and leaves the assertions 'lc', and whatever stands beside them, as they are. -/
def OpQ (all : Array Oper) (o : Oper) (n : Nat) (ds : List Deferred) (env : Env) (lc : List HP) (v : Value) : Prop :=
  ∀ (base : World) (F : List HP) (a : Act) (w : World), AO all o n ds env a → St base (lc ++ F) w → VStep r P all o a w (fun u w' => u = v ∧ St base (lc ++ F) w')
/-- An operation that turns the list. -/
def OpN {α : Type} (all : Array Oper) (o : Oper) (n : Nat) (ds : List Deferred) (env : Env) (l : List HP) (val : α → Value) (post : α → List HP) : Prop :=
  ∀ (base : World) (a : Act) (w : World), AO all o n ds env a → St base l w → VStep r P all o a w (fun u w' => ∃ x, u = val x ∧ St base (post x) w')

/-- A list of operations, carried out in the order of the text. -/
def wl (all : Array Oper) (Q : Exit → Act → World → Prop) : List Oper → Act → World → Prop
  | [], a, w => Q .normal a w
  | o :: rest, a, w => Step r P all o (wl all Q rest) Q a w

theorem wl_range (all : Array Oper) (Q : Exit → Act → World → Prop) (l : List Oper) : ∀ k, (∀ j, l[j]? = all[k + j]?) → ∀ a w, wl r P all Q l a w → wpOpsIn (Fc r) 0 P all Q (List.range' k l.length) a w := by
  induction l with
  | nil => intro k _ a w h; simpa [wpOpsIn, wl] using h
  | cons o l ih =>
    intro k h a w hw
    have h0 : all[k]? = some o := by simpa using (h 0).symm
    have ih' := ih (k + 1) (fun j => by have := h (j + 1); simpa [Nat.add_assoc, Nat.add_comm 1 j] using this)
    simp only [List.length_cons, List.range'_succ, wpOpsIn, h0]
    simp only [wl, Step] at hw
    split
    · rename_i hx; rw [if_pos hx] at hw; exact Oper.wpIn_mono ih' hw
    · rename_i hx; rw [if_neg hx] at hw; exact ⟨fun _ _ => trivial, ih' _ _ hw⟩

variable (base : World) (n : Nat) (ds : List Deferred)
/-- What is asked where an activation has come to an end of something. -/
def TK (K : Act → World → Prop) (env : Env) (l : List HP) : Prop := ∀ a w, AS n ds env a → St base l w → K a w
def TL (all : Array Oper) (rest : List Oper) (Q : Exit → Act → World → Prop) (env : Env) (l : List HP) : Prop := TK base n ds (wl r P all Q rest) env l
def TC (c : Code) (Q : Exit → Act → World → Prop) (env : Env) (l : List HP) : Prop := TK base n ds (c.wpIn (Fc r) 0 P Q) env l
end

section rules
variable {r : Option Nat} {P : Program} {base : World} {n : Nat} {ds : List Deferred} {Q : Exit → Act → World → Prop} {env env' : Env} {l l' : List HP}

theorem TK.sub {K : Act → World → Prop} (s : Sub env env') (h : TK base n ds K env' l) : TK base n ds K env l := fun a w ha hw => h a w (ha.sub s) hw
theorem TK.ent {K : Act → World → Prop} (s : Ent l l') (h : TK base n ds K env l') : TK base n ds K env l := fun a w ha hw => h a w ha (hw.ent s)
theorem TK.open {α : Type} {K : Act → World → Prop} {f : α → List HP} (s : ∀ h, lst l h → ∃ x, lst (f x) h) (h : ∀ x, TK base n ds K env (f x)) : TK base n ds K env l := fun a w ha hw =>
  let ⟨_, hf, hl⟩ := hw.heap
  let ⟨x, hx⟩ := s _ hl
  h x a w ha ⟨hw.os, hw.tape, hw.output, _, hf, hx⟩
theorem TK.fact {K : Act → World → Prop} {p : Prop} (h : p → TK base n ds K env l) : TK base n ds K env (fact p :: l) := fun a w ha hw =>
  let ⟨_, hf, hl⟩ := hw.heap
  h (lst_fact hl).1 a w ha ⟨hw.os, hw.tape, hw.output, _, hf, (lst_fact hl).2⟩
/-- A fact that the list bears. -/
theorem TK.know {K : Act → World → Prop} {p : Prop} (s : ∀ h, lst l h → p) (h : p → TK base n ds K env l) : TK base n ds K env l := fun a w ha hw => let ⟨_, _, hl⟩ := hw.heap; h (s _ hl) a w ha hw

/-- Behind the first of two; out of a block. -/
def Th (K : Act → World → Prop) (Q : Exit → Act → World → Prop) : Exit → Act → World → Prop := Exit.then K Q
def Bk (id : Nat) (Q : Exit → Act → World → Prop) : Exit → Act → World → Prop := Exit.inBlock id Q
/-- What comes behind the first of two. -/
def Nx (r : Option Nat) (P : Program) (y : Code) (Q : Exit → Act → World → Prop) : Act → World → Prop := y.wpIn (Fc r) 0 P Q
theorem tc_seq {x y : Code} (h : TC r P base n ds x (Th (Nx r P y Q) Q) env l) : TC r P base n ds (.seq x y) Q env l := fun a w ha hw => wpIn_seq (h a w ha hw)
theorem tk_nx {y : Code} (h : TC r P base n ds y Q env l) : TK base n ds (Nx r P y Q) env l := h
theorem tk_then_n {K : Act → World → Prop} (h : TK base n ds K env l) : TK base n ds (Th K Q .normal) env l := h
theorem tk_then_x {K : Act → World → Prop} {id : Nat} (h : TK base n ds (Q (.exit id)) env l) : TK base n ds (Th K Q (.exit id)) env l := h
theorem tk_then_r {K : Act → World → Prop} (h : TK base n ds (Q .ret) env l) : TK base n ds (Th K Q .ret) env l := h
theorem tk_blk_n {id : Nat} (h : TK base n ds (Q .normal) env l) : TK base n ds (Bk id Q .normal) env l := h
theorem tk_blk_r {id : Nat} (h : TK base n ds (Q .ret) env l) : TK base n ds (Bk id Q .ret) env l := h
theorem tk_blk_x {id : Nat} (h : TK base n ds (Q .normal) env l) : TK base n ds (Bk id Q (.exit id)) env l := fun a w ha hs => by
  show Exit.inBlock id Q (.exit id) a w
  simp only [Exit.inBlock, if_true]; exact h a w ha hs
theorem tk_blk_y {id id' : Nat} (hne : Nat.beq id' id = false) (h : TK base n ds (Q (.exit id')) env l) : TK base n ds (Bk id Q (.exit id')) env l := fun a w ha hs => by
  have h1 : id' ≠ id := fun e => by rw [e] at hne; simp at hne
  show Exit.inBlock id Q (.exit id') a w
  simp only [Exit.inBlock]; rw [if_neg h1]; exact h a w ha hs
theorem tc_skip (h : TK base n ds (Q .normal) env l) : TC r P base n ds .skip Q env l := fun a w ha hw => wpIn_skip (h a w ha hw)
theorem tc_exit {id : Nat} (h : TK base n ds (Q (.exit id)) env l) : TC r P base n ds (.exit id) Q env l := fun a w ha hw => wpIn_exit (h a w ha hw)
theorem tc_ret (h : TK base n ds (Q .ret) env l) : TC r P base n ds .ret Q env l := fun a w ha hw => wpIn_ret (h a w ha hw)
theorem tc_block {id : Nat} {c : Code} (h : TC r P base n ds c (Bk id Q) env l) : TC r P base n ds (.block id c) Q env l := fun a w ha hw => wpIn_block (h a w ha hw)
theorem tc_cond {c : Operand} {x y : Code} {t : Bool} (hc : ev env c = some (.bool t)) (h1 : t = true → TC r P base n ds x Q env l) (h2 : t = false → TC r P base n ds y Q env l) : TC r P base n ds (.cond c x y) Q env l :=
  fun a w ha hw => by
    have he := ha.ev hc
    cases t with
    | true => exact wpIn_cond_true he (h1 rfl a w ha hw)
    | false => exact wpIn_cond_false he (h2 rfl a w ha hw)
theorem tc_cond_t {c : Operand} {x y : Code} {t : Bool} (hc : ev env c = some (.bool t)) (ht : t = true) (h1 : TC r P base n ds x Q env l) : TC r P base n ds (.cond c x y) Q env l :=
  fun a w ha hw => wpIn_cond_true (by rw [← ht]; exact ha.ev hc) (h1 a w ha hw)
theorem tc_cond_f {c : Operand} {x y : Code} {t : Bool} (hc : ev env c = some (.bool t)) (ht : t = false) (h1 : TC r P base n ds y Q env l) : TC r P base n ds (.cond c x y) Q env l :=
  fun a w ha hw => wpIn_cond_false (by rw [← ht]; exact ha.ev hc) (h1 a w ha hw)

/-- A loop whose measure is read off a state of the prover's own. -/
theorem wpIn_loop_ix {F : Fence} {k : Nat} {ι : Type} {c : Code} (I : ι → Act → World → Prop) (m : ι → Nat)
    (round : ∀ i a w, I i a w → c.wpIn F k P (Exit.then (fun a' w' => ∃ j, m j < m i ∧ I j a' w') Q) a w) (i0 : ι) {a : Act} {w : World} (h0 : I i0 a w) : (Code.loop c).wpIn F k P Q a w := by
  intro b rest cs hro hb hr
  have key : ∀ q i a w, m i = q → I i a w → ∃ e a' w', Q e a' w' ∧ ArrivesIn (Machine.fenced P F) P (lone (b.atR a (.code c :: .inLoop c :: rest)) cs w) b rest cs e a' w' := by
    intro q
    induction q using Nat.strongRecOn with
    | _ q ih =>
      intro i a w hq hI
      obtain ⟨e, a1, w1, hQ, harr⟩ := round i a w hI b (.inLoop c :: rest) cs hro hb hr
      cases e with
      | normal =>
        obtain ⟨j, hj, hI1⟩ := hQ
        obtain ⟨e2, a2, w2, hQ2, harr2⟩ := ih (m j) (hq ▸ hj) j a1 w1 rfl hI1
        exact ⟨e2, a2, w2, hQ2, .of_steps (StepsIn.trans harr (.one (fenced_calm hb hr rfl) stepR_inLoop)) harr2⟩
      | exit id => exact ⟨_, a1, w1, hQ, .pass (x := .inLoop c) rfl (fun _ _ => .inl (by simp)) harr⟩
      | goto l => exact ⟨_, a1, w1, hQ, .pass (x := .inLoop c) rfl (fun _ _ => .inl (by simp)) harr⟩
      | ret => exact ⟨_, a1, w1, hQ, .pass (x := .inLoop c) rfl (fun _ _ => .inl (by simp)) harr⟩
      | panic ch => exact ⟨_, a1, w1, hQ, .pass (x := .inLoop c) rfl (fun _ _ => .inl (by simp)) harr⟩
      | outgrown => exact ⟨_, a1, w1, hQ, .pass (x := .inLoop c) rfl (fun _ _ => .inl (by simp)) harr⟩
  obtain ⟨e, a', w', hQ, harr⟩ := key _ i0 a w rfl h0
  exact ⟨e, a', w', hQ, .of_steps (.one (fenced_calm hb hr rfl) stepR_loop) harr⟩

/-- A loop: 'I', 'L' say, for a state of the prover's own, what the slots and the list hold at the round's head; 'm' goes down. -/
theorem tc_loop {ι : Type} {c : Code} (I : ι → Env) (L : ι → List HP) (m : ι → Nat) (i0 : ι) (hs : Sub env (I i0)) (hl : Ent l (L i0))
    (round : ∀ (K : Act → World → Prop) (i : ι), (∀ env l j, m j < m i → Sub env (I j) → Ent l (L j) → TK base n ds K env l) → TC r P base n ds c (Th K Q) (I i) (L i)) : TC r P base n ds (.loop c) Q env l := fun _a _w ha hw =>
  wpIn_loop_ix (fun i a w => AS n ds (I i) a ∧ St base (L i) w) m
    (fun i _ _ h => round _ i (fun _ _ j hj s e _ _ ha' hw' => ⟨j, hj, ha'.sub s, hw'.ent e⟩) _ _ h.1 h.2) i0 ⟨ha.sub hs, hw.ent hl⟩

/-! ### Lists of operations -/
theorem tc_region {id : Nat} {ops : Array Oper} (h : TL r P base n ds ops ops.toList Q env l) : TC r P base n ds (.region id ops false) Q env l := fun a w ha hw =>
  wpIn_region (by
    rw [List.range_eq_range', ← Array.length_toList]
    exact wl_range r P ops Q ops.toList 0 (by simp) a w (h a w ha hw))
theorem tl_nil {all : Array Oper} (h : TK base n ds (Q .normal) env l) : TL r P base n ds all [] Q env l := h
theorem Nat.lt_of_ble_eq {a b : Nat} (h : Nat.ble (a + 1) b = true) : a < b := Nat.le_of_ble_eq_true h
theorem tl_q {all : Array Oper} {o : Oper} {rest : List Oper} {d : Nat} {v : Value} (hq : OpQ r P all o n ds env l v) (hd : o.dst = some d) (hn : d < n)
    (h : TL r P base n ds all rest Q ((d, v) :: env) l) : TL r P base n ds all (o :: rest) Q env l := fun a w ha hw =>
  Step.of_v r P (hq base [] a w (ha.ao all o) (by simpa using hw)) (fun u w' ⟨e, hw'⟩ => by
    subst e; rw [hd]; exact h _ _ (ha.put hn _) (by simpa using hw'))
theorem tl_q0 {all : Array Oper} {o : Oper} {rest : List Oper} {v : Value} (hq : OpQ r P all o n ds env l v) (hd : o.dst = none)
    (h : TL r P base n ds all rest Q env l) : TL r P base n ds all (o :: rest) Q env l := fun a w ha hw =>
  Step.of_v r P (hq base [] a w (ha.ao all o) (by simpa using hw)) (fun u w' ⟨e, hw'⟩ => by
    rw [hd]; exact h _ _ ha (by simpa using hw'))
theorem tl_n {α : Type} {all : Array Oper} {o : Oper} {rest : List Oper} {d : Nat} {val : α → Value} {post : α → List HP} (hq : OpN r P all o n ds env l val post) (hd : o.dst = some d) (hn : d < n)
    (h : ∀ x, TL r P base n ds all rest Q ((d, val x) :: env) (post x)) : TL r P base n ds all (o :: rest) Q env l := fun a w ha hw =>
  Step.of_v r P (hq base a w (ha.ao all o) hw) (fun u w' ⟨x, e, hw'⟩ => by
    subst e; rw [hd]; exact h x _ _ (ha.put hn _) hw')
theorem tl_n0 {α : Type} {all : Array Oper} {o : Oper} {rest : List Oper} {val : α → Value} {post : α → List HP} (hq : OpN r P all o n ds env l val post) (hd : o.dst = none)
    (h : ∀ x, TL r P base n ds all rest Q env (post x)) : TL r P base n ds all (o :: rest) Q env l := fun a w ha hw =>
  Step.of_v r P (hq base a w (ha.ao all o) hw) (fun u w' ⟨x, e, hw'⟩ => by
    rw [hd]; exact h x _ _ ha hw')
/-- A test that is not decided yet, by cases. -/
theorem tl_case {all : Array Oper} {rest : List Oper} (d : Nat) {t : Bool} (hd : look env d = some (.bool t))
    (h1 : t = true → TL r P base n ds all rest Q ((d, .bool true) :: env) l) (h2 : t = false → TL r P base n ds all rest Q ((d, .bool false) :: env) l) : TL r P base n ds all rest Q env l := by
  cases t with
  | true => exact fun a w ha hw => h1 rfl a w (ha.subs (look_again hd)) hw
  | false => exact fun a w ha hw => h2 rfl a w (ha.subs (look_again hd)) hw
theorem tl_gcase {all : Array Oper} {o : Oper} {rest : List Oper} {d j : Nat} {u t : Bool} {oj : Oper} (_hg : o.guard = some (j, u)) (_hj : all[j]? = some oj) (_hdj : oj.dst = some d) (hd : look env d = some (.bool t))
    (h1 : t = true → TL r P base n ds all (o :: rest) Q ((d, .bool true) :: env) l) (h2 : t = false → TL r P base n ds all (o :: rest) Q ((d, .bool false) :: env) l) : TL r P base n ds all (o :: rest) Q env l := tl_case d hd h1 h2
/-- An operation that is not wanted. -/
theorem tl_skip {all : Array Oper} {o : Oper} {rest : List Oper} {d j : Nat} {u t : Bool} {oj : Oper} {dj : Nat} (hg : o.guard = some (j, u)) (hj : all[j]? = some oj) (hdj : oj.dst = some dj) (hv : look env dj = some (.bool t)) (hu : (t == u) = false)
    (hd : o.dst = some d) (hn : d < n) (h : TL r P base n ds all rest Q ((d, undef) :: env) l) : TL r P base n ds all (o :: rest) Q env l := fun a w ha hw => by
  have hw' : Region.wanted o (yielded all a.tmps) = false := wanted_of hg hj hdj (ha.val _ _ hv) ▸ hu
  unfold wl Step
  rw [if_neg (by simp [hw']), hd]
  exact h _ _ (ha.put hn _) hw
end rules
end Go.Sl
