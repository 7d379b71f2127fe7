/- SlA: SlHeap, SlStep, SlOps, SlOps2, SlOps3, SlOps4, SlCall. -/
import Derived.OrdersIn
import Derived.RangeFuncIn
import Derived.RangeFuncLeaves
import Derived.WalkKit
import Derived.WalkSpells
import Derived.WalkLawsBesides
/- Assertions on the heap: partial heaps, separating lists of assertions, and what a world that meets such a list gives. No program, no condition. -/
namespace Go.Sl

abbrev Hp := Nat → Option (Bool × Obj)
abbrev HP := Hp → Prop

def Disj (a b : Hp) : Prop := ∀ k, a k = none ∨ b k = none ∨ (a k = b k ∧ ∃ o, a k = some (false, o))
def joinH (a b : Hp) : Hp := fun k => match a k with | some o => some o | none => b k
def sep (p q : HP) : HP := fun h => ∃ a b, Disj a b ∧ h = joinH a b ∧ p a ∧ q b
def lst : List HP → HP
  | [] => fun _ => True
  | p :: l => sep p (lst l)

theorem joinH_left {a b : Hp} {k : Nat} {o : Bool × Obj} (h : a k = some o) : joinH a b k = some o := by simp [joinH, h]
theorem joinH_none {a b : Hp} {k : Nat} (h : a k = none) : joinH a b k = b k := by simp [joinH, h]
theorem joinH_comm {a b : Hp} (h : Disj a b) : joinH a b = joinH b a := by
  funext k
  rcases h k with h | h | ⟨h, o, h'⟩
  · rw [joinH_none h]; unfold joinH; split <;> simp_all
  · rw [joinH_none (a := b) h]; unfold joinH; split <;> simp_all
  · unfold joinH; rw [← h]
theorem Disj.symm {a b : Hp} (h : Disj a b) : Disj b a := fun k => by
  rcases h k with h | h | ⟨h, o, h'⟩
  · exact .inr (.inl h)
  · exact .inl h
  · exact .inr (.inr ⟨h.symm, o, by rw [← h]; exact h'⟩)
theorem joinH_assoc (a b c : Hp) : joinH (joinH a b) c = joinH a (joinH b c) := by
  funext k; unfold joinH; cases a k <;> rfl
theorem joinH_eq_none {a b : Hp} {k : Nat} (h : joinH a b k = none) : a k = none ∧ b k = none := by
  unfold joinH at h
  cases ha : a k with
  | none => rw [ha] at h; exact ⟨rfl, h⟩
  | some o => rw [ha] at h; cases h
theorem Disj.join_left {a b c : Hp} (hab : Disj a b) (h : Disj (joinH a b) c) : Disj a c ∧ Disj b c := by
  constructor <;> intro k <;> rcases h k with h | h | ⟨h, o, h'⟩
  · exact .inl (joinH_eq_none h).1
  · exact .inr (.inl h)
  · cases ha : a k with
    | none => exact .inl rfl
    | some x => rw [joinH_left ha] at h h'; exact .inr (.inr ⟨h, o, h'⟩)
  · exact .inl (joinH_eq_none h).2
  · exact .inr (.inl h)
  · cases hb : b k with
    | none => exact .inl rfl
    | some x =>
      rcases hab k with ha | hb' | ⟨ha, o', ha'⟩
      · rw [joinH_none ha, hb] at h h'; exact .inr (.inr ⟨h, o, h'⟩)
      · rw [hb] at hb'; cases hb'
      · rw [joinH_left ha'] at h h'; rw [← hb, ← ha, ha']; exact .inr (.inr ⟨h, o, h'⟩)
theorem Disj.join_right {a b c : Hp} (hbc : Disj b c) (h : Disj a (joinH b c)) : Disj a b ∧ Disj a c := by
  have := Disj.join_left hbc h.symm
  exact ⟨this.1.symm, this.2.symm⟩
theorem Disj.joinl {a b c : Hp} (h : Disj a c) (h' : Disj b c) : Disj (joinH a b) c := by
  intro k
  rcases h k with h | h | ⟨h, o, h2⟩
  · rcases h' k with h' | h' | ⟨h', o, h2⟩
    · left; simp [joinH, h, h']
    · exact .inr (.inl h')
    · rw [joinH_none h]; exact .inr (.inr ⟨h', o, h2⟩)
  · exact .inr (.inl h)
  · rw [joinH_left h2, ← h, h2]; exact .inr (.inr ⟨rfl, o, rfl⟩)
theorem Disj.joinr {a b c : Hp} (h : Disj a b) (h' : Disj a c) : Disj a (joinH b c) := (Disj.joinl h.symm h'.symm).symm

theorem sep_comm {p q : HP} {h : Hp} (x : sep p q h) : sep q p h := by
  obtain ⟨a, b, hd, rfl, ha, hb⟩ := x
  exact ⟨b, a, hd.symm, joinH_comm hd, hb, ha⟩
theorem sep_assoc {p q r : HP} {h : Hp} (x : sep (sep p q) r h) : sep p (sep q r) h := by
  obtain ⟨_, c, hd, rfl, ⟨a, b, hab, rfl, ha, hb⟩, hc⟩ := x
  obtain ⟨h1, h2⟩ := Disj.join_left hab hd
  exact ⟨a, joinH b c, hab.joinr h1, joinH_assoc a b c, ha, b, c, h2, rfl, hb, hc⟩
theorem sep_assoc' {p q r : HP} {h : Hp} (x : sep p (sep q r) h) : sep (sep p q) r h := by
  obtain ⟨a, _, hd, rfl, ha, b, c, hbc, rfl, hb, hc⟩ := x
  obtain ⟨h1, h2⟩ := Disj.join_right hbc hd
  exact ⟨joinH a b, c, h2.joinl hbc, (joinH_assoc a b c).symm, ⟨a, b, h1, rfl, ha, hb⟩, hc⟩
theorem sep_mono {p p' q q' : HP} {h : Hp} (hp : ∀ h, p h → p' h) (hq : ∀ h, q h → q' h) (x : sep p q h) : sep p' q' h := by
  obtain ⟨a, b, hd, rfl, ha, hb⟩ := x
  exact ⟨a, b, hd, rfl, hp _ ha, hq _ hb⟩
theorem sep_swap {p q r : HP} {h : Hp} (x : sep p (sep q r) h) : sep q (sep p r) h :=
  sep_assoc (sep_mono (fun _ y => sep_comm y) (fun _ y => y) (sep_assoc' x))

theorem lst_join {l : List HP} : ∀ {a b : Hp}, lst l a → Disj a b → lst l (joinH a b) := by
  induction l with
  | nil => intros; trivial
  | cons p l ih =>
    intro a b h hd
    obtain ⟨x, y, hxy, rfl, hx, hy⟩ := h
    obtain ⟨h1, h2⟩ := Disj.join_left hxy hd
    exact ⟨x, joinH y b, hxy.joinr h1, joinH_assoc x y b, hx, ih hy h2⟩
theorem lst_drop {p : HP} {l : List HP} {h : Hp} (x : lst (p :: l) h) : lst l h := by
  obtain ⟨a, b, hd, rfl, _, hb⟩ := x
  rw [joinH_comm hd]; exact lst_join hb hd.symm
theorem lst_swap {p q : HP} {l : List HP} {h : Hp} (x : lst (p :: q :: l) h) : lst (q :: p :: l) h := sep_swap x
theorem lst_cons_mono {p p' : HP} {l l' : List HP} {h : Hp} (hp : ∀ h, p h → p' h) (hl : ∀ h, lst l h → lst l' h) (x : lst (p :: l) h) : lst (p' :: l') h := sep_mono hp hl x
theorem lst_flat {xs l : List HP} : ∀ {h : Hp}, lst (lst xs :: l) h → lst (xs ++ l) h := by
  induction xs with
  | nil => intro h x; exact lst_drop x
  | cons p xs ih =>
    intro h x
    exact sep_mono (fun _ y => y) (fun _ y => ih y) (sep_assoc x)
theorem lst_unflat {xs l : List HP} : ∀ {h : Hp}, lst (xs ++ l) h → lst (lst xs :: l) h := by
  induction xs with
  | nil => intro h x; exact ⟨fun _ => none, h, fun _ => .inl rfl, by funext k; rfl, trivial, x⟩
  | cons p xs ih =>
    intro h x
    exact sep_assoc' (sep_mono (fun _ y => y) (fun _ y => ih y) x)

inductive Rem : List HP → HP → List HP → Prop
  | here (x : HP) (l : List HP) : Rem (x :: l) x l
  | there {l l' : List HP} {x : HP} (y : HP) (h : Rem l x l') : Rem (y :: l) x (y :: l')
theorem Rem.out {l l' : List HP} {x : HP} (h : Rem l x l') : ∀ {hp : Hp}, lst l hp → lst (x :: l') hp := by
  induction h with
  | here => exact fun h => h
  | there y _ ih => exact fun h => lst_swap (lst_cons_mono (fun _ h => h) (fun _ h => ih h) h)
theorem Rem.back {l l' : List HP} {x : HP} (h : Rem l x l') : ∀ {hp : Hp}, lst (x :: l') hp → lst l hp := by
  induction h with
  | here => exact fun h => h
  | there y _ ih => exact fun h => lst_cons_mono (fun _ h => h) (fun _ h => ih h) (lst_swap h)
inductive Rep (x y : HP) : List HP → List HP → Prop
  | here (l : List HP) : Rep x y (x :: l) (y :: l)
  | there {l l' : List HP} (z : HP) (h : Rep x y l l') : Rep x y (z :: l) (z :: l')
theorem Rep.rem {x y : HP} {l l' : List HP} (h : Rep x y l l') : ∃ r, Rem l x r ∧ Rem l' y r := by
  induction h with
  | here l => exact ⟨l, .here _ _, .here _ _⟩
  | there z _ ih => obtain ⟨r, h1, h2⟩ := ih; exact ⟨z :: r, .there _ h1, .there _ h2⟩
inductive Pick : List HP → List HP → List HP → Prop
  | nil (l : List HP) : Pick l [] l
  | cons {l l' p r : List HP} {x : HP} (h : Rem l x l') (h' : Pick l' p r) : Pick l (x :: p) r
theorem Pick.out {l p r : List HP} (h : Pick l p r) : ∀ {hp : Hp}, lst l hp → lst (p ++ r) hp := by
  induction h with
  | nil => exact fun h => h
  | cons hr _ ih => exact fun h => lst_cons_mono (fun _ h => h) (fun _ h => ih h) (hr.out h)
theorem Pick.back {l p r : List HP} (h : Pick l p r) : ∀ {hp : Hp}, lst (p ++ r) hp → lst l hp := by
  induction h with
  | nil => exact fun h => h
  | cons hr _ ih => exact fun h => hr.back (lst_cons_mono (fun _ h => h) (fun _ h => ih h) h)

theorem Pick.whole : ∀ l : List HP, Pick l l []
  | [] => .nil _
  | x :: l => .cons (.here x l) (Pick.whole l)

def Ent (l l' : List HP) : Prop := ∀ h, lst l h → lst l' h
theorem Ent.refl (l : List HP) : Ent l l := fun _ h => h
theorem Ent.trans {a b c : List HP} (h : Ent a b) (k : Ent b c) : Ent a c := fun _ x => k _ (h _ x)
theorem Ent.nil (l : List HP) : Ent l [] := fun _ _ => trivial
theorem Ent.cons {l r l' : List HP} {x : HP} (h : Rem l x r) (k : Ent r l') : Ent l (x :: l') := fun _ y => lst_cons_mono (fun _ h => h) (fun _ h => k _ h) (h.out y)
theorem Ent.drop {p : HP} {l l' : List HP} (k : Ent l l') : Ent (p :: l) l' := fun _ x => k _ (lst_drop x)
theorem Ent.append {l l' : List HP} (r : List HP) (k : Ent l l') : Ent (l ++ r) (l' ++ r) := fun _ x => lst_flat (lst_cons_mono (fun _ h => k _ h) (fun _ h => h) (lst_unflat x))

/-! ### Assertions -/
def blk (b : Nat) (o : Obj) : HP := fun h => h = fun k => if k = b then some (true, o) else none
def ro (b : Nat) (o : Obj) : HP := fun h => h = fun k => if k = b then some (false, o) else none
def fact (p : Prop) : HP := fun h => p ∧ h = fun _ => none
class Pers (p : HP) : Prop where
  out : ∀ h, p h → ∀ k x, h k = some x → x.1 = false

theorem lst_fact {p : Prop} {l : List HP} {h : Hp} (x : lst (fact p :: l) h) : p ∧ lst l h := by
  obtain ⟨a, b, _, rfl, ⟨hp, rfl⟩, hb⟩ := x
  exact ⟨hp, hb⟩
theorem lst_fact_mk {p : Prop} {l : List HP} {h : Hp} (hp : p) (x : lst l h) : lst (fact p :: l) h :=
  ⟨fun _ => none, h, fun _ => .inl rfl, by funext k; rfl, ⟨hp, rfl⟩, x⟩
theorem Ent.fact {p : Prop} {l l' : List HP} (hp : p) (k : Ent l l') : Ent l (fact p :: l') := fun _ x => lst_fact_mk hp (k _ x)
theorem lst_blk {b : Nat} {o : Obj} {l : List HP} {h : Hp} (x : lst (blk b o :: l) h) : h b = some (true, o) := by
  obtain ⟨a, c, _, rfl, rfl, _⟩ := x
  exact joinH_left (by simp)
theorem lst_ro {b : Nat} {o : Obj} {l : List HP} {h : Hp} (x : lst (ro b o :: l) h) : h b = some (false, o) := by
  obtain ⟨a, c, _, rfl, rfl, _⟩ := x
  exact joinH_left (by simp)
theorem Disj.one {b : Nat} {o o' : Obj} {c : Hp} {t' : Bool} (hd : Disj (fun k => if k = b then some (true, o) else none) c) : Disj (fun k => if k = b then some (t', o') else none) c := fun k => by
  by_cases hk : k = b
  · rcases hd k with h | h | ⟨_, o2, h⟩
    · simp [hk] at h
    · exact .inr (.inl h)
    · simp [hk] at h
  · left; simp [hk]
theorem lst_blk_set {b : Nat} {o : Obj} (o' : Obj) {l : List HP} {h : Hp} (x : lst (blk b o :: l) h) : lst (blk b o' :: l) (fun k => if k = b then some (true, o') else h k) := by
  obtain ⟨a, c, hd, rfl, rfl, hc⟩ := x
  refine ⟨_, c, hd.one, ?_, rfl, hc⟩
  funext k
  by_cases hk : k = b
  · simp [joinH, hk]
  · simp [joinH, hk]
theorem lst_blk_ro {b : Nat} {o : Obj} {l : List HP} {h : Hp} (x : lst (blk b o :: l) h) : lst (ro b o :: l) (fun k => if k = b then some (false, o) else h k) := by
  obtain ⟨a, c, hd, rfl, rfl, hc⟩ := x
  refine ⟨_, c, hd.one, ?_, rfl, hc⟩
  funext k
  by_cases hk : k = b
  · simp [joinH, hk]
  · simp [joinH, hk]
theorem lst_blk_new {n : Nat} (o : Obj) {l : List HP} {h : Hp} (x : lst l h) (hn : h n = none) : lst (blk n o :: l) (fun k => if k = n then some (true, o) else h k) := by
  refine ⟨fun k => if k = n then some (true, o) else none, h, ?_, ?_, rfl, x⟩
  · intro k
    by_cases hk : k = n
    · right; left; rw [hk]; exact hn
    · left; simp [hk]
  · funext k
    by_cases hk : k = n
    · simp [joinH, hk]
    · simp [joinH, hk]
theorem lst_dup {p : HP} [hp : Pers p] {l : List HP} {h : Hp} (x : lst (p :: l) h) : lst (p :: p :: l) h := by
  obtain ⟨a, c, hd, rfl, ha, hc⟩ := x
  refine ⟨a, joinH a c, fun k => ?_, ?_, ha, a, c, hd, rfl, ha, hc⟩
  · cases hk : a k with
    | none => exact .inl rfl
    | some y =>
      obtain ⟨t, o⟩ := y
      have ht : t = false := hp.out a ha k _ hk
      subst ht
      exact .inr (.inr ⟨(joinH_left hk).symm, o, rfl⟩)
  · funext k
    unfold joinH
    cases a k <;> rfl
theorem Rem.keep {l r : List HP} {x : HP} [Pers x] (h : Rem l x r) : ∀ {hp : Hp}, lst l hp → lst (x :: l) hp := fun y => lst_cons_mono (fun _ z => z) (fun _ z => h.back z) (lst_dup (h.out y))
instance pers_ro (b : Nat) (o : Obj) : Pers (ro b o) := ⟨by
  rintro h rfl k x hk
  by_cases e : k = b
  · simp [e] at hk; rw [← hk]
  · simp [e] at hk⟩
instance pers_fact (p : Prop) : Pers (fact p) := ⟨by
  rintro h ⟨_, rfl⟩ k x hk; cases hk⟩
/-! ### Worlds -/
def Fits (h : Hp) (w : World) : Prop := ∀ k x, h k = some x → w.heap[k]? = some x.2
structure St (base : World) (l : List HP) (w : World) : Prop where
  os : w.os = base.os
  tape : w.tape = base.tape
  output : w.output = base.output
  heap : ∃ h, Fits h w ∧ lst l h

theorem St.ent {base : World} {l l' : List HP} {w : World} (h : St base l w) (e : Ent l l') : St base l' w := ⟨h.os, h.tape, h.output, let ⟨x, f, y⟩ := h.heap; ⟨x, f, e _ y⟩⟩
theorem St.drawn {base : World} {l : List HP} {w : World} (h : St base l w) (n : Nat) : St base l { w with drawn := n } := ⟨h.os, h.tape, h.output, h.heap⟩
theorem St.block {base : World} {l r : List HP} {w : World} {b : Nat} {o : Obj} (h : St base l w) (hr : Rem l (blk b o) r) : w.heap[b]? = some o := let ⟨_, f, y⟩ := h.heap; f _ _ (lst_blk (hr.out y))
theorem St.shared {base : World} {l r : List HP} {w : World} {b : Nat} {o : Obj} (h : St base l w) (hr : Rem l (ro b o) r) : w.heap[b]? = some o := let ⟨_, f, y⟩ := h.heap; f _ _ (lst_ro (hr.out y))
theorem St.share {base : World} {l r : List HP} {w : World} {b : Nat} {o : Obj} (h : St base l w) (hr : Rem l (blk b o) r) : St base (ro b o :: r) w := by
  obtain ⟨x, f, y⟩ := h.heap
  have y1 := hr.out y
  refine ⟨h.os, h.tape, h.output, _, ?_, lst_blk_ro y1⟩
  intro k z hk
  by_cases e : k = b
  · subst e; simp only [if_true, Option.some.injEq] at hk; rw [← hk]; exact f k (true, o) (lst_blk y1)
  · simp only [if_neg e] at hk; exact f k z hk
theorem St.alloc {base : World} {l : List HP} {w : World} (h : St base l w) (o : Obj) : St base (blk w.heap.size o :: l) { w with heap := w.heap.push o } := by
  obtain ⟨x, f, y⟩ := h.heap
  refine ⟨h.os, h.tape, h.output, _, ?_, lst_blk_new (n := w.heap.size) o y ?_⟩
  · intro k z hk
    by_cases e : k = w.heap.size
    · subst e; simp only [if_true, Option.some.injEq] at hk; rw [← hk]; simp
    · simp only [if_neg e] at hk
      have := f k z hk
      have hlt : k < w.heap.size := (Array.getElem?_eq_some_iff.1 this).1
      rw [Array.getElem?_push, if_neg e]; exact this
  · cases hx : x w.heap.size with
    | none => rfl
    | some z => have := f _ z hx; simp at this
theorem St.setBlock' {base : World} {l : List HP} {w : World} {b : Nat} {o o' : Obj} {r : List HP} (h : St base l w) (hr1 : Rem l (blk b o) r) (w' : World)
    (h1 : w'.os = w.os) (h2 : w'.tape = w.tape) (h3 : w'.output = w.output) (h4 : ∀ k, w'.heap[k]? = if k = b then some o' else w.heap[k]?) : St base (blk b o' :: r) w' := by
  obtain ⟨x, f, y⟩ := h.heap
  refine ⟨h1.trans h.os, h2.trans h.tape, h3.trans h.output, _, ?_, lst_blk_set o' (hr1.out y)⟩
  intro k z hk
  rw [h4 k]
  by_cases e : k = b
  · subst e; simp only [if_true, Option.some.injEq] at hk ⊢; rw [← hk]
  · simp only [if_neg e] at hk ⊢; exact f k z hk
theorem St.setBlock {base : World} {l l' : List HP} {w : World} {b : Nat} {o o' : Obj} (h : St base l w) (hr : Rep (blk b o) (blk b o') l l') (w' : World)
    (h1 : w'.os = w.os) (h2 : w'.tape = w.tape) (h3 : w'.output = w.output) (h4 : ∀ k, w'.heap[k]? = if k = b then some o' else w.heap[k]?) : St base l' w' := by
  obtain ⟨r, hr1, hr2⟩ := hr.rem
  exact (h.setBlock' hr1 w' h1 h2 h3 h4).ent fun _ y => hr2.back y
theorem St.setCell {base : World} {l l' : List HP} {w : World} {b off : Nat} {c : Array Value} {T : TypeId} {fr : Nat × Nat} (v : Value) (h : St base l w)
    (hr : Rep (blk b (.cells c T fr)) (blk b (.cells (c.setIfInBounds off v) T fr)) l l') : St base l' (w.setCell ⟨b, off, none⟩ v) := by
  obtain ⟨r, hr1, hr2⟩ := hr.rem
  have hb := h.block hr1
  refine h.setBlock hr _ rfl rfl rfl (fun k => ?_)
  simp only [World.setCell, Array.getElem?_modify]
  by_cases hk : k = b
  · subst hk; simp [hb]
  · have hk' : ¬ b = k := fun e => hk e.symm
    simp [hk, hk']
theorem cell_of_block {w : World} {b off : Nat} {c : Array Value} {T : TypeId} {fr : Nat × Nat} (h : w.heap[b]? = some (.cells c T fr)) : w.cell? ⟨b, off, none⟩ = c[off]? := by simp [World.cell?, h]
theorem frozen_of_block {w : World} {b off : Nat} {c : Array Value} {T : TypeId} (h : w.heap[b]? = some (.cells c T (0, 0))) : w.frozen? ⟨b, off, none⟩ = false := by simp [World.frozen?, h]

end Go.Sl

/- The rules of the walk over assertions: what a frame holds, one operation, a list of operations, code, a call. For whatever program. -/
namespace Go.Sl

abbrev Env := List (Nat × Value)
def look : Env → Nat → Option Value
  | [], _ => none
  | (k, v) :: e, t => bif Nat.beq k t then some v else look e t
def ev (e : Env) : Operand → Option Value
  | .tmp t => look e t
  | .const v => some v
  | .global g => some (.pointer (some ⟨g, 0, none⟩))
  | .func f => some (.func (.func f) #[] #[])

structure AS (n : Nat) (ds : List Deferred) (e : Env) (a : Act) : Prop where
  size : a.tmps.size = n
  defers : a.defers = ds
  val : ∀ t v, look e t = some v → a.tmps.getD t undef = v
structure AO (all : Array Oper) (o : Oper) (n : Nat) (ds : List Deferred) (e : Env) (a : Act) : Prop where
  size : a.tmps.size = n
  defers : a.defers = ds
  val : ∀ t ∈ o.looksAt all, ∀ v, look e t = some v → a.tmps.getD t undef = v

theorem AS.ao {n : Nat} {ds : List Deferred} {e : Env} {a : Act} (h : AS n ds e a) (all : Array Oper) (o : Oper) : AO all o n ds e a := ⟨h.size, h.defers, fun t _ v hv => h.val t v hv⟩
theorem AO.ev {all : Array Oper} {o : Oper} {n : Nat} {ds : List Deferred} {e : Env} {a : Act} (h : AO all o n ds e a) {x : Operand} {v : Value} (hx : x ∈ o.op.operands.toList) (hv : ev e x = some v) : a.eval x = v := by
  cases x with
  | tmp t => exact h.val t (List.mem_append_left _ (List.mem_filterMap.2 ⟨.tmp t, hx, rfl⟩)) v hv
  | const u => simpa [Act.eval, Sl.ev] using hv
  | global g => simpa [Act.eval, Sl.ev] using hv
  | func f => simpa [Act.eval, Sl.ev] using hv
theorem AS.ev {n : Nat} {ds : List Deferred} {e : Env} {a : Act} (h : AS n ds e a) {x : Operand} {v : Value} (hv : ev e x = some v) : a.eval x = v := by
  cases x with
  | tmp t => exact h.val t v hv
  | const u => simpa [Act.eval, Sl.ev] using hv
  | global g => simpa [Act.eval, Sl.ev] using hv
  | func f => simpa [Act.eval, Sl.ev] using hv
theorem look_cons {e : Env} {k t : Nat} {v : Value} : look ((k, v) :: e) t = if k = t then some v else look e t := by
  show (bif Nat.beq k t then some v else look e t) = _
  by_cases h : k = t
  · subst h; simp
  · have : Nat.beq k t = false := by
      cases hb : Nat.beq k t with
      | false => rfl
      | true => exact absurd (Nat.eq_of_beq_eq_true hb) h
    simp [this, h]
theorem AS.put {n : Nat} {ds : List Deferred} {e : Env} {a : Act} (h : AS n ds e a) {d : Nat} (hd : d < n) (v : Value) : AS n ds ((d, v) :: e) (a.put (some d) v) := by
  refine ⟨by simpa [Act.put] using h.size, h.defers, fun t u hu => ?_⟩
  rw [look_cons] at hu
  by_cases ht : d = t
  · subst ht
    simp only [if_true, Option.some.injEq] at hu
    subst hu
    simp [Act.put, h.size, hd]
  · rw [if_neg ht] at hu
    have := h.val t u hu
    simp only [Act.put, Array.getD_eq_getD_getElem?, Array.getElem?_setIfInBounds, if_neg ht] at this ⊢
    exact this
inductive Prune (e : Env) : List Nat → Env → Prop
  | nil : Prune e [] []
  | cons {k : Nat} {v : Value} {ks : List Nat} {e' : Env} (h : look e k = some v) (t : Prune e ks e') : Prune e (k :: ks) ((k, v) :: e')
inductive Sub (e : Env) : Env → Prop
  | nil : Sub e []
  | cons {k : Nat} {v : Value} {e' : Env} (h : look e k = some v) (t : Sub e e') : Sub e ((k, v) :: e')
theorem Sub.look {e e' : Env} (h : Sub e e') : ∀ t v, Sl.look e' t = some v → Sl.look e t = some v := by
  induction h with
  | nil => intro t v h; cases h
  | cons h _ ih =>
    intro t v ht
    rw [look_cons] at ht
    split at ht
    · rename_i hk; subst hk; simpa using h.trans ht
    · exact ih t v ht
theorem Prune.sub {e e' : Env} {ks : List Nat} (h : Prune e ks e') : Sub e e' := by
  induction h with
  | nil => exact .nil
  | cons h _ ih => exact .cons h ih
theorem AS.subs {n : Nat} {ds : List Deferred} {e e' : Env} {a : Act} (h : AS n ds e a) (s : ∀ t v, Sl.look e' t = some v → Sl.look e t = some v) : AS n ds e' a := ⟨h.size, h.defers, fun t v hv => h.val t v (s t v hv)⟩
theorem look_again {e : Env} {d : Nat} {u : Value} (h : look e d = some u) : ∀ t v, look ((d, u) :: e) t = some v → look e t = some v := fun t v hv => by
  rw [look_cons] at hv
  split at hv
  · rename_i hk; subst hk; exact h.trans hv
  · exact hv
theorem yielded_of {all : Array Oper} {j dj : Nat} {oj : Oper} {tmps : Array Value} {t : Bool} (hj : all[j]? = some oj) (hdj : oj.dst = some dj) (hv : tmps.getD dj undef = .bool t) : yielded all tmps j = some t := by
  unfold yielded
  have h1 : tmps[dj]? = some (.bool t) := by
    rw [Array.getD_eq_getD_getElem?] at hv
    cases h : tmps[dj]? with
    | none => rw [h] at hv; simp [undef] at hv
    | some v => rw [h] at hv; simpa using hv
  simp [hj, hdj, h1]
theorem wanted_of {all : Array Oper} {o : Oper} {j dj : Nat} {oj : Oper} {tmps : Array Value} {t u : Bool} (hg : o.guard = some (j, u)) (hj : all[j]? = some oj) (hdj : oj.dst = some dj) (hv : tmps.getD dj undef = .bool t) : Region.wanted o (yielded all tmps) = (t == u) := by
  unfold Region.wanted
  rw [hg]
  simp only [yielded_of hj hdj hv]
  cases t <;> cases u <;> rfl
theorem wanted_none {all : Array Oper} {o : Oper} {tmps : Array Value} (hg : o.guard = none) : Region.wanted o (yielded all tmps) = true := by
  unfold Region.wanted; rw [hg]
theorem AS.sub {n : Nat} {ds : List Deferred} {e e' : Env} {a : Act} (h : AS n ds e a) (s : Sub e e') : AS n ds e' a := ⟨h.size, h.defers, fun t v hv => h.val t v (s.look t v hv)⟩

def Fc (r : Option Nat) : Fence := { Fence.wide with round := r }

section
variable (r : Option Nat) (P : Program)

def Step (all : Array Oper) (o : Oper) (K : Act → World → Prop) (Q : Exit → Act → World → Prop) (a : Act) (w : World) : Prop :=
  if Region.wanted o (yielded all a.tmps) then o.wpIn (Fc r) 0 P a w K Q else K (a.put o.dst undef) w
def noQ : Exit → Act → World → Prop := fun _ _ _ => False

def uponV (R : Value → World → Prop) : Result Next → Prop
  | .ok (.value v) w => R v w
  | .ok .skip w => R undef w
  | .ok (.enter f args) w => CallsIn (Fc r) 0 P f args w (fun e w' => ∃ v, e = .returned v ∧ R v w')
  | .ok (.round k f tmps assign body) w => RoundIn (Fc r) 0 P k f tmps assign body w (fun e w' => ∃ v, e = .returned v ∧ R v w')
  | _ => False
def VStep (all : Array Oper) (o : Oper) (a : Act) (w : World) (R : Value → World → Prop) : Prop :=
  (∀ c, o.op ≠ .defer c) ∧ if Region.wanted o (yielded all a.tmps) then uponV r P R ((execOp a.eval o).run P w) else R undef w
theorem uponV_mono {R R' : Value → World → Prop} (h : ∀ v w, R v w → R' v w) {res : Result Next} (x : uponV r P R res) : uponV r P R' res := by
  cases res with
  | ok y w =>
    cases y <;> simp only [uponV] at x ⊢ <;> first | exact h _ _ x | exact CallsIn.mono x (fun _ _ ⟨v, e, hv⟩ => ⟨v, e, h _ _ hv⟩) | exact RoundIn.mono x (fun _ _ ⟨v, e, hv⟩ => ⟨v, e, h _ _ hv⟩) | exact x
  | halt y w => exact x
theorem VStep.mono {all : Array Oper} {o : Oper} {a : Act} {w : World} {R R' : Value → World → Prop} (x : VStep r P all o a w R) (h : ∀ v w, R v w → R' v w) : VStep r P all o a w R' := by
  refine ⟨x.1, ?_⟩
  have x2 := x.2
  split
  · rename_i hw; rw [if_pos hw] at x2; exact uponV_mono r P h x2
  · rename_i hw; rw [if_neg hw] at x2; exact h _ _ x2
theorem Step.of_v {all : Array Oper} {o : Oper} {a : Act} {w : World} {R : Value → World → Prop} {K : Act → World → Prop} {Q : Exit → Act → World → Prop} (x : VStep r P all o a w R) (h : ∀ v w', R v w' → K (a.put o.dst v) w') : Step r P all o K Q a w := by
  unfold Step
  have x2 := x.2
  split
  · rename_i hw
    rw [if_pos hw] at x2
    refine ⟨fun _ _ => trivial, ?_⟩
    rw [Oper.semAt_eq _ _ _ x.1]
    generalize (execOp a.eval o).run P w = res at x2 ⊢
    cases res with
    | ok y w' =>
      cases y <;> simp only [uponV] at x2 <;> simp only [Oper.uponIn]
      case value v => exact h _ _ x2
      case skip => exact h _ _ x2
      case enter f args =>
        refine ⟨fun h => by simp [Fc, Fence.wide] at h, CallsIn.mono x2 ?_⟩
        rintro e w'' ⟨v, rfl, hv⟩; exact h _ _ hv
      case round k f tmps assign body =>
        refine ⟨fun h => by simp [Fc, Fence.wide] at h, RoundIn.mono x2 ?_⟩
        rintro e w'' ⟨v, rfl, hv⟩; exact h _ _ hv
    | halt y w' => exact x2.elim
  · rename_i hw; rw [if_neg hw] at x2; exact h _ _ x2
def OpQ (all : Array Oper) (o : Oper) (n : Nat) (ds : List Deferred) (env : Env) (lc : List HP) (v : Value) : Prop :=
  ∀ (base : World) (F : List HP) (a : Act) (w : World), AO all o n ds env a → St base (lc ++ F) w → VStep r P all o a w (fun u w' => u = v ∧ St base (lc ++ F) w')
def OpN {α : Type} (all : Array Oper) (o : Oper) (n : Nat) (ds : List Deferred) (env : Env) (l : List HP) (val : α → Value) (post : α → List HP) : Prop :=
  ∀ (base : World) (a : Act) (w : World), AO all o n ds env a → St base l w → VStep r P all o a w (fun u w' => ∃ x, u = val x ∧ St base (post x) w')

def wl (all : Array Oper) (Q : Exit → Act → World → Prop) : List Oper → Act → World → Prop
  | [], a, w => Q .normal a w
  | o :: rest, a, w => Step r P all o (wl all Q rest) Q a w

theorem wl_range (all : Array Oper) (Q : Exit → Act → World → Prop) (l : List Oper) : ∀ k, (∀ j, l[j]? = all[k + j]?) → ∀ a w, wl r P all Q l a w → wpOpsIn (Fc r) 0 P all Q (List.range' k l.length) a w := by
  induction l with
  | nil => intro k _ a w h; simpa [wpOpsIn, wl] using h
  | cons o l ih =>
    intro k h a w hw
    have h0 : all[k]? = some o := by simpa using (h 0).symm
    have ih' := ih (k + 1) (fun j => by have := h (j + 1); simpa [Nat.add_assoc, Nat.add_comm 1 j] using this)
    simp only [List.length_cons, List.range'_succ, wpOpsIn, h0]
    simp only [wl, Step] at hw
    split
    · rename_i hx; rw [if_pos hx] at hw; exact Oper.wpIn_mono ih' hw
    · rename_i hx; rw [if_neg hx] at hw; exact ⟨fun _ _ => trivial, ih' _ _ hw⟩

variable (base : World) (n : Nat) (ds : List Deferred)
def TK (K : Act → World → Prop) (env : Env) (l : List HP) : Prop := ∀ a w, AS n ds env a → St base l w → K a w
def TL (all : Array Oper) (rest : List Oper) (Q : Exit → Act → World → Prop) (env : Env) (l : List HP) : Prop := TK base n ds (wl r P all Q rest) env l
def TC (c : Code) (Q : Exit → Act → World → Prop) (env : Env) (l : List HP) : Prop := TK base n ds (c.wpIn (Fc r) 0 P Q) env l
end

section rules
variable {r : Option Nat} {P : Program} {base : World} {n : Nat} {ds : List Deferred} {Q : Exit → Act → World → Prop} {env env' : Env} {l l' : List HP}

theorem TK.sub {K : Act → World → Prop} (s : Sub env env') (h : TK base n ds K env' l) : TK base n ds K env l := fun a w ha hw => h a w (ha.sub s) hw
theorem TK.ent {K : Act → World → Prop} (s : Ent l l') (h : TK base n ds K env l') : TK base n ds K env l := fun a w ha hw => h a w ha (hw.ent s)
theorem TK.open {α : Type} {K : Act → World → Prop} {f : α → List HP} (s : ∀ h, lst l h → ∃ x, lst (f x) h) (h : ∀ x, TK base n ds K env (f x)) : TK base n ds K env l := fun a w ha hw =>
  let ⟨_, hf, hl⟩ := hw.heap
  let ⟨x, hx⟩ := s _ hl
  h x a w ha ⟨hw.os, hw.tape, hw.output, _, hf, hx⟩
theorem TK.fact {K : Act → World → Prop} {p : Prop} (h : p → TK base n ds K env l) : TK base n ds K env (fact p :: l) := fun a w ha hw =>
  let ⟨_, hf, hl⟩ := hw.heap
  h (lst_fact hl).1 a w ha ⟨hw.os, hw.tape, hw.output, _, hf, (lst_fact hl).2⟩
theorem TK.know {K : Act → World → Prop} {p : Prop} (s : ∀ h, lst l h → p) (h : p → TK base n ds K env l) : TK base n ds K env l := fun a w ha hw => let ⟨_, _, hl⟩ := hw.heap; h (s _ hl) a w ha hw

def Th (K : Act → World → Prop) (Q : Exit → Act → World → Prop) : Exit → Act → World → Prop := Exit.then K Q
def Bk (id : Nat) (Q : Exit → Act → World → Prop) : Exit → Act → World → Prop := Exit.inBlock id Q
def Nx (r : Option Nat) (P : Program) (y : Code) (Q : Exit → Act → World → Prop) : Act → World → Prop := y.wpIn (Fc r) 0 P Q
theorem tc_seq {x y : Code} (h : TC r P base n ds x (Th (Nx r P y Q) Q) env l) : TC r P base n ds (.seq x y) Q env l := fun a w ha hw => wpIn_seq (h a w ha hw)
theorem tk_nx {y : Code} (h : TC r P base n ds y Q env l) : TK base n ds (Nx r P y Q) env l := h
theorem tk_then_n {K : Act → World → Prop} (h : TK base n ds K env l) : TK base n ds (Th K Q .normal) env l := h
theorem tk_then_x {K : Act → World → Prop} {id : Nat} (h : TK base n ds (Q (.exit id)) env l) : TK base n ds (Th K Q (.exit id)) env l := h
theorem tk_then_r {K : Act → World → Prop} (h : TK base n ds (Q .ret) env l) : TK base n ds (Th K Q .ret) env l := h
theorem tk_blk_n {id : Nat} (h : TK base n ds (Q .normal) env l) : TK base n ds (Bk id Q .normal) env l := h
theorem tk_blk_r {id : Nat} (h : TK base n ds (Q .ret) env l) : TK base n ds (Bk id Q .ret) env l := h
theorem tk_blk_x {id : Nat} (h : TK base n ds (Q .normal) env l) : TK base n ds (Bk id Q (.exit id)) env l := fun a w ha hs => by
  show Exit.inBlock id Q (.exit id) a w
  simp only [Exit.inBlock, if_true]; exact h a w ha hs
theorem tk_blk_y {id id' : Nat} (hne : Nat.beq id' id = false) (h : TK base n ds (Q (.exit id')) env l) : TK base n ds (Bk id Q (.exit id')) env l := fun a w ha hs => by
  have h1 : id' ≠ id := fun e => by rw [e] at hne; simp at hne
  show Exit.inBlock id Q (.exit id') a w
  simp only [Exit.inBlock]; rw [if_neg h1]; exact h a w ha hs
theorem tc_skip (h : TK base n ds (Q .normal) env l) : TC r P base n ds .skip Q env l := fun a w ha hw => wpIn_skip (h a w ha hw)
theorem tc_exit {id : Nat} (h : TK base n ds (Q (.exit id)) env l) : TC r P base n ds (.exit id) Q env l := fun a w ha hw => wpIn_exit (h a w ha hw)
theorem tc_ret (h : TK base n ds (Q .ret) env l) : TC r P base n ds .ret Q env l := fun a w ha hw => wpIn_ret (h a w ha hw)
theorem tc_block {id : Nat} {c : Code} (h : TC r P base n ds c (Bk id Q) env l) : TC r P base n ds (.block id c) Q env l := fun a w ha hw => wpIn_block (h a w ha hw)
theorem tc_cond {c : Operand} {x y : Code} {t : Bool} (hc : ev env c = some (.bool t)) (h1 : t = true → TC r P base n ds x Q env l) (h2 : t = false → TC r P base n ds y Q env l) : TC r P base n ds (.cond c x y) Q env l :=
  fun a w ha hw => by
    have he := ha.ev hc
    cases t with
    | true => exact wpIn_cond_true he (h1 rfl a w ha hw)
    | false => exact wpIn_cond_false he (h2 rfl a w ha hw)
theorem tc_cond_t {c : Operand} {x y : Code} {t : Bool} (hc : ev env c = some (.bool t)) (ht : t = true) (h1 : TC r P base n ds x Q env l) : TC r P base n ds (.cond c x y) Q env l :=
  fun a w ha hw => wpIn_cond_true (by rw [← ht]; exact ha.ev hc) (h1 a w ha hw)
theorem tc_cond_f {c : Operand} {x y : Code} {t : Bool} (hc : ev env c = some (.bool t)) (ht : t = false) (h1 : TC r P base n ds y Q env l) : TC r P base n ds (.cond c x y) Q env l :=
  fun a w ha hw => wpIn_cond_false (by rw [← ht]; exact ha.ev hc) (h1 a w ha hw)

theorem wpIn_loop_ix {F : Fence} {k : Nat} {ι : Type} {c : Code} (I : ι → Act → World → Prop) (m : ι → Nat)
    (round : ∀ i a w, I i a w → c.wpIn F k P (Exit.then (fun a' w' => ∃ j, m j < m i ∧ I j a' w') Q) a w) (i0 : ι) {a : Act} {w : World} (h0 : I i0 a w) : (Code.loop c).wpIn F k P Q a w := by
  intro b rest cs hro hb hr
  have key : ∀ q i a w, m i = q → I i a w → ∃ e a' w', Q e a' w' ∧ ArrivesIn (Machine.fenced P F) P (lone (b.atR a (.code c :: .inLoop c :: rest)) cs w) b rest cs e a' w' := by
    intro q
    induction q using Nat.strongRecOn with
    | _ q ih =>
      intro i a w hq hI
      obtain ⟨e, a1, w1, hQ, harr⟩ := round i a w hI b (.inLoop c :: rest) cs hro hb hr
      cases e with
      | normal =>
        obtain ⟨j, hj, hI1⟩ := hQ
        obtain ⟨e2, a2, w2, hQ2, harr2⟩ := ih (m j) (hq ▸ hj) j a1 w1 rfl hI1
        exact ⟨e2, a2, w2, hQ2, .of_steps (StepsIn.trans harr (.one (fenced_calm hb hr rfl) stepR_inLoop)) harr2⟩
      | exit id => exact ⟨_, a1, w1, hQ, .pass (x := .inLoop c) rfl (fun _ _ => .inl (by simp)) harr⟩
      | goto l => exact ⟨_, a1, w1, hQ, .pass (x := .inLoop c) rfl (fun _ _ => .inl (by simp)) harr⟩
      | ret => exact ⟨_, a1, w1, hQ, .pass (x := .inLoop c) rfl (fun _ _ => .inl (by simp)) harr⟩
      | panic ch => exact ⟨_, a1, w1, hQ, .pass (x := .inLoop c) rfl (fun _ _ => .inl (by simp)) harr⟩
      | outgrown => exact ⟨_, a1, w1, hQ, .pass (x := .inLoop c) rfl (fun _ _ => .inl (by simp)) harr⟩
  obtain ⟨e, a', w', hQ, harr⟩ := key _ i0 a w rfl h0
  exact ⟨e, a', w', hQ, .of_steps (.one (fenced_calm hb hr rfl) stepR_loop) harr⟩

/-! ### Lists of operations -/
theorem tc_region {id : Nat} {ops : Array Oper} (h : TL r P base n ds ops ops.toList Q env l) : TC r P base n ds (.region id ops false) Q env l := fun a w ha hw =>
  wpIn_region (by
    rw [List.range_eq_range', ← Array.length_toList]
    exact wl_range r P ops Q ops.toList 0 (by simp) a w (h a w ha hw))
theorem tl_nil {all : Array Oper} (h : TK base n ds (Q .normal) env l) : TL r P base n ds all [] Q env l := h
theorem Nat.lt_of_ble_eq {a b : Nat} (h : Nat.ble (a + 1) b = true) : a < b := Nat.le_of_ble_eq_true h
theorem tl_q {all : Array Oper} {o : Oper} {rest : List Oper} {d : Nat} {v : Value} (hq : OpQ r P all o n ds env l v) (hd : o.dst = some d) (hn : d < n)
    (h : TL r P base n ds all rest Q ((d, v) :: env) l) : TL r P base n ds all (o :: rest) Q env l := fun a w ha hw =>
  Step.of_v r P (hq base [] a w (ha.ao all o) (by simpa using hw)) (fun u w' ⟨e, hw'⟩ => by
    subst e; rw [hd]; exact h _ _ (ha.put hn _) (by simpa using hw'))
theorem tl_n {α : Type} {all : Array Oper} {o : Oper} {rest : List Oper} {d : Nat} {val : α → Value} {post : α → List HP} (hq : OpN r P all o n ds env l val post) (hd : o.dst = some d) (hn : d < n)
    (h : ∀ x, TL r P base n ds all rest Q ((d, val x) :: env) (post x)) : TL r P base n ds all (o :: rest) Q env l := fun a w ha hw =>
  Step.of_v r P (hq base a w (ha.ao all o) hw) (fun u w' ⟨x, e, hw'⟩ => by
    subst e; rw [hd]; exact h x _ _ (ha.put hn _) hw')
theorem tl_n0 {α : Type} {all : Array Oper} {o : Oper} {rest : List Oper} {val : α → Value} {post : α → List HP} (hq : OpN r P all o n ds env l val post) (hd : o.dst = none)
    (h : ∀ x, TL r P base n ds all rest Q env (post x)) : TL r P base n ds all (o :: rest) Q env l := fun a w ha hw =>
  Step.of_v r P (hq base a w (ha.ao all o) hw) (fun u w' ⟨x, e, hw'⟩ => by
    rw [hd]; exact h x _ _ ha hw')
theorem tl_case {all : Array Oper} {rest : List Oper} (d : Nat) {t : Bool} (hd : look env d = some (.bool t))
    (h1 : t = true → TL r P base n ds all rest Q ((d, .bool true) :: env) l) (h2 : t = false → TL r P base n ds all rest Q ((d, .bool false) :: env) l) : TL r P base n ds all rest Q env l := by
  cases t with
  | true => exact fun a w ha hw => h1 rfl a w (ha.subs (look_again hd)) hw
  | false => exact fun a w ha hw => h2 rfl a w (ha.subs (look_again hd)) hw
theorem tl_gcase {all : Array Oper} {o : Oper} {rest : List Oper} {d j : Nat} {u t : Bool} {oj : Oper} (_hg : o.guard = some (j, u)) (_hj : all[j]? = some oj) (_hdj : oj.dst = some d) (hd : look env d = some (.bool t))
    (h1 : t = true → TL r P base n ds all (o :: rest) Q ((d, .bool true) :: env) l) (h2 : t = false → TL r P base n ds all (o :: rest) Q ((d, .bool false) :: env) l) : TL r P base n ds all (o :: rest) Q env l := tl_case d hd h1 h2
theorem tl_skip {all : Array Oper} {o : Oper} {rest : List Oper} {d j : Nat} {u t : Bool} {oj : Oper} {dj : Nat} (hg : o.guard = some (j, u)) (hj : all[j]? = some oj) (hdj : oj.dst = some dj) (hv : look env dj = some (.bool t)) (hu : (t == u) = false)
    (hd : o.dst = some d) (hn : d < n) (h : TL r P base n ds all rest Q ((d, undef) :: env) l) : TL r P base n ds all (o :: rest) Q env l := fun a w ha hw => by
  have hw' : Region.wanted o (yielded all a.tmps) = false := wanted_of hg hj hdj (ha.val _ _ hv) ▸ hu
  unfold wl Step
  rw [if_neg (by simp [hw']), hd]
  exact h _ _ (ha.put hn _) hw
end rules
end Go.Sl

/- The rules of the walk, one for each kind of operation. For whatever program. -/
namespace Go.Sl

class UL (P : Program) (t : TypeId) (d : outParam TypeDesc) : Prop where
  out : P.underlying t = some d
class FA (P : Program) (s : TypeId) (i : Nat) (off : outParam Nat) : Prop where
  out : ∀ (a : Addr) (w : World), (Instr.fieldAt s (.pointer (some a)) i).run P w = .ok (.pointer (some (a.add off))) w
class TI (P : Program) (t : TypeId) (z : outParam Value) (size bytes : outParam Nat) : Prop where
  out : (P.info? t).map (fun i => (i.zero, i.size, i.bytes)) = some (some z, size, bytes)

def Want (all : Array Oper) (o : Oper) (env : Env) : Prop := ∀ tmps : Array Value, (∀ t ∈ o.looksAt all, ∀ v, look env t = some v → tmps.getD t undef = v) → Region.wanted o (yielded all tmps) = true
theorem want_none {all : Array Oper} {o : Oper} {env : Env} (hg : o.guard = none) : Want all o env := fun _ _ => wanted_none hg
theorem want_yes {all : Array Oper} {o oj : Oper} {env : Env} {j dj : Nat} {t u : Bool} (hg : o.guard = some (j, u)) (hj : all[j]? = some oj) (hdj : oj.dst = some dj) (hv : look env dj = some (.bool t)) (hu : (t == u) = true) : Want all o env := fun tmps h => by
  rw [wanted_of hg hj hdj (h dj ?_ _ hv)]; exact hu
  unfold Oper.looksAt
  rw [hg]
  exact List.mem_append_right _ (by simp [hj, hdj])

section
variable {r : Option Nat} {P : Program} {n : Nat} {ds : List Deferred} {env : Env} {lc l l' : List HP} {all : Array Oper}
variable {z : Value} {bytes : Nat} {dst : Option Tmp} {ty : TypeId} {pos : String} {af : Array Edge} {g : Option (Nat × Bool)}

theorem opq_run {o : Oper} {v : Value} (hw : Want all o env) (hnd : ∀ c, o.op ≠ .defer c)
    (h : ∀ (base : World) (F : List HP) (a : Act) (w : World), AO all o n ds env a → St base (lc ++ F) w → (execOp a.eval o).run P w = .ok (.value v) w) : OpQ r P all o n ds env lc v := fun base F a w ha hst => by
  refine ⟨hnd, ?_⟩
  rw [if_pos (hw _ ha.val), h base F a w ha hst]
  exact ⟨rfl, hst⟩
theorem opn_run {α : Type} {o : Oper} {val : α → Value} {post : α → List HP} (hw : Want all o env) (hnd : ∀ c, o.op ≠ .defer c)
    (h : ∀ (base : World) (a : Act) (w : World), AO all o n ds env a → St base l w → ∃ x w', ((execOp a.eval o).run P w = .ok (.value (val x)) w' ∨ (val x = undef ∧ (execOp a.eval o).run P w = .ok .skip w')) ∧ St base (post x) w') : OpN r P all o n ds env l val post := fun base a w ha hst => by
  refine ⟨hnd, ?_⟩
  obtain ⟨x, w', hr, hs⟩ := h base a w ha hst
  rw [if_pos (hw _ ha.val)]
  rcases hr with hr | ⟨hu, hr⟩
  · rw [hr]; exact ⟨x, rfl, hs⟩
  · rw [hr]; exact ⟨x, hu.symm, hs⟩
theorem opq_pure {o : Oper} {v : Value} (hw : Want all o env) (hnd : ∀ c, o.op ≠ .defer c) (h : ∀ (a : Act) (w : World), AO all o n ds env a → (execOp a.eval o).run P w = .ok (.value v) w) : OpQ r P all o n ds env lc v :=
  opq_run hw hnd fun _ _ a w ha _ => h a w ha

theorem opq_move {x : Operand} {v : Value} (hw : Want all ⟨dst, .move x, ty, pos, af, g⟩ env) (hx : ev env x = some v) : OpQ r P all ⟨dst, .move x, ty, pos, af, g⟩ n ds env lc v :=
  opq_pure hw (by simp) fun a w ha => by
    have h1 := ha.ev (x := x) (by simp [Op.operands]) hx
    simp [execOp, h1]
theorem opq_assign {x : Operand} {v : Value} (hw : Want all ⟨dst, .assign x, ty, pos, af, g⟩ env) (hx : ev env x = some v) : OpQ r P all ⟨dst, .assign x, ty, pos, af, g⟩ n ds env lc v :=
  opq_pure hw (by simp) fun a w ha => by
    have h1 := ha.ev (x := x) (by simp [Op.operands]) hx
    simp [execOp, h1]
theorem opq_pick_t {c x y : Operand} {v : Value} (hw : Want all ⟨dst, .pick c x y, ty, pos, af, g⟩ env) (hc : ev env c = some (.bool true)) (hx : ev env x = some v) : OpQ r P all ⟨dst, .pick c x y, ty, pos, af, g⟩ n ds env lc v :=
  opq_pure hw (by simp) fun a w ha => by
    have h1 := ha.ev (x := c) (by simp [Op.operands]) hc
    have h2 := ha.ev (x := x) (by simp [Op.operands]) hx
    simp [execOp, h1, h2, asBool]
theorem opq_pick_f {c x y : Operand} {v : Value} (hw : Want all ⟨dst, .pick c x y, ty, pos, af, g⟩ env) (hc : ev env c = some (.bool false)) (hx : ev env y = some v) : OpQ r P all ⟨dst, .pick c x y, ty, pos, af, g⟩ n ds env lc v :=
  opq_pure hw (by simp) fun a w ha => by
    have h1 := ha.ev (x := c) (by simp [Op.operands]) hc
    have h2 := ha.ev (x := y) (by simp [Op.operands]) hx
    simp [execOp, h1, h2, asBool]
theorem opq_nilCheck {x : Operand} {ad : Addr} (hw : Want all ⟨dst, .nilCheck x, ty, pos, af, g⟩ env) (hx : ev env x = some (.pointer (some ad))) : OpQ r P all ⟨dst, .nilCheck x, ty, pos, af, g⟩ n ds env lc (.pointer (some ad)) :=
  opq_pure hw (by simp) fun a w ha => by
    have h1 := ha.ev (x := x) (by simp [Op.operands]) hx
    simp [execOp, h1]
theorem opq_fieldAddr {s : TypeId} {x : Operand} {i off : Nat} {b o : Nat} (hw : Want all ⟨dst, .fieldAddr s x i, ty, pos, af, g⟩ env) (hx : ev env x = some (.pointer (some ⟨b, o, none⟩))) [hf : FA P s i off] :
    OpQ r P all ⟨dst, .fieldAddr s x i, ty, pos, af, g⟩ n ds env lc (.pointer (some ⟨b, o + off, none⟩)) :=
  opq_pure hw (by simp) fun a w ha => by
    have h1 := ha.ev (x := x) (by simp [Op.operands]) hx
    have h2 := hf.out ⟨b, o, none⟩ w
    have h3 : Addr.add ⟨b, o, none⟩ off = ⟨b, o + off, none⟩ := by unfold Addr.add; split <;> simp_all
    rw [h3] at h2
    simp [execOp, h1, h2]
theorem opq_indexAddr {t e : TypeId} {x y : Operand} {b o len cap size bytes : Nat} {k : IntKind} {i : Int} {z : Value} (hw : Want all ⟨dst, .indexAddr t x y, ty, pos, af, g⟩ env) (hx : ev env x = some (.slice (some ⟨b, o, none⟩) len cap)) (hy : ev env y = some (.int k i))
    [hu : UL P t (.slice e)] [hi : TI P e z size bytes] (h0 : 0 ≤ i) (h1 : i < len) :
    OpQ r P all ⟨dst, .indexAddr t x y, ty, pos, af, g⟩ n ds env lc (.pointer (some ⟨b, o + i.toNat * size, none⟩)) :=
  opq_pure hw (by simp) fun a w ha => by
    have e1 := ha.ev (x := x) (by simp [Op.operands]) hx
    have e2 := ha.ev (x := y) (by simp [Op.operands]) hy
    obtain ⟨i0, hi0, _, hs, _⟩ := info_parts hi.out
    have h3 : Addr.add ⟨b, o, none⟩ (i.toNat * size) = ⟨b, o + i.toNat * size, none⟩ := by unfold Addr.add; split <;> simp_all
    have hsz : (sizeOf e).run P w = .ok size w := by simp [sizeOf, typeInfo, hi0, hs]
    simp [execOp, e1, e2, Instr.indexAt, asIntOf, run_underlying hu.out, h0, h1, hsz, h3]

/-! ### Memory -/
class NAgg (P : Program) (t : TypeId) : Prop where
  out : ∀ w : World, (isAgg t).run P w = .ok false w
class IAgg (P : Program) (t : TypeId) (size : outParam Nat) : Prop where
  out : ∀ w : World, (isAgg t).run P w = .ok true w ∧ (sizeOf t).run P w = .ok size w

theorem Rem.append {l r : List HP} {x : HP} (h : Rem l x r) (F : List HP) : Rem (l ++ F) x (r ++ F) := by
  induction h with
  | here x l => exact .here _ _
  | there y _ ih => exact .there _ ih

def obj (b : Nat) (T : TypeId) (cs : List Value) : HP := blk b (.cells cs.toArray T (0, 0))
def Vec (E sz : Nat) (a : Option Addr) (n cap : Nat) (cs : List Value) : HP := fun h =>
  (a = none ∧ n = 0 ∧ cap = 0 ∧ cs = [] ∧ h = fun _ => none) ∨
  ∃ b junk, a = some ⟨b, 0, none⟩ ∧ n ≤ cap ∧ cs.length = n * sz ∧ (cs ++ junk).length = cap * sz ∧ blk b (.cells (cs ++ junk).toArray E (0, 0)) h

def Rd (l : List HP) (a : Addr) (cs : List Value) : Prop := ∀ h, lst l h → a.spot = none ∧ ∀ j v, cs[j]? = some v → ∃ c T fr t, h a.block = some (t, .cells c T fr) ∧ c[a.off + j]? = some v
theorem Rd.cell {base : World} {a : Addr} {cs : List Value} {w : World} (h : Rd l a cs) (hs : St base l w) : ∀ j v, cs[j]? = some v → w.cell? (a.add j) = some v := fun j v hj => by
  obtain ⟨hp, hf, hl⟩ := hs.heap
  obtain ⟨h1, h2⟩ := h _ hl
  obtain ⟨c, T, fr, t, hb, hc⟩ := h2 j v hj
  have : a.add j = ⟨a.block, a.off + j, none⟩ := by
    unfold Addr.add
    split
    · rename_i h0; subst h0; cases a; simp at h1; simp [h1]
    · rfl
  rw [this, cell_of_block (hf _ _ hb)]; exact hc
theorem Rd.append {a : Addr} {cs : List Value} (h : Rd lc a cs) (F : List HP) : Rd (lc ++ F) a cs := fun x hx => h x (by
  obtain ⟨p, q, hd, rfl, hp, _⟩ := lst_unflat hx
  exact lst_join hp hd)
theorem rd_obj {b T : Nat} {cs : List Value} {r' : List HP} (h : Rem lc (obj b T cs) r') : Rd lc ⟨b, 0, none⟩ cs := fun x hx => ⟨rfl, fun j v hj => ⟨cs.toArray, T, (0, 0), true, lst_blk (h.out hx), by simpa using hj⟩⟩
theorem rd_obj1 {b T off : Nat} {cs : List Value} {v : Value} {r' : List HP} (h : Rem lc (obj b T cs) r') (hv : cs[off]? = some v) : Rd lc ⟨b, off, none⟩ [v] := fun x hx => ⟨rfl, fun j u hj => ⟨cs.toArray, T, (0, 0), true, lst_blk (h.out hx), by
  cases j with
  | zero => simp at hj; subst hj; simpa using hv
  | succ j => simp at hj⟩⟩
theorem rd_vec {E sz b n cap : Nat} {cs : List Value} {r' : List HP} (h : Rem lc (Vec E sz (some ⟨b, 0, none⟩) n cap cs) r') : Rd lc ⟨b, 0, none⟩ cs := fun x hx => ⟨rfl, fun j v hj => by
  obtain ⟨p, q, _, rfl, hp, _⟩ := h.out hx
  rcases hp with ⟨h0, _⟩ | ⟨b', junk, hb, _, hl, _, hp⟩
  · cases h0
  · simp only [Option.some.injEq, Addr.mk.injEq, and_true] at hb
    subst hb; subst hp
    refine ⟨(cs ++ junk).toArray, E, (0, 0), true, joinH_left (by simp), ?_⟩
    have hj' : j < cs.length := (List.getElem?_eq_some_iff.1 hj).1
    simp [List.getElem?_append_left hj', hj]⟩
def RoS (sz : Nat) (a : Option Addr) (m cap : Nat) (cs : List Value) : HP := fun h =>
  (m = 0 ∧ cap = 0 ∧ cs = [] ∧ h = fun _ => none) ∨
  ∃ b o c T fr, a = some ⟨b, o, none⟩ ∧ m ≤ cap ∧ cs.length = m * sz ∧ (∀ j v, cs[j]? = some v → c[o + j]? = some v) ∧ ro b (.cells c T fr) h
instance pers_roS (sz : Nat) (a : Option Addr) (m cap : Nat) (cs : List Value) : Pers (RoS sz a m cap cs) := ⟨by
  rintro h (⟨_, _, _, rfl⟩ | ⟨b, o, c, T, fr, _, _, _, _, hr⟩) k x hk
  · cases hk
  · exact (pers_ro b _).out h hr k x hk⟩
theorem rd_roS {sz b o m cap : Nat} {cs : List Value} {r' : List HP} (h : Rem lc (RoS sz (some ⟨b, o, none⟩) m cap cs) r') : Rd lc ⟨b, o, none⟩ cs := fun x hx => ⟨rfl, fun j v hj => by
  obtain ⟨p, q, _, rfl, hp, _⟩ := h.out hx
  rcases hp with ⟨_, _, h0, _⟩ | ⟨b', o', c, T, fr, hb, _, hl, hc, hp⟩
  · rw [h0] at hj; cases hj
  · simp only [Option.some.injEq, Addr.mk.injEq, and_true] at hb
    obtain ⟨rfl, rfl⟩ := hb; subst hp
    exact ⟨c, T, fr, false, joinH_left (by simp), hc j v hj⟩⟩

theorem opq_load {t : TypeId} {x : Operand} {b off : Nat} {v : Value} (hw : Want all ⟨dst, .load t x, ty, pos, af, g⟩ env) (hx : ev env x = some (.pointer (some ⟨b, off, none⟩))) [ht : NAgg P t] (hr : Rd lc ⟨b, off, none⟩ [v]) : OpQ r P all ⟨dst, .load t x, ty, pos, af, g⟩ n ds env lc v :=
  opq_run hw (by simp) fun base F a w ha hs => by
    have h1 := ha.ev (x := x) (by simp [Op.operands]) hx
    have h2 := (hr.append F).cell hs 0 v rfl
    have h3 : Addr.add ⟨b, off, none⟩ 0 = ⟨b, off, none⟩ := rfl
    rw [h3] at h2
    simp [execOp, h1, Instr.loadAt, loadVar, Instr.sureAddr, ht.out w, load, Sem.run, h2]
theorem opq_loadAgg {t : TypeId} {x : Operand} {b off size : Nat} {vs : List Value} (hw : Want all ⟨dst, .load t x, ty, pos, af, g⟩ env) (hx : ev env x = some (.pointer (some ⟨b, off, none⟩))) [ht : IAgg P t size] (hr : Rd lc ⟨b, off, none⟩ vs) (hl : vs.length = size) :
    OpQ r P all ⟨dst, .load t x, ty, pos, af, g⟩ n ds env lc (.agg vs.toArray) :=
  opq_run hw (by simp) fun base F a w ha hs => by
    have h1 := ha.ev (x := x) (by simp [Op.operands]) hx
    have h2 := run_loadCells_list (P := P) w ⟨b, off, none⟩ vs ((hr.append F).cell hs)
    rw [hl] at h2
    simp [execOp, h1, Instr.loadAt, loadVar, Instr.sureAddr, (ht.out w).1, (ht.out w).2, h2]

def plain : Value → Bool
  | .agg _ => false
  | .tuple _ => false
  | _ => true
theorem plain_cells {v : Value} (h : plain v = true) : v.cells = #[v] := by cases v <;> simp_all [plain, Value.cells]
theorem run_store1 {_base : World} {b off : Nat} {T : TypeId} {c : Array Value} {v : Value} {w : World} (hv : plain v = true) (hb : w.heap[b]? = some (.cells c T (0, 0))) (ho : off < c.size) :
    (store ⟨b, off, none⟩ v).run P w = .ok () (w.setCell ⟨b, off, none⟩ v) := by
  have h1 := cell_of_block (off := off) hb
  have h2 := frozen_of_block (off := off) hb
  have h3 : c[off]? = some c[off] := by simp [ho]
  rw [h3] at h1
  cases v <;> simp_all [plain, store, Sem.run]
end
end Go.Sl

/- More rules of the walk: arithmetic, tests, stores into slices, new memory, append. For whatever program. -/
namespace Go.Sl
section
variable {r : Option Nat} {P : Program} {n : Nat} {ds : List Deferred} {env : Env} {lc l l' : List HP} {all : Array Oper}
variable {z : Value} {bytes : Nat} {dst : Option Tmp} {ty : TypeId} {pos : String} {af : Array Edge} {g : Option (Nat × Bool)}

/-! ### Numbers and tests -/
theorem opq_bin {op : BinOp} {t : TypeId} {x y : Operand} {yt : TypeId} {v u res : Value} (hw : Want all ⟨dst, .binOp op t x y yt, ty, pos, af, g⟩ env) (hx : ev env x = some v) (hy : ev env y = some u)
    (hg : ∀ w, (eqGuard op t x y v u).run P w = .ok () w) (hr : ∀ w, (binOp op t v u).run P w = .ok res w) : OpQ r P all ⟨dst, .binOp op t x y yt, ty, pos, af, g⟩ n ds env lc res :=
  opq_pure hw (by simp) fun a w ha => by
    have h1 := ha.ev (x := x) (by simp [Op.operands]) hx
    have h2 := ha.ev (x := y) (by simp [Op.operands]) hy
    simp [execOp, h1, h2, hg w, hr w]
theorem eqGuard_int (op : BinOp) (t : TypeId) (x y : Operand) (k k' : IntKind) (a b : Int) (w : World) : (eqGuard op t x y (.int k a) (.int k' b)).run P w = .ok () w := by cases op <;> simp [eqGuard]
theorem opq_add {t : TypeId} {x y : Operand} {yt : TypeId} {k : IntKind} {a b : Int} (hw : Want all ⟨dst, .binOp .add t x y yt, ty, pos, af, g⟩ env) (hx : ev env x = some (.int k a)) (hy : ev env y = some (.int k b)) : OpQ r P all ⟨dst, .binOp .add t x y yt, ty, pos, af, g⟩ n ds env lc (.int k (k.wrap (a + b))) :=
  opq_bin hw hx hy (eqGuard_int _ _ _ _ _ _ _ _) fun w => by simp [binOp, Op.intArith]
theorem opq_sub {t : TypeId} {x y : Operand} {yt : TypeId} {k : IntKind} {a b : Int} (hw : Want all ⟨dst, .binOp .sub t x y yt, ty, pos, af, g⟩ env) (hx : ev env x = some (.int k a)) (hy : ev env y = some (.int k b)) : OpQ r P all ⟨dst, .binOp .sub t x y yt, ty, pos, af, g⟩ n ds env lc (.int k (k.wrap (a - b))) :=
  opq_bin hw hx hy (eqGuard_int _ _ _ _ _ _ _ _) fun w => by simp [binOp, Op.intArith]
theorem opq_mul {t : TypeId} {x y : Operand} {yt : TypeId} {k : IntKind} {a b : Int} (hw : Want all ⟨dst, .binOp .mul t x y yt, ty, pos, af, g⟩ env) (hx : ev env x = some (.int k a)) (hy : ev env y = some (.int k b)) : OpQ r P all ⟨dst, .binOp .mul t x y yt, ty, pos, af, g⟩ n ds env lc (.int k (k.wrap (a * b))) :=
  opq_bin hw hx hy (eqGuard_int _ _ _ _ _ _ _ _) fun w => by simp [binOp, Op.intArith]
theorem opq_rem {t : TypeId} {x y : Operand} {yt : TypeId} {k : IntKind} {a b : Int} (hw : Want all ⟨dst, .binOp .rem t x y yt, ty, pos, af, g⟩ env) (hx : ev env x = some (.int k a)) (hy : ev env y = some (.int k b)) (h0 : 0 ≤ a) (hb : 0 < b) : OpQ r P all ⟨dst, .binOp .rem t x y yt, ty, pos, af, g⟩ n ds env lc (.int k (a % b)) :=
  opq_bin hw hx hy (eqGuard_int _ _ _ _ _ _ _ _) fun w => by
    have h1 : b ≠ 0 := by omega
    simp [binOp, Op.intDiv, h1, Int.tmod_eq_emod_of_nonneg h0]
theorem opq_quo {t : TypeId} {x y : Operand} {yt : TypeId} {k : IntKind} {a b : Int} (hw : Want all ⟨dst, .binOp .quo t x y yt, ty, pos, af, g⟩ env) (hx : ev env x = some (.int k a)) (hy : ev env y = some (.int k b)) (h0 : 0 ≤ a) (hb : 0 < b) : OpQ r P all ⟨dst, .binOp .quo t x y yt, ty, pos, af, g⟩ n ds env lc (.int k (k.wrap (a / b))) :=
  opq_bin hw hx hy (eqGuard_int _ _ _ _ _ _ _ _) fun w => by
    have h1 : b ≠ 0 := by omega
    simp [binOp, Op.intDiv, h1, Int.tdiv_eq_ediv_of_nonneg h0]
def cmpI (op : BinOp) (a b : Int) : Bool :=
  match op with
  | .eql => a == b
  | .neq => a != b
  | .lss => decide (a < b)
  | .leq => decide (a ≤ b)
  | .gtr => decide (b < a)
  | .geq => decide (b ≤ a)
  | _ => false
def isCmp : BinOp → Bool
  | .eql | .neq | .lss | .leq | .gtr | .geq => true
  | _ => false
theorem opq_cmp {op : BinOp} {t : TypeId} {x y : Operand} {yt : TypeId} {k : IntKind} {a b : Int} (hw : Want all ⟨dst, .binOp op t x y yt, ty, pos, af, g⟩ env) (hop : isCmp op = true) (hx : ev env x = some (.int k a)) (hy : ev env y = some (.int k b)) :
    OpQ r P all ⟨dst, .binOp op t x y yt, ty, pos, af, g⟩ n ds env lc (.bool (cmpI op a b)) :=
  opq_bin hw hx hy (eqGuard_int _ _ _ _ _ _ _ _) fun w => by cases op <;> simp_all [binOp, Op.intCmp, cmpI, isCmp]
theorem opq_cmp_is {op : BinOp} {t : TypeId} {x y : Operand} {yt : TypeId} {k : IntKind} {a b : Int} {q : Bool} (hw : Want all ⟨dst, .binOp op t x y yt, ty, pos, af, g⟩ env) (hop : isCmp op = true) (hx : ev env x = some (.int k a)) (hy : ev env y = some (.int k b)) (hq : cmpI op a b = q) :
    OpQ r P all ⟨dst, .binOp op t x y yt, ty, pos, af, g⟩ n ds env lc (.bool q) := hq ▸ opq_cmp hw hop hx hy
theorem run_equal {t : TypeId} {x y : Value} {b : Bool} (h : ∀ d w, (Op.equalIn (d + 1) t x y).run P w = .ok b w) (w : World) : (Op.equal t x y).run P w = .ok b w := h 9999 w
theorem run_eql {t : TypeId} {x y : Value} {b : Bool} (hb : ∀ w, (binOp .eql t x y).run P w = (do pure (.bool (← Op.equal t x y)) : Sem Value).run P w) (h : ∀ d w, (Op.equalIn (d + 1) t x y).run P w = .ok b w) (w : World) : (binOp .eql t x y).run P w = .ok (.bool b) w := by
  rw [hb]; simp [run_equal h]
theorem run_neq {t : TypeId} {x y : Value} {b : Bool} (hb : ∀ w, (binOp .neq t x y).run P w = (do pure (.bool (!(← Op.equal t x y))) : Sem Value).run P w) (h : ∀ d w, (Op.equalIn (d + 1) t x y).run P w = .ok b w) (w : World) : (binOp .neq t x y).run P w = .ok (.bool (!b)) w := by
  rw [hb]; simp [run_equal h]
theorem opq_eq_nil {t : TypeId} {x y : Operand} {yt e : TypeId} {ad : Addr} (hw : Want all ⟨dst, .binOp .eql t x y yt, ty, pos, af, g⟩ env) (hx : ev env x = some (.pointer (some ad))) (hy : ev env y = some (.pointer none)) [hu : UL P t (.pointer e)] :
    OpQ r P all ⟨dst, .binOp .eql t x y yt, ty, pos, af, g⟩ n ds env lc (.bool false) :=
  opq_bin hw hx hy (fun w => by simp [eqGuard]) (run_eql (fun w => rfl) fun d w => by simp [Op.equalIn, run_underlying hu.out])
theorem opq_eq_nil' {t : TypeId} {x y : Operand} {yt e : TypeId} (hw : Want all ⟨dst, .binOp .eql t x y yt, ty, pos, af, g⟩ env) (hx : ev env x = some (.pointer none)) (hy : ev env y = some (.pointer none)) [hu : UL P t (.pointer e)] :
    OpQ r P all ⟨dst, .binOp .eql t x y yt, ty, pos, af, g⟩ n ds env lc (.bool true) :=
  opq_bin hw hx hy (fun w => by simp [eqGuard]) (run_eql (fun w => rfl) fun d w => by simp [Op.equalIn, run_underlying hu.out])
theorem opq_ne_nil {t : TypeId} {x y : Operand} {yt e : TypeId} {ad : Addr} (hw : Want all ⟨dst, .binOp .neq t x y yt, ty, pos, af, g⟩ env) (hx : ev env x = some (.pointer (some ad))) (hy : ev env y = some (.pointer none)) [hu : UL P t (.pointer e)] :
    OpQ r P all ⟨dst, .binOp .neq t x y yt, ty, pos, af, g⟩ n ds env lc (.bool true) :=
  opq_bin hw hx hy (fun w => by simp [eqGuard]) (run_neq (b := false) (fun w => rfl) fun d w => by simp [Op.equalIn, run_underlying hu.out])
theorem opq_ne_nil' {t : TypeId} {x y : Operand} {yt e : TypeId} (hw : Want all ⟨dst, .binOp .neq t x y yt, ty, pos, af, g⟩ env) (hx : ev env x = some (.pointer none)) (hy : ev env y = some (.pointer none)) [hu : UL P t (.pointer e)] :
    OpQ r P all ⟨dst, .binOp .neq t x y yt, ty, pos, af, g⟩ n ds env lc (.bool false) :=
  opq_bin hw hx hy (fun w => by simp [eqGuard]) (run_neq (b := true) (fun w => rfl) fun d w => by simp [Op.equalIn, run_underlying hu.out])
theorem opq_eq_nils {t : TypeId} {x y : Operand} {yt e : TypeId} {a : Option Addr} {k c : Nat} (hw : Want all ⟨dst, .binOp .eql t x y yt, ty, pos, af, g⟩ env) (hx : ev env x = some (.slice a k c)) (hy : ev env y = some (.slice none 0 0)) [hu : UL P t (.slice e)] :
    OpQ r P all ⟨dst, .binOp .eql t x y yt, ty, pos, af, g⟩ n ds env lc (.bool a.isNone) :=
  opq_bin hw hx hy (fun w => by simp [eqGuard]) (run_eql (fun w => rfl) fun d w => by cases a <;> simp [Op.equalIn, run_underlying hu.out])
theorem opq_eq_nilf {t : TypeId} {x y : Operand} {yt : TypeId} {p1 p2 : Array TypeId} {vd : Bool} {f : Fn} {c1 c2 : Array Value} (hw : Want all ⟨dst, .binOp .eql t x y yt, ty, pos, af, g⟩ env) (hx : ev env x = some (.func f c1 c2)) (hy : ev env y = some .nilFunc) [hu : UL P t (.func p1 p2 vd)] :
    OpQ r P all ⟨dst, .binOp .eql t x y yt, ty, pos, af, g⟩ n ds env lc (.bool false) :=
  opq_bin hw hx hy (fun w => by simp [eqGuard]) (run_eql (fun w => rfl) fun d w => by simp [Op.equalIn, run_underlying hu.out])
theorem opq_eqb {_op : BinOp} {t : TypeId} {x y : Operand} {yt : TypeId} {a b : Bool} (hw : Want all ⟨dst, .binOp .eql t x y yt, ty, pos, af, g⟩ env) (hx : ev env x = some (.bool a)) (hy : ev env y = some (.bool b)) [hu : UL P t .bool] :
    OpQ r P all ⟨dst, .binOp .eql t x y yt, ty, pos, af, g⟩ n ds env lc (.bool (a == b)) :=
  opq_bin hw hx hy (fun w => by simp [eqGuard]) (run_eql (fun w => rfl) fun d w => by simp [Op.equalIn, run_underlying hu.out])
theorem opq_neb {_op : BinOp} {t : TypeId} {x y : Operand} {yt : TypeId} {a b : Bool} (hw : Want all ⟨dst, .binOp .neq t x y yt, ty, pos, af, g⟩ env) (hx : ev env x = some (.bool a)) (hy : ev env y = some (.bool b)) [hu : UL P t .bool] :
    OpQ r P all ⟨dst, .binOp .neq t x y yt, ty, pos, af, g⟩ n ds env lc (.bool (a != b)) :=
  opq_bin hw hx hy (fun w => by simp [eqGuard]) (run_neq (b := (a == b)) (fun w => rfl) fun d w => by simp [Op.equalIn, run_underlying hu.out])
theorem opq_not {t : TypeId} {x : Operand} {b : Bool} (hw : Want all ⟨dst, .unOp .not t x, ty, pos, af, g⟩ env) (hx : ev env x = some (.bool b)) : OpQ r P all ⟨dst, .unOp .not t x, ty, pos, af, g⟩ n ds env lc (.bool (!b)) :=
  opq_pure hw (by simp) fun a w ha => by
    have h1 := ha.ev (x := x) (by simp [Op.operands]) hx
    simp [execOp, h1, Op.unary]
theorem opq_neg {t : TypeId} {x : Operand} {k : IntKind} {i : Int} (hw : Want all ⟨dst, .unOp .neg t x, ty, pos, af, g⟩ env) (hx : ev env x = some (.int k i)) : OpQ r P all ⟨dst, .unOp .neg t x, ty, pos, af, g⟩ n ds env lc (.int k (k.wrap (0 - i))) :=
  opq_pure hw (by simp) fun a w ha => by
    have h1 := ha.ev (x := x) (by simp [Op.operands]) hx
    simp [execOp, h1, Op.unary, Op.intArith]
theorem opq_conv {s t : TypeId} {x : Operand} {k k' : IntKind} {i : Int} {d : TypeDesc} (hw : Want all ⟨dst, .convert s t x, ty, pos, af, g⟩ env) (hx : ev env x = some (.int k' i)) [hs : UL P s d] [hu : UL P t (.int k)] : OpQ r P all ⟨dst, .convert s t x, ty, pos, af, g⟩ n ds env lc (.int k (k.wrap i)) :=
  opq_pure hw (by simp) fun a w ha => by
    have h1 := ha.ev (x := x) (by simp [Op.operands]) hx
    simp [execOp, h1, convert, run_underlying hu.out, run_underlying hs.out, Conv.intToInt]
theorem opq_as {o : Oper} {v u : Value} (h : OpQ r P all o n ds env lc v) (e : v = u) : OpQ r P all o n ds env lc u := e ▸ h
end
end Go.Sl

/- More rules of the walk: new memory, stores into slices, append, len, reslicing. For whatever program. -/
namespace Go.Sl
section
variable {r : Option Nat} {P : Program} {n : Nat} {ds : List Deferred} {env : Env} {lc l l' : List HP} {all : Array Oper}
variable {z : Value} {bytes size : Nat} {cs zs : List Value} {x' : Operand} {dst : Option Tmp} {ty : TypeId} {pos : String} {af : Array Edge} {g : Option (Nat × Bool)}

/-! ### A slice that is owned -/
theorem lst_vec {E sz : Nat} {a : Option Addr} {k cap : Nat} {cs : List Value} {h : Hp} (x : lst (Vec E sz a k cap cs :: l) h) :
    (a = none ∧ k = 0 ∧ cap = 0 ∧ cs = []) ∨ ∃ b junk, a = some ⟨b, 0, none⟩ ∧ k ≤ cap ∧ cs.length = k * sz ∧ (cs ++ junk).length = cap * sz ∧ lst (blk b (.cells (cs ++ junk).toArray E (0, 0)) :: l) h := by
  obtain ⟨p, q, hd, rfl, hp, hq⟩ := x
  rcases hp with ⟨h1, h2, h3, h4, _⟩ | ⟨b, junk, h1, h2, h3, h4, h5⟩
  · exact .inl ⟨h1, h2, h3, h4⟩
  · exact .inr ⟨b, junk, h1, h2, h3, h4, p, q, hd, rfl, h5, hq⟩
theorem lst_vec_mk {E sz : Nat} {b k cap : Nat} {cs junk : List Value} {h : Hp} (h1 : k ≤ cap) (h2 : cs.length = k * sz) (h3 : (cs ++ junk).length = cap * sz) (x : lst (blk b (.cells (cs ++ junk).toArray E (0, 0)) :: l) h) : lst (Vec E sz (some ⟨b, 0, none⟩) k cap cs :: l) h :=
  sep_mono (fun _ y => .inr ⟨b, junk, rfl, h1, h2, h3, y⟩) (fun _ y => y) x
theorem lst_vec_nil {E sz : Nat} {h : Hp} (x : lst l h) : lst (Vec E sz none 0 0 [] :: l) h := ⟨fun _ => none, h, fun _ => .inl rfl, by funext k; rfl, .inl ⟨rfl, rfl, rfl, rfl, rfl⟩, x⟩
theorem St.vec {base : World} {w : World} {E sz : Nat} {a : Option Addr} {k cap : Nat} {cs : List Value} {r' : List HP} (hs : St base l w) (hr : Rem l (Vec E sz a k cap cs) r') :
    (a = none ∧ k = 0 ∧ cap = 0 ∧ cs = []) ∨ ∃ b junk, a = some ⟨b, 0, none⟩ ∧ k ≤ cap ∧ cs.length = k * sz ∧ (cs ++ junk).length = cap * sz ∧ St base (blk b (.cells (cs ++ junk).toArray E (0, 0)) :: r') w := by
  obtain ⟨hp, hf, hl⟩ := hs.heap
  rcases lst_vec (hr.out hl) with h | ⟨b, junk, h1, h2, h3, h4, h5⟩
  · exact .inl h
  · exact .inr ⟨b, junk, h1, h2, h3, h4, hs.os, hs.tape, hs.output, hp, hf, h5⟩
theorem St.vec_mk {base : World} {w : World} {E sz : Nat} {b k cap : Nat} {cs junk : List Value} (h1 : k ≤ cap) (h2 : cs.length = k * sz) (h3 : (cs ++ junk).length = cap * sz) (x : St base (blk b (.cells (cs ++ junk).toArray E (0, 0)) :: l) w) : St base (Vec E sz (some ⟨b, 0, none⟩) k cap cs :: l) w :=
  x.ent fun _ y => lst_vec_mk h1 h2 h3 y
theorem TK.vecAt {base : World} {K : Act → World → Prop} {E sz : Nat} {a : Option Addr} {k cap : Nat} {cs : List Value} {r' : List HP} (hr : Rem l (Vec E sz a k cap cs) r') (hk : 0 < k) (h : (∃ b, a = some ⟨b, 0, none⟩) → TK base n ds K env l) : TK base n ds K env l := fun ac w ha hw => by
  obtain ⟨_, _, hl⟩ := hw.heap
  rcases lst_vec (hr.out hl) with ⟨_, h0, _⟩ | ⟨b, _, h1, _⟩
  · omega
  · exact h ⟨b, h1⟩ ac w ha hw
theorem TK.vecLen {base : World} {K : Act → World → Prop} {E sz : Nat} {a : Option Addr} {k cap : Nat} {cs : List Value} {r' : List HP} (hr : Rem l (Vec E sz a k cap cs) r') (h : cs.length = k * sz ∧ k ≤ cap → TK base n ds K env l) : TK base n ds K env l := fun ac w ha hw => by
  obtain ⟨_, _, hl⟩ := hw.heap
  rcases lst_vec (hr.out hl) with ⟨_, h0, h1, h2⟩ | ⟨b, _, h1, h2, h3, _⟩
  · exact h ⟨by simp [h0, h2], by omega⟩ ac w ha hw
  · exact h ⟨h3, h2⟩ ac w ha hw

def setL (cs : List Value) (off : Nat) : List Value → List Value
  | [] => cs
  | v :: vs => setL (cs.set off v) (off + 1) vs
theorem setL_length {vs : List Value} : ∀ {cs : List Value} {off : Nat}, (setL cs off vs).length = cs.length := by
  induction vs with
  | nil => intros; rfl
  | cons v vs ih => intro cs off; simp [setL, ih]
theorem setL_append {vs : List Value} : ∀ {cs junk : List Value} {off : Nat}, off + vs.length ≤ cs.length → setL (cs ++ junk) off vs = setL cs off vs ++ junk := by
  induction vs with
  | nil => intros; rfl
  | cons v vs ih =>
    intro cs junk off h
    simp only [List.length_cons] at h
    simp only [setL]
    rw [List.set_append_left _ _ (by omega), ih (by simp; omega)]
theorem run_storeCells_set {b : Nat} {T : TypeId} : ∀ (vs : List Value) (i off : Nat) (cs : List Value) (w : World), w.heap[b]? = some (.cells cs.toArray T (0, 0)) → off + i + vs.length ≤ cs.length → (∀ v ∈ vs, plain v = true) →
    ∃ w', (storeCells ⟨b, off, none⟩ vs i).run P w = .ok () w' ∧ w'.os = w.os ∧ w'.tape = w.tape ∧ w'.output = w.output ∧ ∀ k, w'.heap[k]? = if k = b then some (.cells (setL cs (off + i) vs).toArray T (0, 0)) else w.heap[k]?
  | [], i, off, cs, w, hb, _, _ => ⟨w, by simp [storeCells], rfl, rfl, rfl, fun k => by by_cases hk : k = b <;> simp [hk, setL, hb]⟩
  | v :: vs, i, off, cs, w, hb, hl, hp => by
    simp only [List.length_cons] at hl
    have ha : Addr.add ⟨b, off, none⟩ i = ⟨b, off + i, none⟩ := by unfold Addr.add; split <;> simp_all
    have hst := run_store1 (P := P) (_base := w) (off := off + i) (v := v) (hp v (by simp)) hb (by simp; omega)
    have hb' : (w.setCell ⟨b, off + i, none⟩ v).heap[b]? = some (.cells (cs.set (off + i) v).toArray T (0, 0)) := by simp [World.setCell, Array.getElem?_modify, hb]
    obtain ⟨w', h1, h2, h3, h4, h5⟩ := run_storeCells_set vs (i + 1) off (cs.set (off + i) v) _ hb' (by simp; omega) (fun u hu => hp u (by simp [hu]))
    refine ⟨w', ?_, h2, h3, h4, fun k => ?_⟩
    · rw [storeCells]; simp [ha, hst, h1]
    · rw [h5 k]
      by_cases hk : k = b
      · simp [hk, setL, Nat.add_assoc]
      · have hk' : ¬ b = k := fun e => hk e.symm
        simp [hk, World.setCell, Array.getElem?_modify, hk']
def plains : List Value → Bool
  | [] => true
  | v :: vs => plain v && plains vs
theorem plains_mem {vs : List Value} (h : plains vs = true) : ∀ v ∈ vs, plain v = true := by
  induction vs with
  | nil => intro v hv; cases hv
  | cons u vs ih =>
    simp only [plains, Bool.and_eq_true] at h
    intro v hv
    rcases List.mem_cons.1 hv with rfl | hv
    · exact h.1
    · exact ih h.2 v hv
inductive IsCells : Value → List Value → Prop
  | one {v : Value} (h : plain v = true) : IsCells v [v]
  | agg (vs : List Value) (h : plains vs = true) : IsCells (.agg vs.toArray) vs
theorem IsCells.eq {v : Value} {vs : List Value} (h : IsCells v vs) : v.cells = vs.toArray ∧ ∀ u ∈ vs, plain u = true := by
  cases h with
  | one h => exact ⟨plain_cells h, by simpa using h⟩
  | agg vs h => exact ⟨rfl, plains_mem h⟩
theorem opn_storeVec {t : TypeId} {x y : Operand} {b off E sz k cap size : Nat} {cs vs : List Value} {v : Value} (hw : Want all ⟨dst, .store t x y, ty, pos, af, g⟩ env) (hx : ev env x = some (.pointer (some ⟨b, off, none⟩))) (hy : ev env y = some v) (hv : IsCells v vs) [hsz : TI P t z size bytes] (hvs : vs.length = size)
    (hr : Rep (Vec E sz (some ⟨b, 0, none⟩) k cap cs) (Vec E sz (some ⟨b, 0, none⟩) k cap (setL cs off vs)) l l') (ho : off + vs.length ≤ cs.length) : OpN r P all ⟨dst, .store t x y, ty, pos, af, g⟩ n ds env l (fun _ : Unit => undef) (fun _ => l') :=
  opn_run hw (by simp) fun base a w ha hs => by
    have h1 := ha.ev (x := x) (by simp [Op.operands]) hx
    have h2 := ha.ev (x := y) (by simp [Op.operands]) hy
    obtain ⟨i0, hi0, _, hsz', _⟩ := info_parts hsz.out
    obtain ⟨q, hq1, hq2⟩ := hr.rem
    rcases hs.vec hq1 with ⟨h0, _⟩ | ⟨b', junk, hb', hk, hl, hl2, hb⟩
    · cases h0
    simp only [Option.some.injEq, Addr.mk.injEq, and_true] at hb'
    subst hb'
    have hblk := hb.block (.here _ _)
    obtain ⟨w', hst, e1, e2, e3, e4⟩ := run_storeCells_set (P := P) vs 0 off (cs ++ junk) w hblk (by simp; omega) hv.eq.2
    refine ⟨(), w', .inr ⟨rfl, ?_⟩, St.ent ?_ (fun _ y => hq2.back y)⟩
    · simp [execOp, h1, h2, Instr.storeAt, storeVar, Instr.sureAddr, hv.eq.1, sizeOf, typeInfo, hi0, hsz', hvs, hst]
    · refine St.vec_mk (junk := junk) hk (by rw [setL_length]; exact hl) (by simpa [setL_length] using hl2) ?_
      have hset := hb.setBlock' (.here _ _) w' e1 e2 e3 e4
      rw [Nat.add_zero, setL_append ho] at hset
      exact hset

/-! ### New memory -/
theorem run_new {base : World} {w : World} (_hs : St base l w) (T : TypeId) (c : Array Value) : (newRow T c).run P w = .ok ⟨w.heap.size, 0, none⟩ { w with heap := w.heap.push (.cells c T) } := by
  rfl
theorem opn_alloc {t : TypeId} {size : Nat} {cs : List Value} (hw : Want all ⟨dst, .alloc t, ty, pos, af, g⟩ env) [hi : TI P t z size bytes] (hz : IsCells z cs) :
    OpN r P all ⟨dst, .alloc t, ty, pos, af, g⟩ n ds env l (fun b : Nat => .pointer (some ⟨b, 0, none⟩)) (fun b => obj b t cs :: l) :=
  opn_run hw (by simp) fun base a w ha hs => by
    obtain ⟨i0, hi0, hz0, _, _⟩ := info_parts hi.out
    refine ⟨w.heap.size, _, .inl ?_, hs.alloc _⟩
    simp [execOp, Instr.alloc, zeroValue, typeInfo, hi0, hz0, newVar, hz.eq.1, run_new hs]
theorem opn_box {t : TypeId} {x : Operand} {v : Value} {cs : List Value} (hw : Want all ⟨dst, .box t x, ty, pos, af, g⟩ env) (hx : ev env x = some v) (hz : IsCells v cs) :
    OpN r P all ⟨dst, .box t x, ty, pos, af, g⟩ n ds env l (fun b : Nat => .pointer (some ⟨b, 0, none⟩)) (fun b => obj b t cs :: l) :=
  opn_run hw (by simp) fun base a w ha hs => by
    have h1 := ha.ev (x := x) (by simp [Op.operands]) hx
    refine ⟨w.heap.size, _, .inl ?_, hs.alloc _⟩
    simp [execOp, h1, Instr.box, newVar, hz.eq.1, run_new hs]

/-! ### Structs and slices written out -/
def bld (places : List (Nat × Nat)) : List (Nat × Value) → List Value → Option (List Value)
  | [], cs => some cs
  | (i, v) :: rest, cs =>
    match places[i]? with
    | none => none
    | some (off, size) => if v.cells.toList.length ≠ size ∨ off + v.cells.toList.length > cs.length then none else bld places rest (setL cs off v.cells.toList)
theorem zip_fold (vs : List Value) : ∀ (k off : Nat) (cs : List Value), ((vs.zipIdx k).foldl (fun (acc : Array Value) (x : Value × Nat) => acc.setIfInBounds (off + x.2) x.1) cs.toArray) = (setL cs (off + k) vs).toArray := by
  induction vs with
  | nil => intros; rfl
  | cons v vs ih =>
    intro k off cs
    simp only [List.zipIdx_cons, List.foldl_cons, setL, List.setIfInBounds_toArray]
    rw [ih (k + 1) off, Nat.add_assoc]
theorem fill_bld {places : List (Nat × Nat)} : ∀ (parts : List (Nat × Value)) (cs cs' : List Value), bld places parts cs = some cs' → Instr.fill (fun i => places[i]?) cs.toArray parts = some cs'.toArray
  | [], cs, cs', h => by simp [bld] at h; simp [Instr.fill, h]
  | (i, v) :: rest, cs, cs', h => by
    unfold bld at h
    unfold Instr.fill
    cases hp : places[i]? with
    | none => rw [hp] at h; cases h
    | some os =>
      obtain ⟨off, size⟩ := os
      rw [hp] at h
      simp only [] at h ⊢
      split at h
      · cases h
      · rename_i hc
        simp only [Array.length_toList, not_or, Decidable.not_not, Nat.not_lt] at hc
        have e : (v.cells.zipIdx.foldl (fun cs (c, j) => cs.setIfInBounds (off + j) c) cs.toArray) = (setL cs off v.cells.toList).toArray := by
          have := zip_fold v.cells.toList 0 off cs
          rw [Nat.add_zero] at this
          rw [← this, ← Array.foldl_toList, Array.toList_zipIdx]
        have hc2 : ¬ (off + v.cells.size > cs.length) := by omega
        simp only [hc.1, ne_eq, not_true_eq_false, decide_false, Bool.false_or, List.size_toArray]
        rw [if_neg (by rw [hc.1] at hc2; simpa using hc2), e]
        exact fill_bld rest _ cs' h
class BL (P : Program) (t : TypeId) (places : outParam (List (Nat × Nat))) (zs : outParam (List Value)) : Prop where
  out : ∀ (parts : List (Nat × Value)) (w : World), (Instr.build t parts.toArray).run P w = (match Instr.fill (fun i => places[i]?) zs.toArray parts with | some cs => (.ok (.agg cs) w : Result Value) | none => .halt (.stuck "build: no such field, or a part of the wrong size") w)
theorem bl_mk {t : TypeId} {fields : Array Field} {places : List (Nat × Nat)} {zs : List Value} {size bytes : Nat} (hu : P.underlying t = some (.struct fields)) (hp : ∀ w, (fields.mapM (m := Sem) fun f => do pure (f.offset, ← sizeOf f.type)).run P w = .ok places.toArray w) [hz : TI P t (.agg zs.toArray) size bytes] : BL P t places zs := ⟨fun parts w => by
  obtain ⟨i0, hi0, hz0, _, _⟩ := info_parts hz.out
  have h1 : (zeroValue t).run P w = .ok (.agg zs.toArray) w := by simp [zeroValue, typeInfo, hi0, hz0]
  have h2 := hp w
  unfold Instr.build
  rw [Sem.run_bind, h1]
  simp only [Result.andThen]
  rw [Sem.run_bind, run_underlying hu]
  simp only [Result.andThen]
  rw [Sem.run_bind, h2]
  simp only [Result.andThen, Value.cells, List.getElem?_toArray]
  cases Instr.fill (fun i => places[i]?) zs.toArray parts <;> rfl⟩
inductive Evs (e : Env) : List Operand → List Value → Prop
  | nil : Evs e [] []
  | cons {x : Operand} {v : Value} {xs : List Operand} {vs : List Value} (h : ev e x = some v) (t : Evs e xs vs) : Evs e (x :: xs) (v :: vs)
theorem Evs.map {xs : List Operand} {vs : List Value} {o : Oper} {a : Act} (h : Evs env xs vs) (ha : AO all o n ds env a) (hx : ∀ x ∈ xs, x ∈ o.op.operands.toList) : xs.map a.eval = vs := by
  induction h with
  | nil => rfl
  | cons h _ ih =>
    simp only [List.map_cons]
    rw [ha.ev (hx _ (by simp)) h, ih (fun x hx' => hx x (by simp [hx']))]
theorem opq_build {t : TypeId} {ixs : List Nat} {xs : List Operand} {parts : Array (Nat × Operand)} {vs cs zs : List Value} {places : List (Nat × Nat)} (hw : Want all ⟨dst, .build t parts, ty, pos, af, g⟩ env) (hp : parts = (ixs.zip xs).toArray) (hlen : ixs.length = xs.length) (hx : Evs env xs vs) [hb : BL P t places zs] (hc : bld places (ixs.zip vs) zs = some cs) :
    OpQ r P all ⟨dst, .build t parts, ty, pos, af, g⟩ n ds env lc (.agg cs.toArray) :=
  opq_pure hw (by simp) fun a w ha => by
    subst hp
    have h1 := hx.map ha (fun x hx' => by
      simp only [Op.operands]
      rw [List.map_snd_zip (by omega)]; exact hx')
    have h2 : ((ixs.zip xs).toArray.map fun (i, x) => (i, a.eval x)) = (ixs.zip vs).toArray := by
      rw [← h1]
      simp only [List.map_toArray]
      congr 1
      clear h1 hx hw hc ha hlen
      induction ixs generalizing xs with
      | nil => simp
      | cons i ixs ih => cases xs with
        | nil => simp
        | cons x xs => simp [ih]
    have h3 := hb.out (ixs.zip vs) w
    rw [fill_bld _ _ _ hc] at h3
    simp [execOp, h2, h3]
theorem opn_buildSlice {t e : TypeId} {k : Nat} {ixs : List Nat} {xs : List Operand} {parts : Array (Nat × Operand)} {vs : List Value} (hw : Want all ⟨dst, .buildSlice t k parts, ty, pos, af, g⟩ env) (hp : parts = (ixs.zip xs).toArray) (hlen : ixs.length = xs.length) (hx : Evs env xs vs) [_hu : UL P t (.slice e)] [_hi : TI P e z size bytes]
    (hb : ∀ w : World, (Instr.buildSlice t k (ixs.zip vs).toArray).run P w = .ok (.slice (some ⟨w.heap.size, 0, none⟩) k k) (w.alloc (.cells cs.toArray e))) (hcs : cs.length = k * size) :
    OpN r P all ⟨dst, .buildSlice t k parts, ty, pos, af, g⟩ n ds env l (fun b : Nat => .slice (some ⟨b, 0, none⟩) k k) (fun b => Vec e size (some ⟨b, 0, none⟩) k k cs :: l) :=
  opn_run hw (by simp) fun base a w ha hs => by
    subst hp
    have h1 := hx.map ha (fun x hx' => by
      simp only [Op.operands]
      rw [List.map_snd_zip (by omega)]; exact hx')
    have h2 : ((ixs.zip xs).toArray.map fun (i, x) => (i, a.eval x)) = (ixs.zip vs).toArray := by
      rw [← h1]
      simp only [List.map_toArray]
      congr 1
      clear h1 hx hw ha hlen hb
      induction ixs generalizing xs with
      | nil => simp
      | cons i ixs ih => cases xs with
        | nil => simp
        | cons x xs => simp [ih]
    have ha' := hs.alloc (.cells cs.toArray e)
    refine ⟨w.heap.size, w.alloc (.cells cs.toArray e), .inl ?_, St.vec_mk (junk := []) (Nat.le_refl _) hcs (by simpa using hcs) (by rw [List.append_nil]; exact ha')⟩
    simp [execOp, h2, hb w]

/-! ### make, append, len -/
theorem flatten_rep_get (zs : List Value) : ∀ (k j : Nat), j < k * zs.length → (List.replicate k zs).flatten[j]? = zs[j % zs.length]?
  | 0, j, h => by simp at h
  | k + 1, j, h => by
    have hpos : 0 < zs.length := by
      rcases Nat.eq_zero_or_pos zs.length with h0 | h0
      · rw [h0] at h; simp at h
      · exact h0
    rw [List.replicate_succ, List.flatten_cons]
    by_cases hj : j < zs.length
    · rw [List.getElem?_append_left hj, Nat.mod_eq_of_lt hj]
    · rw [List.getElem?_append_right (by omega), flatten_rep_get zs k (j - zs.length) (by rw [Nat.add_mul] at h; omega)]
      congr 1
      rw [← Nat.mod_eq_sub_mod (by omega)]
theorem made_flat {k : Nat} (hz : IsCells z zs) (hlz : zs.length = size) (hsz : 0 < size) : madeCells z.cells (k * size) = (List.replicate k zs).flatten.toArray := by
  apply Array.ext'
  apply List.ext_getElem?
  intro j
  by_cases hj : j < k * size
  · have h1 := flatten_rep_get zs k j (by rw [hlz]; exact hj)
    simp only [h1, madeCells, hz.eq.1, hlz]
    have h2 : j % size < zs.length := by rw [hlz]; exact Nat.mod_lt _ hsz
    simp [hj, hlz, List.getElem?_eq_getElem h2]
  · rw [List.getElem?_eq_none (by rw [Array.length_toList, size_madeCells]; omega), List.getElem?_eq_none (by simp [hlz]; omega)]
theorem opn_makeSlice {t e : TypeId} {x : Operand} {kx : IntKind} {k : Nat} (hw : Want all ⟨dst, .makeSlice t x x', ty, pos, af, g⟩ env) (hx : ev env x = some (.int kx k)) (hx' : ev env x' = some (.int kx k)) [hu : UL P t (.slice e)] [hi : TI P e z size bytes] (hz : IsCells z zs) (hlz : zs.length = size) (hb : k * bytes ≤ 140737488355328) (hk : k ≤ 9223372036854775807) (hsz : 0 < size) :
    OpN r P all ⟨dst, .makeSlice t x x', ty, pos, af, g⟩ n ds env l (fun b : Nat => .slice (some ⟨b, 0, none⟩) k k) (fun b => Vec e size (some ⟨b, 0, none⟩) k k (List.replicate k zs).flatten :: l) :=
  opn_run hw (by simp) fun base a w ha hs => by
    have h1 := ha.ev (x := x) (by simp [Op.operands]) hx
    have h2 := ha.ev (x := x') (by simp [Op.operands]) hx'
    obtain ⟨i0, hi0, hz0, hs0, hb0⟩ := info_parts hi.out
    have hb' : (bytes : Int) * k ≤ 281474976710656 := by
      have h3 : bytes * k ≤ 140737488355328 := by rw [Nat.mul_comm]; exact hb
      rw [← Int.natCast_mul]; omega
    have hrun := run_make (P := P) w t e i0 z hu.out hi0 hz0 kx kx k k (by omega) (by omega) (by rw [hb0]; exact hb') (by omega)
    simp only [Int.toNat_natCast] at hrun
    have hlen : (List.replicate k zs).flatten.length = k * size := by rw [List.length_flatten, List.map_replicate, List.sum_replicate_nat, hlz]
    have ha' := hs.alloc (.cells (List.replicate k zs).flatten.toArray e)
    refine ⟨w.heap.size, w.alloc (.cells (List.replicate k zs).flatten.toArray e), .inl ?_, St.vec_mk (junk := []) (Nat.le_refl _) hlen (by simpa using hlen) (by rw [List.append_nil]; exact ha')⟩
    have hmade : madeCells z.cells (k * i0.size) = (List.replicate k zs).flatten.toArray := hs0 ▸ made_flat hz (hs0 ▸ hlz) (hs0 ▸ hsz)
    rw [hmade] at hrun
    simp [execOp, h1, h2, hrun]
end
end Go.Sl

/- More rules of the walk: append, len, reslicing, calls; what is said of a function. For whatever program. -/
namespace Go.Sl
section
variable {r : Option Nat} {P : Program} {n : Nat} {ds : List Deferred} {env : Env} {lc l l' : List HP} {all : Array Oper}
variable {z : Value} {bytes size : Nat} {cs zs : List Value} {dst : Option Tmp} {ty : TypeId} {pos : String} {af : Array Edge} {g : Option (Nat × Bool)}

theorem plain_one {v : Value} (h : plain v = true) : v.oneCell' = true := by cases v <;> simp_all [plain, Value.oneCell']
theorem execOp_builtin {ρ : Operand → Value} {b : Builtin} {args : Array Operand} {ats : Array TypeId} {v : Value} {w w' : World} (hb : ∀ C, (builtin b ats ty C (args.map ρ)).run P w = .ok (.value v) w') : (execOp ρ ⟨dst, .call ⟨.builtin b, args, ats⟩, ty, pos, af, g⟩).run P w = .ok (.value v) w' := by
  simp only [execOp, resolve, Sem.run_bind]
  simpa [invoke] using hb _

inductive Src (l : List HP) (sz : Nat) : Option Addr → Nat → List Value → Prop
  | nil : Src l sz none 0 []
  | zero (ad : Addr) : Src l sz (some ad) 0 []
  | lies {ad : Addr} {m : Nat} {cs : List Value} (h : Rd l ad cs) (hl : cs.length = m * sz) : Src l sz (some ad) m cs
theorem opn_append {t e : TypeId} {x y : Operand} {a a2 : Option Addr} {k cap m c2 : Nat} {cs2 : List Value} {r1 : List HP} (hw : Want all ⟨dst, .call ⟨.builtin .append, #[x, y], #[t, t]⟩, ty, pos, af, g⟩ env)
    (hx : ev env x = some (.slice a k cap)) (hy : ev env y = some (.slice a2 m c2)) [hu : UL P t (.slice e)] [hi : TI P e z size bytes] (hr : Rem l (Vec e size a k cap cs) r1) (hsrc : Src l size a2 m cs2) (hp : ∀ v ∈ cs2, plain v = true)
    (hz : IsCells z zs) (hlz : zs.length = size) (hb : (k + m) * bytes ≤ 140737488355328) (hk : k + m ≤ 9223372036854775807) :
    OpN r P all ⟨dst, .call ⟨.builtin .append, #[x, y], #[t, t]⟩, ty, pos, af, g⟩ n ds env l (fun q : Option Addr × Nat => .slice q.1 (k + m) q.2) (fun q => Vec e size q.1 (k + m) q.2 (cs ++ cs2) :: r1) :=
  opn_run hw (by simp) fun base ac w ha hs => by
    have h1 := ha.ev (x := x) (by simp [Op.operands, Call.operands]) hx
    have h2 := ha.ev (x := y) (by simp [Op.operands, Call.operands]) hy
    obtain ⟨i0, hi0, hz0, hs0, hb0⟩ := info_parts hi.out
    have main : ∃ (q : Option Addr × Nat) (w' : World), (Builtin.append_ #[t, t] ty #[.slice a k cap, .slice a2 m c2]).run P w = .ok (.slice q.1 (k + m) q.2) w' ∧ St base (Vec e size q.1 (k + m) q.2 (cs ++ cs2) :: r1) w' := by
      have hl1 : St base (Vec e size a k cap cs :: r1) w := hs.ent fun _ y => hr.out y
      have junkl : ∀ need cap', need ≤ cap' → (Builtin.zeroCells z.cells (cap' - need)).toList.length = cap' * size - need * size := fun need cap' h => by
        rw [Array.length_toList, size_zeroCells, hz.eq.1, List.size_toArray, hlz, Nat.sub_mul]
      rcases hs.vec hr with ⟨rfl, rfl, rfl, rfl⟩ | ⟨b, junk, rfl, hkc, hlc, hlj, hblk⟩
      · cases hsrc with
        | nil =>
          refine ⟨(none, 0), w, ?_, hl1⟩
          simp [Builtin.append_, run_underlying hu.out, sizeOf, typeInfo, hi0, Builtin.lenOf, Builtin.firstCells]
        | zero ad =>
          refine ⟨(none, 0), w, ?_, hl1⟩
          have hf := run_firstCells_some (P := P) w size 0 ad 0 c2 [] (by simp) (by simp)
          simp [Builtin.append_, run_underlying hu.out, sizeOf, typeInfo, hi0, hs0, Builtin.lenOf, hf]
        | @lies ad m cs2 hrd hl2 =>
          rcases Nat.eq_zero_or_pos m with h0 | h0
          · subst h0
            have : cs2 = [] := List.eq_nil_of_length_eq_zero (by simpa using hl2)
            subst this
            refine ⟨(none, 0), w, ?_, hl1⟩
            have hf := run_firstCells_some (P := P) w size 0 ad 0 c2 [] (by simp) (by simp)
            simp [Builtin.append_, run_underlying hu.out, sizeOf, typeInfo, hi0, hs0, Builtin.lenOf, hf]
          · have hrun := run_append_nil (P := P) w t ty e i0 z hu.out hi0 hz0 ad m c2 cs2 (by rw [hs0]; exact hl2) (hrd.cell hs) h0 (by omega) (by rw [hb0]; simp at hb; omega)
            refine ⟨(some ⟨w.heap.size, 0, none⟩, grownCap w m 0 e), _, by simpa using hrun, ?_⟩
            have hge := grownCap_ge w m 0 e
            have hs' := (hs.drawn (w.drawn + 1)).alloc (.cells (cs2.toArray ++ Builtin.zeroCells z.cells (grownCap w m 0 e - m)) e)
            have h4 : (cs2.toArray ++ Builtin.zeroCells z.cells (grownCap w m 0 e - m)) = (cs2 ++ (Builtin.zeroCells z.cells (grownCap w m 0 e - m)).toList).toArray := by apply Array.ext'; simp
            have h5 : m * size ≤ grownCap w m 0 e * size := Nat.mul_le_mul_right _ hge
            show St base (Vec e size (some ⟨w.heap.size, 0, none⟩) (0 + m) (grownCap w m 0 e) ([] ++ cs2) :: r1) _
            rw [Nat.zero_add, List.nil_append]
            exact St.vec_mk hge hl2 (by rw [List.length_append, junkl _ _ hge]; omega) (hs'.ent fun _ y => lst_cons_mono (fun _ hh => by rw [← h4]; exact hh) (fun _ y => lst_drop (hr.out y)) y)
      · have hb1 := hblk.block (.here _ _)
        have holds : ∀ j v, cs[j]? = some v → w.cell? (Addr.add ⟨b, 0, none⟩ j) = some v := (rd_vec hr).cell hs
        have news : ∃ ad, (Builtin.append_ #[t, t] ty #[.slice (some ⟨b, 0, none⟩) k cap, .slice a2 m c2]).run P w = (Builtin.append_ #[t, t] ty #[.slice (some ⟨b, 0, none⟩) k cap, .slice (some ad) m c2]).run P w ∧ cs2.length = m * size ∧ ∀ j v, cs2[j]? = some v → w.cell? (ad.add j) = some v := by
          cases hsrc with
          | nil =>
            refine ⟨⟨b, 0, none⟩, ?_, by simp, by simp⟩
            have hf := run_firstCells_some (P := P) w size 0 ⟨b, 0, none⟩ 0 c2 [] (by simp) (by simp)
            simp [Builtin.append_, run_underlying hu.out, sizeOf, typeInfo, hi0, hs0, Builtin.lenOf, hkc, hf, run_firstCells_none]
          | zero ad => exact ⟨ad, rfl, by simp, by simp⟩
          | @lies ad m cs2 hrd hl2 => exact ⟨ad, rfl, hl2, hrd.cell hs⟩
        obtain ⟨ad, he, hl2, hcell⟩ := news
        by_cases hroom : k + m ≤ cap
        · have hmul : (k + m) * size ≤ cap * size := Nat.mul_le_mul_right _ hroom
          rw [Nat.add_mul] at hmul
          have hfit : k * i0.size + cs2.length ≤ (cs ++ junk).toArray.size := by rw [hs0, List.size_toArray, hlj, hl2]; exact hmul
          have hrun := run_append_room (P := P) w t ty e i0 hu.out hi0 b k cap (cs ++ junk).toArray hb1 ad m c2 cs2 (by rw [hs0]; exact hl2) hcell (fun u hu' => plain_one (hp u hu')) hroom hfit
          refine ⟨(some ⟨b, 0, none⟩, cap), _, he.trans hrun, ?_⟩
          have e1 : ((cs ++ junk).toArray.toList.take (k * i0.size) ++ cs2 ++ (cs ++ junk).toArray.toList.drop (k * i0.size + cs2.length)) = (cs ++ cs2) ++ junk.drop cs2.length := by
            rw [hs0, ← hlc]
            simp [List.drop_append]
          rw [e1]
          refine St.vec_mk (junk := junk.drop cs2.length) hroom (by rw [List.length_append, hlc, hl2, Nat.add_mul]) ?_ (hblk.setBlock' (o' := .cells ((cs ++ cs2) ++ junk.drop cs2.length).toArray e (0, 0)) (.here _ _) _ rfl rfl rfl fun j => ?_)
          · rw [List.length_append] at hlj
            simp only [List.length_append, List.length_drop]
            omega
          · simp only [World.setRow, Array.getElem?_modify]
            by_cases hj : j = b
            · subst hj; simp only [if_true]; rw [show w.heap[j]? = _ from hb1]; rfl
            · have hj' : ¬ b = j := fun e => hj e.symm
              simp [hj, hj']
        · have hfit := growslice_fits (need := k + m) (old := cap) (bytes := i0.bytes) (by omega) (by rw [hb0]; exact hb)
          have hrun := run_append_grow (P := P) w t ty e i0 z hu.out hi0 hz0 ⟨b, 0, none⟩ k cap cs (by rw [hs0]; exact hlc) holds ad m c2 cs2 (by rw [hs0]; exact hl2) hcell (by omega) (by omega) hfit
          refine ⟨(some ⟨w.heap.size, 0, none⟩, grownCap w (k + m) cap e), _, he.trans hrun, ?_⟩
          have hge := grownCap_ge w (k + m) cap e
          have hs' := (hs.drawn (w.drawn + 1)).alloc (.cells (cs.toArray ++ cs2.toArray ++ Builtin.zeroCells z.cells (grownCap w (k + m) cap e - (k + m))) e)
          have h4 : (cs.toArray ++ cs2.toArray ++ Builtin.zeroCells z.cells (grownCap w (k + m) cap e - (k + m))) = ((cs ++ cs2) ++ (Builtin.zeroCells z.cells (grownCap w (k + m) cap e - (k + m))).toList).toArray := by apply Array.ext'; simp
          have h5 : (k + m) * size ≤ grownCap w (k + m) cap e * size := Nat.mul_le_mul_right _ hge
          have h6 : (cs ++ cs2).length = (k + m) * size := by rw [List.length_append, hlc, hl2, Nat.add_mul]
          show St base (Vec e size (some ⟨w.heap.size, 0, none⟩) (k + m) (grownCap w (k + m) cap e) (cs ++ cs2) :: r1) _
          exact St.vec_mk hge h6 (by rw [List.length_append, junkl _ _ hge, h6]; omega) (hs'.ent fun _ y => lst_cons_mono (fun _ hh => by rw [← h4]; exact hh) (fun _ y => lst_drop (hr.out y)) y)
    obtain ⟨q, w', hrun, hst⟩ := main
    refine ⟨q, w', .inl ?_, hst⟩
    refine execOp_builtin fun C => ?_
    simp [builtin, h1, h2, hrun]
theorem opq_len {t e : TypeId} {x : Operand} {a : Option Addr} {k c : Nat} (hw : Want all ⟨dst, .call ⟨.builtin .len, #[x], #[t]⟩, ty, pos, af, g⟩ env) (hx : ev env x = some (.slice a k c)) [hu : UL P t (.slice e)] : OpQ r P all ⟨dst, .call ⟨.builtin .len, #[x], #[t]⟩, ty, pos, af, g⟩ n ds env lc (.int .i64 k) :=
  opq_pure hw (by simp) fun ac w ha => by
    have h1 := ha.ev (x := x) (by simp [Op.operands, Call.operands]) hx
    refine execOp_builtin fun C => ?_
    simp [builtin, h1, Builtin.len_, run_underlying hu.out, goInt]
end
end Go.Sl

/- What is said of a function, and how it is used and shown. For whatever program. -/
namespace Go.Sl

def SpecH {α : Type} (P : Program) (f : FuncId) (args : Array Value) (pre : List HP) (val : α → Value) (post : α → List HP) : Prop :=
  ∀ (base : World) (F : HP) (w : World), St base (pre ++ [F]) w → CallsIn (Fc none) 0 P f args w fun e w' => ∃ x, e = .returned (val x) ∧ St base (post x ++ [F]) w'

class CF (P : Program) (f : FuncId) : Prop where
  out : ∀ (args : Array Value) (w : World), (callFunc f args).run P w = .ok (.enter f args) w

theorem lst_one {l : List HP} {h : Hp} (x : lst l h) : lst [lst l] h := by
  have := lst_unflat (xs := l) (l := []) (h := h) (by simpa using x)
  exact this
theorem lst_one' {l : List HP} {h : Hp} (x : lst [lst l] h) : lst l h := by simpa using lst_flat x
theorem ent_fold (pre rest : List HP) : Ent (pre ++ rest) (pre ++ [lst rest]) := fun h x => by
  have h1 := lst_unflat x
  exact lst_flat (lst_cons_mono (fun _ y => y) (fun _ y => lst_one y) h1)
theorem ent_unfold (pre rest : List HP) : Ent (pre ++ [lst rest]) (pre ++ rest) := fun h x => by
  have h1 := lst_unflat x
  exact lst_flat (lst_cons_mono (fun _ y => y) (fun _ y => lst_one' y) h1)

section
variable {r : Option Nat} {P : Program} {n : Nat} {ds : List Deferred} {env : Env} {lc l l' : List HP} {all : Array Oper} {base : World} {Q : Exit → Act → World → Prop}
variable {dst : Option Tmp} {ty : TypeId} {pos : String} {af : Array Edge} {g : Option (Nat × Bool)}

theorem run_call {ρ : Operand → Value} {x : Operand} {f : FuncId} {first captured : Array Value} {args : Array Operand} {ats : Array TypeId} {w : World} [hc : CF P f] (hx : ρ x = .func (.func f) first captured) :
    (execOp ρ ⟨dst, .call ⟨.value x, args, ats⟩, ty, pos, af, g⟩).run P w = .ok (.enter f (first ++ args.map ρ ++ captured)) w := by
  simp only [execOp, resolve, Sem.run_bind]
  simp [hx, Deferred.ofValue, invoke, hc.out]
theorem Pick.append {l p q : List HP} (h : Pick l p q) (F : List HP) : Pick (l ++ F) p (q ++ F) := by
  induction h with
  | nil l => exact .nil _
  | cons h _ ih => exact .cons (h.append F) ih
theorem step_call {α : Type} {x : Operand} {f : FuncId} {first captured : Array Value} {xs : List Operand} {ats : Array TypeId} {vs : List Value} {args : Array Value} {pre rest : List HP} {val : α → Value} {post : α → List HP} {a : Act} {w : World} [CF P f]
    (hw : Want all ⟨dst, .call ⟨.value x, xs.toArray, ats⟩, ty, pos, af, g⟩ env) (hx : ev env x = some (.func (.func f) first captured)) (hxs : Evs env xs vs) (hargs : args = first ++ vs.toArray ++ captured) (hs : SpecH P f args pre val post) (hp : Pick l pre rest)
    (ha : AO all ⟨dst, .call ⟨.value x, xs.toArray, ats⟩, ty, pos, af, g⟩ n ds env a) (hst : St base l w) :
    VStep r P all ⟨dst, .call ⟨.value x, xs.toArray, ats⟩, ty, pos, af, g⟩ a w (fun u w' => ∃ y, u = val y ∧ St base (post y ++ rest) w') := by
  have h1 := ha.ev (x := x) (by simp [Op.operands, Call.operands]) hx
  have h2 := hxs.map ha (fun y hy => by simp [Op.operands, Call.operands, hy])
  refine ⟨by simp, ?_⟩
  rw [if_pos (hw _ ha.val), run_call h1, List.map_toArray, h2, ← hargs]
  have h3 : St base (pre ++ [lst rest]) w := (St.ent hst (fun _ h => hp.out h)).ent (ent_fold _ _)
  have h4 := hs base (lst rest) w h3
  have h5 : CallsIn (Fc r) 0 P f args w (fun e w' => ∃ y, e = .returned (val y) ∧ St base (post y ++ [lst rest]) w') := h4
  refine CallsIn.mono h5 ?_
  rintro e w' ⟨y, rfl, hs'⟩
  exact ⟨val y, rfl, y, rfl, hs'.ent (ent_unfold _ _)⟩
theorem opn_call {α : Type} {f : FuncId} {xs : List Operand} {ats : Array TypeId} {vs : List Value} {pre rest : List HP} {val : α → Value} {post : α → List HP} [CF P f]
    (hw : Want all ⟨dst, .call ⟨.value (.func f), xs.toArray, ats⟩, ty, pos, af, g⟩ env) (hxs : Evs env xs vs) (hs : SpecH P f vs.toArray pre val post) (hp : Pick l pre rest) :
    OpN r P all ⟨dst, .call ⟨.value (.func f), xs.toArray, ats⟩, ty, pos, af, g⟩ n ds env l val (fun y => post y ++ rest) := fun _ _ _ ha hst =>
  step_call hw rfl hxs (by simp) hs hp ha hst
theorem opn_callv {α : Type} {x : Operand} {f : FuncId} {first captured : Array Value} {xs : List Operand} {ats : Array TypeId} {vs : List Value} {args : Array Value} {pre rest : List HP} {val : α → Value} {post : α → List HP} [CF P f]
    (hw : Want all ⟨dst, .call ⟨.value x, xs.toArray, ats⟩, ty, pos, af, g⟩ env) (hx : ev env x = some (.func (.func f) first captured)) (hxs : Evs env xs vs) (hargs : args = first ++ vs.toArray ++ captured) (hs : SpecH P f args pre val post) (hp : Pick l pre rest) :
    OpN r P all ⟨dst, .call ⟨.value x, xs.toArray, ats⟩, ty, pos, af, g⟩ n ds env l val (fun y => post y ++ rest) := fun _ _ _ ha hst =>
  step_call hw hx hxs hargs hs hp ha hst
/-! ### A function from its body -/
def zipEnv : Nat → List Value → Env
  | _, [] => []
  | i, v :: vs => (i, v) :: zipEnv (i + 1) vs
theorem look_zip : ∀ (vs : List Value) (i t : Nat) (v : Value), look (zipEnv i vs) t = some v → i ≤ t ∧ vs[t - i]? = some v
  | [], i, t, v, h => by cases h
  | u :: vs, i, t, v, h => by
    simp only [zipEnv, look_cons] at h
    split at h
    · rename_i e; subst e; simpa using h
    · obtain ⟨h1, h2⟩ := look_zip vs (i + 1) t v h
      refine ⟨by omega, ?_⟩
      rw [show t - i = (t - (i + 1)) + 1 from by omega]
      simpa using h2
def fnPost {α : Type} (P : Program) (base : World) (fn : Func) (val : α → Value) (post : α → List HP) (F : HP) : Exit → Act → World → Prop := bodyPost P fn (fun e w' => ∃ x, e = .returned (val x) ∧ St base (post x ++ [F]) w')
theorem spec_of {α : Type} {f : FuncId} {fn : Func} {c : Code} {vs : List Value} {pre : List HP} {val : α → Value} {post : α → List HP} {k : Nat} (hf : P.funcs[f]? = some fn) (hb : fn.body = some c) (hn : fn.ntmps = k) (hk' : Nat.ble vs.length k = true) (env0 : Env) (he : zipEnv 0 vs = env0)
    (h : ∀ (base : World) (F : HP) (l0 : List HP), l0 = pre ++ [F] → TC none P base k [] c (fnPost P base fn val post F) env0 l0) : SpecH P f vs.toArray pre val post := fun base F w hw => by
  have hk : vs.length ≤ k := Nat.le_of_ble_eq_true hk'
  refine callsIn_of_wp hf hb trivial ?_
  refine h base F _ rfl _ _ ⟨?_, rfl, ?_⟩ hw
  · simp [hn]; omega
  · intro t v hv
    rw [← he] at hv
    obtain ⟨_, h1⟩ := look_zip vs 0 t v hv
    simp only [Nat.sub_zero] at h1
    have ht : t < vs.length := (List.getElem?_eq_some_iff.1 h1).1
    have h2 : vs[t] = v := by rw [List.getElem?_eq_getElem ht] at h1; exact Option.some.inj h1
    simp [Array.getD_eq_getD_getElem?, Array.getElem?_append, ht, h2]
inductive Res (P : Program) (l : List HP) (e : Env) : ResultVar → Value → Prop
  | tmp {t : Nat} {v : Value} (h : look e t = some v) : Res P l e (.tmp t) v
  | cell {t b off : Nat} {T : TypeId} {v : Value} (h : look e t = some (.pointer (some ⟨b, off, none⟩))) [ht : NAgg P T] (hr : Rd l ⟨b, off, none⟩ [v]) : Res P l e (.cell t T) v
  | agg {t b off size : Nat} {T : TypeId} {vs : List Value} (h : look e t = some (.pointer (some ⟨b, off, none⟩))) [ht : IAgg P T size] (hr : Rd l ⟨b, off, none⟩ vs) (hl : vs.length = size) : Res P l e (.cell t T) (.agg vs.toArray)
def resSem (tmps : Array Value) : ResultVar → Sem Value
  | .tmp t => pure (tmps.getD t undef)
  | .cell a t => do loadVar t (← asAddr (tmps.getD a undef))
theorem Res.run {x : ResultVar} {v : Value} {a : Act} {w : World} (h : Res P l env x v) (ha : AS n ds env a) (hs : St base l w) : (resSem a.tmps x).run P w = .ok v w := by
  cases h with
  | tmp h => simp [resSem, ha.val _ _ h]
  | @cell t b off T v h ht hr =>
    have h2 := hr.cell hs 0 v rfl
    have h3 : Addr.add ⟨b, off, none⟩ 0 = ⟨b, off, none⟩ := rfl
    rw [h3] at h2
    simp [resSem, ha.val _ _ h, asAddr, loadVar, ht.out w, load, Sem.run, h2]
  | @agg t b off size T vs h ht hr hl =>
    have h2 := run_loadCells_list (P := P) w ⟨b, off, none⟩ vs (hr.cell hs)
    rw [hl] at h2
    simp [resSem, ha.val _ _ h, asAddr, loadVar, (ht.out w).1, (ht.out w).2, h2]
theorem results_eq (fn : Func) (tmps : Array Value) : results fn tmps = (do let vs ← fn.results.mapM (resSem tmps); pure (if h : vs.size = 1 then vs[0] else .tuple vs)) := by
  unfold results
  congr 1
variable {α : Type} {val : α → Value} {post : α → List HP} {F : HP} {fn : Func}
theorem tk_end0 (hres : fn.results = #[]) (x : α) (hx : (.tuple #[] : Value) = val x) (he : Ent l (post x ++ [F])) : TK base n [] (fnPost P base fn val post F .normal) env l := fun a w ha hs =>
  ⟨ha.defers, .tuple #[], by simp [results, hres], x, by rw [hx], hs.ent he⟩
theorem tk_ret0 (hres : fn.results = #[]) (x : α) (hx : (.tuple #[] : Value) = val x) (he : Ent l (post x ++ [F])) : TK base n [] (fnPost P base fn val post F .ret) env l := fun a w ha hs =>
  ⟨ha.defers, .tuple #[], by simp [results, hres], x, by rw [hx], hs.ent he⟩
theorem tk_ret1 {r1 : ResultVar} {v1 : Value} (hres : fn.results = #[r1]) (h1 : Res P l env r1 v1) (x : α) (hx : v1 = val x) (he : Ent l (post x ++ [F])) : TK base n [] (fnPost P base fn val post F .ret) env l := fun a w ha hs =>
  ⟨ha.defers, v1, by simp [results_eq, hres, h1.run ha hs], x, by rw [hx], hs.ent he⟩
theorem tk_ret2 {r1 r2 : ResultVar} {v1 v2 : Value} (hres : fn.results = #[r1, r2]) (h1 : Res P l env r1 v1) (h2 : Res P l env r2 v2) (x : α) (hx : .tuple #[v1, v2] = val x) (he : Ent l (post x ++ [F])) : TK base n [] (fnPost P base fn val post F .ret) env l := fun a w ha hs =>
  ⟨ha.defers, .tuple #[v1, v2], by simp [results_eq, hres, h1.run ha hs, h2.run ha hs], x, by rw [hx], hs.ent he⟩
theorem tk_ret3 {r1 r2 r3 : ResultVar} {v1 v2 v3 : Value} (hres : fn.results = #[r1, r2, r3]) (h1 : Res P l env r1 v1) (h2 : Res P l env r2 v2) (h3 : Res P l env r3 v3) (x : α) (hx : .tuple #[v1, v2, v3] = val x) (he : Ent l (post x ++ [F])) : TK base n [] (fnPost P base fn val post F .ret) env l := fun a w ha hs =>
  ⟨ha.defers, .tuple #[v1, v2, v3], by simp [results_eq, hres, h1.run ha hs, h2.run ha hs, h3.run ha hs], x, by rw [hx], hs.ent he⟩
end
end Go.Sl
