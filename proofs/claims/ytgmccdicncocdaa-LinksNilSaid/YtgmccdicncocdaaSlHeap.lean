/- Assertions on the heap: partial heaps, separating lists of assertions, and what a world that meets such a list gives. No program, no condition. -/
import Derived.OrdersIn
import Derived.RangeFuncIn
import Derived.RangeFuncLeaves
namespace Go.Sl

/-- A part of the heap: blocks by number, each owned or shared (then no one writes it). -/
abbrev Hp := Nat → Option (Bool × Obj)
/-- An assertion on a part of the heap. -/
abbrev HP := Hp → Prop

def Disj (a b : Hp) : Prop := ∀ k, a k = none ∨ b k = none ∨ (a k = b k ∧ ∃ o, a k = some (false, o))
def joinH (a b : Hp) : Hp := fun k => match a k with | some o => some o | none => b k
def sep (p q : HP) : HP := fun h => ∃ a b, Disj a b ∧ h = joinH a b ∧ p a ∧ q b
/-- All of a list of assertions, on disjoint parts; what is left over is free. -/
def lst : List HP → HP
  | [] => fun _ => True
  | p :: l => sep p (lst l)

theorem joinH_left {a b : Hp} {k : Nat} {o : Bool × Obj} (h : a k = some o) : joinH a b k = some o := by simp [joinH, h]
theorem joinH_none {a b : Hp} {k : Nat} (h : a k = none) : joinH a b k = b k := by simp [joinH, h]
theorem joinH_comm {a b : Hp} (h : Disj a b) : joinH a b = joinH b a := by
  funext k
  rcases h k with h | h | ⟨h, o, h'⟩
  · rw [joinH_none h]; unfold joinH; split <;> simp_all
  · rw [joinH_none (a := b) h]; unfold joinH; split <;> simp_all
  · unfold joinH; rw [← h]
theorem Disj.symm {a b : Hp} (h : Disj a b) : Disj b a := fun k => by
  rcases h k with h | h | ⟨h, o, h'⟩
  · exact .inr (.inl h)
  · exact .inl h
  · exact .inr (.inr ⟨h.symm, o, by rw [← h]; exact h'⟩)
theorem joinH_assoc (a b c : Hp) : joinH (joinH a b) c = joinH a (joinH b c) := by
  funext k; unfold joinH; cases a k <;> rfl
theorem joinH_eq_none {a b : Hp} {k : Nat} (h : joinH a b k = none) : a k = none ∧ b k = none := by
  unfold joinH at h
  cases ha : a k with
  | none => rw [ha] at h; exact ⟨rfl, h⟩
  | some o => rw [ha] at h; cases h
theorem Disj.join_left {a b c : Hp} (hab : Disj a b) (h : Disj (joinH a b) c) : Disj a c ∧ Disj b c := by
  constructor <;> intro k <;> rcases h k with h | h | ⟨h, o, h'⟩
  · exact .inl (joinH_eq_none h).1
  · exact .inr (.inl h)
  · cases ha : a k with
    | none => exact .inl rfl
    | some x => rw [joinH_left ha] at h h'; exact .inr (.inr ⟨h, o, h'⟩)
  · exact .inl (joinH_eq_none h).2
  · exact .inr (.inl h)
  · cases hb : b k with
    | none => exact .inl rfl
    | some x =>
      rcases hab k with ha | hb' | ⟨ha, o', ha'⟩
      · rw [joinH_none ha, hb] at h h'; exact .inr (.inr ⟨h, o, h'⟩)
      · rw [hb] at hb'; cases hb'
      · rw [joinH_left ha'] at h h'; rw [← hb, ← ha, ha']; exact .inr (.inr ⟨h, o, h'⟩)
theorem Disj.join_right {a b c : Hp} (hbc : Disj b c) (h : Disj a (joinH b c)) : Disj a b ∧ Disj a c := by
  have := Disj.join_left hbc h.symm
  exact ⟨this.1.symm, this.2.symm⟩
theorem Disj.joinl {a b c : Hp} (h : Disj a c) (h' : Disj b c) : Disj (joinH a b) c := by
  intro k
  rcases h k with h | h | ⟨h, o, h2⟩
  · rcases h' k with h' | h' | ⟨h', o, h2⟩
    · left; simp [joinH, h, h']
    · exact .inr (.inl h')
    · rw [joinH_none h]; exact .inr (.inr ⟨h', o, h2⟩)
  · exact .inr (.inl h)
  · rw [joinH_left h2, ← h, h2]; exact .inr (.inr ⟨rfl, o, rfl⟩)
theorem Disj.joinr {a b c : Hp} (h : Disj a b) (h' : Disj a c) : Disj a (joinH b c) := (Disj.joinl h.symm h'.symm).symm

theorem sep_comm {p q : HP} {h : Hp} (x : sep p q h) : sep q p h := by
  obtain ⟨a, b, hd, rfl, ha, hb⟩ := x
  exact ⟨b, a, hd.symm, joinH_comm hd, hb, ha⟩
theorem sep_assoc {p q r : HP} {h : Hp} (x : sep (sep p q) r h) : sep p (sep q r) h := by
  obtain ⟨_, c, hd, rfl, ⟨a, b, hab, rfl, ha, hb⟩, hc⟩ := x
  obtain ⟨h1, h2⟩ := Disj.join_left hab hd
  exact ⟨a, joinH b c, hab.joinr h1, joinH_assoc a b c, ha, b, c, h2, rfl, hb, hc⟩
theorem sep_assoc' {p q r : HP} {h : Hp} (x : sep p (sep q r) h) : sep (sep p q) r h := by
  obtain ⟨a, _, hd, rfl, ha, b, c, hbc, rfl, hb, hc⟩ := x
  obtain ⟨h1, h2⟩ := Disj.join_right hbc hd
  exact ⟨joinH a b, c, h2.joinl hbc, (joinH_assoc a b c).symm, ⟨a, b, h1, rfl, ha, hb⟩, hc⟩
theorem sep_mono {p p' q q' : HP} {h : Hp} (hp : ∀ h, p h → p' h) (hq : ∀ h, q h → q' h) (x : sep p q h) : sep p' q' h := by
  obtain ⟨a, b, hd, rfl, ha, hb⟩ := x
  exact ⟨a, b, hd, rfl, hp _ ha, hq _ hb⟩
theorem sep_swap {p q r : HP} {h : Hp} (x : sep p (sep q r) h) : sep q (sep p r) h :=
  sep_assoc (sep_mono (fun _ y => sep_comm y) (fun _ y => y) (sep_assoc' x))

/-- What is left over is free. -/
theorem lst_join {l : List HP} : ∀ {a b : Hp}, lst l a → Disj a b → lst l (joinH a b) := by
  induction l with
  | nil => intros; trivial
  | cons p l ih =>
    intro a b h hd
    obtain ⟨x, y, hxy, rfl, hx, hy⟩ := h
    obtain ⟨h1, h2⟩ := Disj.join_left hxy hd
    exact ⟨x, joinH y b, hxy.joinr h1, joinH_assoc x y b, hx, ih hy h2⟩
theorem lst_drop {p : HP} {l : List HP} {h : Hp} (x : lst (p :: l) h) : lst l h := by
  obtain ⟨a, b, hd, rfl, _, hb⟩ := x
  rw [joinH_comm hd]; exact lst_join hb hd.symm
theorem lst_swap {p q : HP} {l : List HP} {h : Hp} (x : lst (p :: q :: l) h) : lst (q :: p :: l) h := sep_swap x
theorem lst_cons_mono {p p' : HP} {l l' : List HP} {h : Hp} (hp : ∀ h, p h → p' h) (hl : ∀ h, lst l h → lst l' h) (x : lst (p :: l) h) : lst (p' :: l') h := sep_mono hp hl x
/-- A list within a list. -/
theorem lst_flat {xs l : List HP} : ∀ {h : Hp}, lst (lst xs :: l) h → lst (xs ++ l) h := by
  induction xs with
  | nil => intro h x; exact lst_drop x
  | cons p xs ih =>
    intro h x
    exact sep_mono (fun _ y => y) (fun _ y => ih y) (sep_assoc x)
theorem lst_unflat {xs l : List HP} : ∀ {h : Hp}, lst (xs ++ l) h → lst (lst xs :: l) h := by
  induction xs with
  | nil => intro h x; exact ⟨fun _ => none, h, fun _ => .inl rfl, by funext k; rfl, trivial, x⟩
  | cons p xs ih =>
    intro h x
    exact sep_assoc' (sep_mono (fun _ y => y) (fun _ y => ih y) x)

/-- 'l' is 'x' and the list 'l''. -/
inductive Rem : List HP → HP → List HP → Prop
  | here (x : HP) (l : List HP) : Rem (x :: l) x l
  | there {l l' : List HP} {x : HP} (y : HP) (h : Rem l x l') : Rem (y :: l) x (y :: l')
theorem Rem.out {l l' : List HP} {x : HP} (h : Rem l x l') : ∀ {hp : Hp}, lst l hp → lst (x :: l') hp := by
  induction h with
  | here => exact fun h => h
  | there y _ ih => exact fun h => lst_swap (lst_cons_mono (fun _ h => h) (fun _ h => ih h) h)
theorem Rem.back {l l' : List HP} {x : HP} (h : Rem l x l') : ∀ {hp : Hp}, lst (x :: l') hp → lst l hp := by
  induction h with
  | here => exact fun h => h
  | there y _ ih => exact fun h => lst_cons_mono (fun _ h => h) (fun _ h => ih h) (lst_swap h)
/-- 'l'' is 'l' with 'y' in the place of 'x'. -/
inductive Rep (x y : HP) : List HP → List HP → Prop
  | here (l : List HP) : Rep x y (x :: l) (y :: l)
  | there {l l' : List HP} (z : HP) (h : Rep x y l l') : Rep x y (z :: l) (z :: l')
theorem Rep.rem {x y : HP} {l l' : List HP} (h : Rep x y l l') : ∃ r, Rem l x r ∧ Rem l' y r := by
  induction h with
  | here l => exact ⟨l, .here _ _, .here _ _⟩
  | there z _ ih => obtain ⟨r, h1, h2⟩ := ih; exact ⟨z :: r, .there _ h1, .there _ h2⟩
/-- 'l' is the list 'p' and the list 'r'. -/
inductive Pick : List HP → List HP → List HP → Prop
  | nil (l : List HP) : Pick l [] l
  | cons {l l' p r : List HP} {x : HP} (h : Rem l x l') (h' : Pick l' p r) : Pick l (x :: p) r
theorem Pick.out {l p r : List HP} (h : Pick l p r) : ∀ {hp : Hp}, lst l hp → lst (p ++ r) hp := by
  induction h with
  | nil => exact fun h => h
  | cons hr _ ih => exact fun h => lst_cons_mono (fun _ h => h) (fun _ h => ih h) (hr.out h)
theorem Pick.back {l p r : List HP} (h : Pick l p r) : ∀ {hp : Hp}, lst (p ++ r) hp → lst l hp := by
  induction h with
  | nil => exact fun h => h
  | cons hr _ ih => exact fun h => hr.back (lst_cons_mono (fun _ h => h) (fun _ h => ih h) h)

theorem Pick.whole : ∀ l : List HP, Pick l l []
  | [] => .nil _
  | x :: l => .cons (.here x l) (Pick.whole l)

/-- From one list of assertions to another. -/
def Ent (l l' : List HP) : Prop := ∀ h, lst l h → lst l' h
theorem Ent.refl (l : List HP) : Ent l l := fun _ h => h
theorem Ent.trans {a b c : List HP} (h : Ent a b) (k : Ent b c) : Ent a c := fun _ x => k _ (h _ x)
theorem Ent.nil (l : List HP) : Ent l [] := fun _ _ => trivial
theorem Ent.cons {l r l' : List HP} {x : HP} (h : Rem l x r) (k : Ent r l') : Ent l (x :: l') := fun _ y => lst_cons_mono (fun _ h => h) (fun _ h => k _ h) (h.out y)
theorem Ent.cons_of {l r l' : List HP} {x y : HP} (h : Rem l x r) (hxy : ∀ h, x h → y h) (k : Ent r l') : Ent l (y :: l') := fun _ z => lst_cons_mono hxy (fun _ h => k _ h) (h.out z)
theorem Ent.drop {p : HP} {l l' : List HP} (k : Ent l l') : Ent (p :: l) l' := fun _ x => k _ (lst_drop x)
theorem Ent.append {l l' : List HP} (r : List HP) (k : Ent l l') : Ent (l ++ r) (l' ++ r) := fun _ x => lst_flat (lst_cons_mono (fun _ h => k _ h) (fun _ h => h) (lst_unflat x))

/-! ### Assertions -/
/-- Block 'b' is 'o', and is one's own. -/
def blk (b : Nat) (o : Obj) : HP := fun h => h = fun k => if k = b then some (true, o) else none
/-- Block 'b' is 'o' for good: no one writes it. -/
def ro (b : Nat) (o : Obj) : HP := fun h => h = fun k => if k = b then some (false, o) else none
/-- A fact. -/
def fact (p : Prop) : HP := fun h => p ∧ h = fun _ => none
/-- An assertion that may be held any number of times. -/
class Pers (p : HP) : Prop where
  out : ∀ h, p h → ∀ k x, h k = some x → x.1 = false

theorem lst_fact {p : Prop} {l : List HP} {h : Hp} (x : lst (fact p :: l) h) : p ∧ lst l h := by
  obtain ⟨a, b, _, rfl, ⟨hp, rfl⟩, hb⟩ := x
  exact ⟨hp, hb⟩
theorem lst_fact_mk {p : Prop} {l : List HP} {h : Hp} (hp : p) (x : lst l h) : lst (fact p :: l) h :=
  ⟨fun _ => none, h, fun _ => .inl rfl, by funext k; rfl, ⟨hp, rfl⟩, x⟩
theorem Ent.fact {p : Prop} {l l' : List HP} (hp : p) (k : Ent l l') : Ent l (fact p :: l') := fun _ x => lst_fact_mk hp (k _ x)
theorem lst_blk {b : Nat} {o : Obj} {l : List HP} {h : Hp} (x : lst (blk b o :: l) h) : h b = some (true, o) := by
  obtain ⟨a, c, _, rfl, rfl, _⟩ := x
  exact joinH_left (by simp)
theorem lst_ro {b : Nat} {o : Obj} {l : List HP} {h : Hp} (x : lst (ro b o :: l) h) : h b = some (false, o) := by
  obtain ⟨a, c, _, rfl, rfl, _⟩ := x
  exact joinH_left (by simp)
theorem Disj.one {b : Nat} {o o' : Obj} {c : Hp} {t' : Bool} (hd : Disj (fun k => if k = b then some (true, o) else none) c) : Disj (fun k => if k = b then some (t', o') else none) c := fun k => by
  by_cases hk : k = b
  · rcases hd k with h | h | ⟨_, o2, h⟩
    · simp [hk] at h
    · exact .inr (.inl h)
    · simp [hk] at h
  · left; simp [hk]
theorem lst_blk_set {b : Nat} {o : Obj} (o' : Obj) {l : List HP} {h : Hp} (x : lst (blk b o :: l) h) : lst (blk b o' :: l) (fun k => if k = b then some (true, o') else h k) := by
  obtain ⟨a, c, hd, rfl, rfl, hc⟩ := x
  refine ⟨_, c, hd.one, ?_, rfl, hc⟩
  funext k
  by_cases hk : k = b
  · simp [joinH, hk]
  · simp [joinH, hk]
theorem lst_blk_ro {b : Nat} {o : Obj} {l : List HP} {h : Hp} (x : lst (blk b o :: l) h) : lst (ro b o :: l) (fun k => if k = b then some (false, o) else h k) := by
  obtain ⟨a, c, hd, rfl, rfl, hc⟩ := x
  refine ⟨_, c, hd.one, ?_, rfl, hc⟩
  funext k
  by_cases hk : k = b
  · simp [joinH, hk]
  · simp [joinH, hk]
theorem lst_blk_new {n : Nat} (o : Obj) {l : List HP} {h : Hp} (x : lst l h) (hn : h n = none) : lst (blk n o :: l) (fun k => if k = n then some (true, o) else h k) := by
  refine ⟨fun k => if k = n then some (true, o) else none, h, ?_, ?_, rfl, x⟩
  · intro k
    by_cases hk : k = n
    · right; left; rw [hk]; exact hn
    · left; simp [hk]
  · funext k
    by_cases hk : k = n
    · simp [joinH, hk]
    · simp [joinH, hk]
theorem lst_ne {b b' : Nat} {o o' : Obj} {l : List HP} {h : Hp} (x : lst (blk b o :: blk b' o' :: l) h) : b ≠ b' := by
  rintro rfl
  obtain ⟨a, c, hd, rfl, rfl, a', c', _, rfl, rfl, _⟩ := x
  rcases hd b with h | h | ⟨_, _, h⟩
  · simp at h
  · rw [joinH_left (o := (true, o')) (by simp)] at h; simp at h
  · simp at h
/-- What may be held any number of times is held twice. -/
theorem lst_dup {p : HP} [hp : Pers p] {l : List HP} {h : Hp} (x : lst (p :: l) h) : lst (p :: p :: l) h := by
  obtain ⟨a, c, hd, rfl, ha, hc⟩ := x
  refine ⟨a, joinH a c, fun k => ?_, ?_, ha, a, c, hd, rfl, ha, hc⟩
  · cases hk : a k with
    | none => exact .inl rfl
    | some y =>
      obtain ⟨t, o⟩ := y
      have ht : t = false := hp.out a ha k _ hk
      subst ht
      exact .inr (.inr ⟨(joinH_left hk).symm, o, rfl⟩)
  · funext k
    unfold joinH
    cases a k <;> rfl
theorem Rem.keep {l r : List HP} {x : HP} [Pers x] (h : Rem l x r) : ∀ {hp : Hp}, lst l hp → lst (x :: l) hp := fun y => lst_cons_mono (fun _ z => z) (fun _ z => h.back z) (lst_dup (h.out y))
instance pers_ro (b : Nat) (o : Obj) : Pers (ro b o) := ⟨by
  rintro h rfl k x hk
  by_cases e : k = b
  · simp [e] at hk; rw [← hk]
  · simp [e] at hk⟩
instance pers_fact (p : Prop) : Pers (fact p) := ⟨by
  rintro h ⟨_, rfl⟩ k x hk; cases hk⟩
theorem pers_lst : ∀ (l : List HP), (∀ p ∈ l, Pers p) → ∀ h, lst l h → ∃ h', lst l h' ∧ (∀ k x, h' k = some x → x.1 = false) ∧ ∃ r, Disj h' r ∧ h = joinH h' r
  | [], _, h, _ => ⟨fun _ => none, trivial, fun k x hk => by (cases hk), h, fun _ => .inl rfl, by funext k; rfl⟩
  | p :: l, hl, h, x => by
    obtain ⟨a, b, hd, rfl, ha, hb⟩ := x
    obtain ⟨b', hb1, hb2, r, hr, rfl⟩ := pers_lst l (fun q hq => hl q (List.mem_cons_of_mem _ hq)) b hb
    obtain ⟨d1, d2⟩ := Disj.join_right hr hd
    refine ⟨joinH a b', ⟨a, b', d1, rfl, ha, hb1⟩, fun k x hk => ?_, r, d2.joinl hr, (joinH_assoc a b' r).symm⟩
    cases h1 : a k with
    | none => rw [joinH_none h1] at hk; exact hb2 k x hk
    | some y => rw [joinH_left h1] at hk; rw [← Option.some.inj hk]; exact (hl p (List.mem_cons_self ..)).out a ha k y h1

/-! ### Worlds -/
/-- The part of the heap lies in the world. -/
def Fits (h : Hp) (w : World) : Prop := ∀ k x, h k = some x → w.heap[k]? = some x.2
/-- The world meets the list; the streams and the tape are those of 'base'. -/
structure St (base : World) (l : List HP) (w : World) : Prop where
  os : w.os = base.os
  tape : w.tape = base.tape
  output : w.output = base.output
  heap : ∃ h, Fits h w ∧ lst l h

theorem St.ent {base : World} {l l' : List HP} {w : World} (h : St base l w) (e : Ent l l') : St base l' w := ⟨h.os, h.tape, h.output, let ⟨x, f, y⟩ := h.heap; ⟨x, f, e _ y⟩⟩
theorem St.drawn {base : World} {l : List HP} {w : World} (h : St base l w) (n : Nat) : St base l { w with drawn := n } := ⟨h.os, h.tape, h.output, h.heap⟩
theorem St.block {base : World} {l r : List HP} {w : World} {b : Nat} {o : Obj} (h : St base l w) (hr : Rem l (blk b o) r) : w.heap[b]? = some o := let ⟨_, f, y⟩ := h.heap; f _ _ (lst_blk (hr.out y))
theorem St.shared {base : World} {l r : List HP} {w : World} {b : Nat} {o : Obj} (h : St base l w) (hr : Rem l (ro b o) r) : w.heap[b]? = some o := let ⟨_, f, y⟩ := h.heap; f _ _ (lst_ro (hr.out y))
/-- One's own block is given up to be shared. -/
theorem St.share {base : World} {l r : List HP} {w : World} {b : Nat} {o : Obj} (h : St base l w) (hr : Rem l (blk b o) r) : St base (ro b o :: r) w := by
  obtain ⟨x, f, y⟩ := h.heap
  have y1 := hr.out y
  refine ⟨h.os, h.tape, h.output, _, ?_, lst_blk_ro y1⟩
  intro k z hk
  by_cases e : k = b
  · subst e; simp only [if_true, Option.some.injEq] at hk; rw [← hk]; exact f k (true, o) (lst_blk y1)
  · simp only [if_neg e] at hk; exact f k z hk
theorem St.alloc {base : World} {l : List HP} {w : World} (h : St base l w) (o : Obj) : St base (blk w.heap.size o :: l) { w with heap := w.heap.push o } := by
  obtain ⟨x, f, y⟩ := h.heap
  refine ⟨h.os, h.tape, h.output, _, ?_, lst_blk_new (n := w.heap.size) o y ?_⟩
  · intro k z hk
    by_cases e : k = w.heap.size
    · subst e; simp only [if_true, Option.some.injEq] at hk; rw [← hk]; simp
    · simp only [if_neg e] at hk
      have := f k z hk
      have hlt : k < w.heap.size := (Array.getElem?_eq_some_iff.1 this).1
      rw [Array.getElem?_push, if_neg e]; exact this
  · cases hx : x w.heap.size with
    | none => rfl
    | some z => have := f _ z hx; simp at this
theorem St.setBlock' {base : World} {l : List HP} {w : World} {b : Nat} {o o' : Obj} {r : List HP} (h : St base l w) (hr1 : Rem l (blk b o) r) (w' : World)
    (h1 : w'.os = w.os) (h2 : w'.tape = w.tape) (h3 : w'.output = w.output) (h4 : ∀ k, w'.heap[k]? = if k = b then some o' else w.heap[k]?) : St base (blk b o' :: r) w' := by
  obtain ⟨x, f, y⟩ := h.heap
  refine ⟨h1.trans h.os, h2.trans h.tape, h3.trans h.output, _, ?_, lst_blk_set o' (hr1.out y)⟩
  intro k z hk
  rw [h4 k]
  by_cases e : k = b
  · subst e; simp only [if_true, Option.some.injEq] at hk ⊢; rw [← hk]
  · simp only [if_neg e] at hk ⊢; exact f k z hk
theorem St.setBlock {base : World} {l l' : List HP} {w : World} {b : Nat} {o o' : Obj} (h : St base l w) (hr : Rep (blk b o) (blk b o') l l') (w' : World)
    (h1 : w'.os = w.os) (h2 : w'.tape = w.tape) (h3 : w'.output = w.output) (h4 : ∀ k, w'.heap[k]? = if k = b then some o' else w.heap[k]?) : St base l' w' := by
  obtain ⟨r, hr1, hr2⟩ := hr.rem
  exact (h.setBlock' hr1 w' h1 h2 h3 h4).ent fun _ y => hr2.back y
theorem St.setCell {base : World} {l l' : List HP} {w : World} {b off : Nat} {c : Array Value} {T : TypeId} {fr : Nat × Nat} (v : Value) (h : St base l w)
    (hr : Rep (blk b (.cells c T fr)) (blk b (.cells (c.setIfInBounds off v) T fr)) l l') : St base l' (w.setCell ⟨b, off, none⟩ v) := by
  obtain ⟨r, hr1, hr2⟩ := hr.rem
  have hb := h.block hr1
  refine h.setBlock hr _ rfl rfl rfl (fun k => ?_)
  simp only [World.setCell, Array.getElem?_modify]
  by_cases hk : k = b
  · subst hk; simp [hb]
  · have hk' : ¬ b = k := fun e => hk e.symm
    simp [hk, hk']
theorem cell_of_block {w : World} {b off : Nat} {c : Array Value} {T : TypeId} {fr : Nat × Nat} (h : w.heap[b]? = some (.cells c T fr)) : w.cell? ⟨b, off, none⟩ = c[off]? := by simp [World.cell?, h]
theorem frozen_of_block {w : World} {b off : Nat} {c : Array Value} {T : TypeId} (h : w.heap[b]? = some (.cells c T (0, 0))) : w.frozen? ⟨b, off, none⟩ = false := by simp [World.frozen?, h]

end Go.Sl
