/- The words that mark which buckets are not empty; the lowest one from some number on. No program, no condition. -/
import Derived.Test.YtmiblmoppdgnjaaDoorWhTheory
namespace Go.Wh
open Go.Lk Go.Sl Go.Lf
/-- Bucket 'b' is marked. -/
def bitB (f : Nat → BitVec 64) (b : Nat) : Bool := (f (b / 64)).getLsbD (b % 64)
def updW (f : Nat → BitVec 64) (w : Nat) (v : BitVec 64) : Nat → BitVec 64 := fun k => if k = w then v else f k
/-- The marks are those of the buckets that are not empty. -/
def MK (f : Nat → BitVec 64) (m : List It) : Prop := ∀ b, b < 256 → bitB f b = decide (grp m b ≠ [])
theorem bit1 {i j : Nat} (hi : i < 64) : (1#64 <<< j).getLsbD i = decide (i = j) := by
  rw [BitVec.getLsbD_shiftLeft, BitVec.getLsbD_one]
  by_cases h : i = j
  · subst h; simp [hi]
  · rw [decide_eq_false h]
    by_cases h2 : i < j
    · simp [h2]
    · have : ¬ i - j = 0 := by omega
      simp [this]
theorem bit_upd {f : Nat → BitVec 64} {w b : Nat} {v : BitVec 64} : bitB (updW f w v) b = if b / 64 = w then v.getLsbD (b % 64) else bitB f b := by
  unfold bitB updW; split <;> rfl
variable {f : Nat → BitVec 64} {m m' : List It} {b : Nat}
theorem mk_set (h : MK f m) (_hb : b < 256) (ho : ∀ c, c ≠ b → (grp m' c = [] ↔ grp m c = [])) (hm : grp m' b ≠ []) : MK (updW f (b / 64) (f (b / 64) ||| (1#64 <<< (b % 64)))) m' := fun c hc => by
  rw [bit_upd]
  have h1 := h c hc
  by_cases e : c = b
  · subst e
    rw [if_pos rfl, BitVec.getLsbD_or, bit1 (Nat.mod_lt _ (by decide)), decide_eq_true rfl, Bool.or_true, decide_eq_true hm]
  · have h2 : decide (grp m' c ≠ []) = decide (grp m c ≠ []) := decide_eq_decide.2 (not_congr (ho c e))
    rw [h2]
    split
    · rename_i e2
      rw [BitVec.getLsbD_or, bit1 (Nat.mod_lt _ (by decide)), decide_eq_false (show ¬ c % 64 = b % 64 by omega), Bool.or_false, ← h1]
      unfold bitB; rw [e2]
    · exact h1
theorem mk_clear (h : MK f m) (_hb : b < 256) (ho : ∀ c, c ≠ b → (grp m' c = [] ↔ grp m c = [])) (hm : grp m' b = []) : MK (updW f (b / 64) (f (b / 64) &&& ~~~(1#64 <<< (b % 64)))) m' := fun c hc => by
  rw [bit_upd]
  have h1 := h c hc
  have hlt : c % 64 < 64 := Nat.mod_lt _ (by decide)
  by_cases e : c = b
  · subst e
    rw [if_pos rfl, BitVec.getLsbD_and, BitVec.getLsbD_not, bit1 hlt, decide_eq_true rfl, hm]
    simp
  · have h2 : decide (grp m' c ≠ []) = decide (grp m c ≠ []) := decide_eq_decide.2 (not_congr (ho c e))
    rw [h2]
    split
    · rename_i e2
      rw [BitVec.getLsbD_and, BitVec.getLsbD_not, bit1 hlt, decide_eq_false (show ¬ c % 64 = b % 64 by omega), ← h1]
      unfold bitB
      rw [e2]; simp [hlt]
    · exact h1
theorem mk_same (h : MK f m) (ho : ∀ c, grp m' c = [] ↔ grp m c = []) : MK f m' := fun c hc => by rw [h c hc]; exact decide_eq_decide.2 (not_congr (ho c).symm)
theorem mk_nil : MK (fun _ => 0#64) [] := fun c _ => by unfold bitB; simp [grp]
/-- Marks of the same buckets are the same. -/
theorem mk_uniq {g : Nat → BitVec 64} (h : MK f m) (k : MK g m) {w : Nat} (hw : w < 4) : f w = g w := by
  refine BitVec.eq_of_getLsbD_eq fun i hi => ?_
  have h1 := h (64 * w + i) (by omega)
  have h2 := k (64 * w + i) (by omega)
  unfold bitB at h1 h2
  rw [show (64 * w + i) / 64 = w by omega, show (64 * w + i) % 64 = i by omega] at h1 h2
  rw [h1, h2]
/-! ### The lowest one -/
def tz (a : BitVec 64) : Nat := ((List.range 64).find? fun i => a.getLsbD i).getD 64
theorem tz_spec {a : BitVec 64} (h : a ≠ 0#64) : tz a < 64 ∧ a.getLsbD (tz a) = true ∧ ∀ i, i < tz a → a.getLsbD i = false := by
  unfold tz
  cases hf : (List.range 64).find? fun i => a.getLsbD i with
  | none =>
    exfalso
    refine h (BitVec.eq_of_getLsbD_eq fun i hi => ?_)
    have := List.find?_eq_none.1 hf i (by simpa using hi)
    simpa using this
  | some j =>
    obtain ⟨h1, k, hk, e, h2⟩ := List.find?_eq_some_iff_getElem.1 hf
    rw [List.getElem_range] at e
    subst e
    refine ⟨by simpa using hk, h1, fun i hi => ?_⟩
    have := h2 i hi
    simpa using this
theorem low_bit {a : BitVec 64} (h : a ≠ 0#64) : a &&& -a = 1#64 <<< (tz a) := by
  obtain ⟨h1, h2, h3⟩ := tz_spec h
  refine BitVec.eq_of_getLsbD_eq fun i hi => ?_
  rw [BitVec.getLsbD_and, BitVec.getLsbD_neg, bit1 hi]
  by_cases e : i = tz a
  · rw [decide_eq_true e, e, h2]
    have : ¬ ∃ j, j < tz a ∧ a.getLsbD j = true := fun ⟨j, hj, hb⟩ => by rw [h3 j hj] at hb; cases hb
    simp [this]
  · rw [decide_eq_false e]
    rcases Nat.lt_or_ge i (tz a) with hl | hg
    · rw [h3 i hl]; simp
    · have : ∃ j, j < i ∧ a.getLsbD j = true := ⟨tz a, by omega, h2⟩
      simp [hi, this]
def deb : List Nat := [0, 1, 56, 2, 57, 49, 28, 3, 61, 58, 42, 50, 38, 29, 17, 4, 62, 47, 59, 36, 45, 43, 51, 22, 53, 39, 33, 30, 24, 18, 12, 5, 63, 55, 48, 27, 60, 41, 37, 16, 46, 35, 44, 21, 52, 32, 23, 11, 54, 26, 40, 15, 34, 20, 31, 10, 25, 14, 19, 9, 13, 8, 7, 6]
theorem deb_all : ∀ j : Fin 64, deb[(((1#64 <<< j.val) * 285870213051353865#64) >>> 58).toNat]? = some j.val := by decide +kernel
theorem deb_tz {a : BitVec 64} (h : a ≠ 0#64) : deb[(((a &&& -a) * 285870213051353865#64) >>> 58).toNat]? = some (tz a) := by
  rw [low_bit h]; exact deb_all ⟨tz a, (tz_spec h).1⟩
def nb (P : Nat → Bool) (fr : Nat) : Option Nat := (List.range' fr (256 - fr)).find? P
theorem nb_some {P : Nat → Bool} {fr b : Nat} (h1 : fr ≤ b) (h2 : b < 256) (hp : P b = true) (h3 : ∀ c, fr ≤ c → c < b → P c = false) : nb P fr = some b := by
  unfold nb
  rw [List.find?_eq_some_iff_getElem]
  refine ⟨hp, b - fr, by simp; omega, by simp; omega, fun j hj => ?_⟩
  simp only [List.getElem_range', Nat.one_mul, Bool.not_eq_true']
  exact h3 _ (by omega) (by omega)
theorem nb_none {P : Nat → Bool} {fr : Nat} (h3 : ∀ c, fr ≤ c → c < 256 → P c = false) : nb P fr = none := by
  unfold nb
  rw [List.find?_eq_none]
  intro c hc
  rw [List.mem_range'_1] at hc
  simp [h3 c (by omega) (by omega)]
/-- What is looked at of a word. -/
def maskW (fr w : Nat) : BitVec 64 := if w = fr / 64 then BitVec.allOnes 64 <<< (fr % 64) else BitVec.allOnes 64
theorem mask_bit {fr w j : Nat} (hw : fr / 64 ≤ w) (hj : j < 64) : (f w &&& maskW fr w).getLsbD j = (bitB f (64 * w + j) && decide (fr ≤ 64 * w + j)) := by
  have e : bitB f (64 * w + j) = (f w).getLsbD j := by
    unfold bitB
    rw [show (64 * w + j) / 64 = w by omega, show (64 * w + j) % 64 = j by omega]
  rw [e, BitVec.getLsbD_and]
  congr 1
  unfold maskW
  by_cases h : w = fr / 64
  · rw [if_pos h, BitVec.getLsbD_shiftLeft, BitVec.getLsbD_allOnes]
    by_cases h2 : fr ≤ 64 * w + j
    · rw [decide_eq_true h2]; simp; omega
    · rw [decide_eq_false h2]; simp; omega
  · rw [if_neg h, BitVec.getLsbD_allOnes, decide_eq_true hj, decide_eq_true (by omega)]
theorem next_hit {fr w : Nat} (hw : fr / 64 ≤ w) (hw4 : w < 4) (hx : f w &&& maskW fr w ≠ 0#64) (hno : ∀ b, fr ≤ b → b < 64 * w → bitB f b = false) : nb (bitB f) fr = some (64 * w + tz (f w &&& maskW fr w)) := by
  obtain ⟨h1, h2, h3⟩ := tz_spec hx
  rw [mask_bit hw h1, Bool.and_eq_true, decide_eq_true_iff] at h2
  refine nb_some h2.2 (by omega) h2.1 fun c hc hlt => ?_
  by_cases hcw : c < 64 * w
  · exact hno c hc hcw
  · have h4 := h3 (c - 64 * w) (by omega)
    rw [mask_bit hw (by omega), show 64 * w + (c - 64 * w) = c by omega, decide_eq_true hc, Bool.and_true] at h4
    exact h4
theorem next_miss {fr w : Nat} (hw : fr / 64 ≤ w) (hx : f w &&& maskW fr w = 0#64) (hno : ∀ b, fr ≤ b → b < 64 * w → bitB f b = false) : ∀ b, fr ≤ b → b < 64 * (w + 1) → bitB f b = false := fun c hc hlt => by
  by_cases hcw : c < 64 * w
  · exact hno c hc hcw
  · have h4 := mask_bit (f := f) hw (j := c - 64 * w) (by omega)
    rw [hx, show 64 * w + (c - 64 * w) = c by omega, decide_eq_true hc, Bool.and_true] at h4
    rw [← h4]; simp
theorem find_congr {P Q : Nat → Bool} : ∀ {l : List Nat}, (∀ x ∈ l, P x = Q x) → l.find? P = l.find? Q
  | [], _ => rfl
  | x :: l, h => by
    rw [List.find?_cons, List.find?_cons, h x (List.mem_cons_self ..), find_congr fun y hy => h y (List.mem_cons_of_mem _ hy)]
theorem nb_congr {P Q : Nat → Bool} {fr : Nat} (h : ∀ b, b < 256 → P b = Q b) : nb P fr = nb Q fr := by
  unfold nb
  refine find_congr fun c hc => ?_
  rw [List.mem_range'_1] at hc
  exact h c (by omega)
end Go.Wh
namespace Go.Wh
open Go.Lk Go.Sl Go.Lf
/-! ### What the calls make -/
variable {m : List It} {s n : Nat} {b : Int}
def badB (b : Int) : Prop := b < 0 ∨ 256 ≤ b
instance (b : Int) : Decidable (badB b) := by unfold badB; infer_instance
def whE (m : List It) (s : Nat) (b : Int) : Int := if 4194304 ≤ s ∨ badB b then 2 else if s ∈ ks m then 11 else 0
def whM (m : List It) (s : Nat) (b : Int) : List It := if (4194304 ≤ s ∨ badB b) ∨ s ∈ ks m then m else m ++ [(s, b.toNat)]
def slotE (m : List It) (s : Nat) : Int := if 4194304 ≤ s then 2 else if s ∈ ks m then 0 else 9
def lstM (m : List It) (b : Int) : List Nat := if badB b then [] else grp m b.toNat
def lstE (b : Int) : Int := if badB b then 2 else 0
/-- Without a bucket. -/
def wob (m : List It) (b : Nat) : List It := m.filter fun y => y.2 != b
def takM (m : List It) (b : Int) : List It := if badB b then m else wob m b.toNat
def nxO (m : List It) (b : Int) : Option Nat := if badB b then none else nb (fun c => decide (grp m c ≠ [])) b.toNat
def nxE (m : List It) (b : Int) : Int := if badB b then 2 else if (nxO m b).isSome then 0 else 9
theorem nodup_le : ∀ {N : Nat} {l : List Nat}, l.Nodup → (∀ x ∈ l, x < N) → l.length ≤ N
  | 0, l, _, h => by
    cases l with
    | nil => exact Nat.le_refl _
    | cons x l => exact absurd (h x (List.mem_cons_self ..)) (by omega)
  | N + 1, l, hd, h => by
    have h1 := nodup_le (N := N) (l := l.erase N) (hd.erase N) fun x hx => by
      rw [hd.mem_erase_iff] at hx
      have := h x hx.2
      omega
    have := List.length_erase (a := N) (l := l)
    split at this <;> omega
theorem MO.len {N : Nat} (o : MO N m) : m.length ≤ N := by
  have := nodup_le o.nd fun x hx => by
    obtain ⟨y, hy, rfl⟩ := List.mem_map.1 hx
    exact o.lt y hy
  simpa using this
theorem mo_nil {N : Nat} : MO N [] := ⟨List.nodup_nil, fun y h => (by cases h), fun y h => (by cases h)⟩
theorem MO.up {N M : Nat} (o : MO N m) (h : N ≤ M) : MO M m := ⟨o.nd, o.bk, fun y hy => by have := o.lt y hy; omega⟩
theorem wo_wo_filter {l : List Nat} : ∀ {m : List It}, l.foldl wo m = m.filter fun y => !l.contains y.1 := by
  induction l with
  | nil => intro m; exact (List.filter_eq_self.2 fun y _ => rfl).symm
  | cons x l ih =>
    intro m
    rw [List.foldl_cons, ih]
    unfold wo
    rw [List.filter_filter]
    refine List.filter_congr fun y _ => ?_
    by_cases h : y.1 = x <;> simp [h]
theorem take_all {N c : Nat} (o : MO N m) : (grp m c).foldl wo m = wob m c := by
  rw [wo_wo_filter]
  unfold wob
  refine List.filter_congr fun y hy => ?_
  have h1 : (grp m c).contains y.1 = (y.2 == c) := by
    rw [Bool.eq_iff_iff, List.contains_iff_mem, beq_iff_eq]
    constructor
    · intro h; exact uniq o.nd hy (mem_grp.1 h)
    · rintro rfl; exact mem_grp.2 hy
  rw [h1]; rfl
theorem grp_wob {c d : Nat} : grp (wob m c) d = if d = c then [] else grp m d := by
  unfold grp wob
  rw [List.filter_filter]
  split
  · rename_i h
    subst h
    rw [List.filter_eq_nil_iff.2 fun y _ => by simp]; rfl
  · rename_i h
    congr 1
    refine List.filter_congr fun y _ => ?_
    by_cases h2 : y.2 = d
    · simp [h2, h]
    · simp [h2]
end Go.Wh
