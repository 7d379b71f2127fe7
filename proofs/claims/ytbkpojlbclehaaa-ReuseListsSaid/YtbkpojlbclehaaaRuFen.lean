/- Sums over parts of indices, plainly; the marks of last requests. No program, no condition. -/
import Derived.Test.YtbkpojlbclehaaaRuTheory
import Derived.Test.YtbkpojlbclehaaaSlM
namespace Go.Ru
open Go.Sl
/-- The lowest bit of a number below 8192. -/
def lb (k : Nat) : Nat := Nat.gcd k 8192
/-- A question about numbers, halved. -/
def chk (f : Nat → Bool) : Nat → Nat → Bool
  | 0, lo => f lo
  | k + 1, lo => chk f k lo && chk f k (lo + 2 ^ k)
theorem chk_out {f : Nat → Bool} : ∀ {k lo : Nat}, chk f k lo = true → ∀ r, lo ≤ r → r < lo + 2 ^ k → f r = true
  | 0, lo, h, r, h1, h2 => by obtain rfl : r = lo := by omega
                              exact h
  | k + 1, lo, h, r, h1, h2 => by
    rw [show chk f (k + 1) lo = (chk f k lo && chk f k (lo + 2 ^ k)) from rfl, Bool.and_eq_true] at h
    rw [Nat.pow_succ] at h2
    rcases Nat.lt_or_ge r (lo + 2 ^ k) with h3 | h3
    · exact chk_out h.1 r h1 h3
    · exact chk_out h.2 r h3 (by omega)
def lbOk (i : Nat) : Bool := i == 0 || (2 ^ Nat.log2 (lb i) == lb i && (chk (fun r => r == 0 || lb (i + r) == lb r) (Nat.log2 (lb i)) 0 && Nat.ble (2 * lb i) (lb (i + lb i))))
theorem lb_ok : chk lbOk 13 0 = true := by decide +kernel
def lbBits (i : Nat) : Bool := i == 0 || (BitVec.ofInt 64 (i : Int) &&& BitVec.ofInt 64 (-(i : Int))).toNat == lb i
theorem lb_bok : chk lbBits 12 1 = true := by decide +kernel
theorem lb_all (i : Nat) (h : i < 4098) (h0 : 0 < i) : (∀ r, r < lb i → 0 < r → lb (i + r) = lb r) ∧ 2 * lb i ≤ lb (i + lb i) := by
  have h1 := chk_out lb_ok i (by omega) (by omega)
  unfold lbOk at h1
  simp only [Bool.or_eq_true, beq_iff_eq, Bool.and_eq_true] at h1
  obtain ⟨h2, h3, h4⟩ := h1.resolve_left (by omega)
  refine ⟨fun r h5 h6 => ?_, Nat.le_of_ble_eq_true h4⟩
  have h7 := chk_out h3 r (by omega) (by omega)
  simp only [Bool.or_eq_true, beq_iff_eq] at h7
  exact h7.resolve_left (by omega)
theorem lb_bits (i : Nat) (h : i < 4097) (h0 : 0 < i) : (BitVec.ofInt 64 (i : Int) &&& BitVec.ofInt 64 (-(i : Int))).toNat = lb i := by
  have h1 := chk_out lb_bok i (by omega) (by omega)
  unfold lbBits at h1
  simp only [Bool.or_eq_true, beq_iff_eq] at h1
  exact h1.resolve_left (by omega)
theorem lb_pos {k : Nat} (h : 0 < k) : 0 < lb k := Nat.gcd_pos_of_pos_left _ h
theorem lb_le {k : Nat} (h : 0 < k) : lb k ≤ k := Nat.gcd_le_left _ h
/-- Whether an index is a part's whose sum counts another one. -/
def cov (k a : Nat) : Prop := a < k ∧ k - lb k ≤ a
instance {k a : Nat} : Decidable (cov k a) := by unfold cov; infer_instance
theorem cov_first {a : Nat} : cov (a + 1) a := ⟨by omega, by have := lb_pos (k := a + 1) (by omega); omega⟩
theorem cov_next {k a : Nat} (h : cov k a) (hk : k < 4098) : cov (k + lb k) a := by
  obtain ⟨h1, h2⟩ := h
  have h3 := (lb_all k hk (by omega)).2
  have h4 := lb_le (k := k) (by omega)
  have h5 := lb_pos (k := k) (by omega)
  exact ⟨by omega, by omega⟩
theorem cov_none {k a j : Nat} (h : cov k a) (hk : k < 4098) (h1 : k < j) (h2 : j < k + lb k) : ¬ cov j a := fun hc => by
  have h3 := (lb_all k hk (by have := h.1; omega)).1 (j - k) (by omega) (by omega)
  rw [show k + (j - k) = j by omega] at h3
  have h4 := lb_le (k := j - k) (by omega)
  have := hc.2
  have := h.1
  omega
theorem cov_before {a j : Nat} (h : j < a + 1) : ¬ cov j a := fun hc => by have := hc.1; omega
/-- Sums of parts. -/
structure Fw (n : Nat) (m : List Int) (S : Nat → Int) : Prop where
  len : m.length = n + 1
  at_ : ∀ k, 1 ≤ k → k ≤ n → m.getD k 0 = S k - S (k - lb k)
  lo : ∀ k, 0 ≤ S k
  hi : ∀ k, S k ≤ 4096
theorem Fw.bound {n k : Nat} {m : List Int} {S : Nat → Int} (h : Fw n m S) (h1 : 1 ≤ k) (h2 : k ≤ n) : -4096 ≤ m.getD k 0 ∧ m.getD k 0 ≤ 4096 := by
  have := h.at_ k h1 h2
  have := h.lo k
  have := h.hi k
  have := h.lo (k - lb k)
  have := h.hi (k - lb k)
  omega
/-- A list in which the first ones have been changed. -/
def upd (n : Nat) (m : List Int) (a : Nat) (d : Int) (i : Nat) : List Int := (List.range (n + 1)).map fun k => if k < i ∧ cov k a then m.getD k 0 + d else m.getD k 0
theorem upd_len {n a i : Nat} {m : List Int} {d : Int} : (upd n m a d i).length = n + 1 := by simp [upd]
theorem upd_at {n a i k : Nat} {m : List Int} {d : Int} (h : k ≤ n) : (upd n m a d i).getD k 0 = if k < i ∧ cov k a then m.getD k 0 + d else m.getD k 0 := by
  unfold upd
  rw [List.getD_eq_getElem?_getD, List.getElem?_map, List.getElem?_range (by omega)]; rfl
theorem ext_getDI {A B : List Int} (hl : A.length = B.length) (h : ∀ j, j < A.length → A.getD j 0 = B.getD j 0) : A = B := by
  refine List.ext_getElem hl fun j h1 h2 => ?_
  have := h j h1
  rw [List.getD_eq_getElem?_getD, List.getD_eq_getElem?_getD, List.getElem?_eq_getElem h1, List.getElem?_eq_getElem h2] at this
  exact this
theorem getD_setI {A : List Int} {i j : Nat} {v : Int} (h : i < A.length) : (A.set i v).getD j 0 = if j = i then v else A.getD j 0 := by
  rw [List.getD_eq_getElem?_getD, List.getElem?_set]
  by_cases e : i = j
  · subst e; rw [if_pos rfl, if_pos h, if_pos rfl]; rfl
  · rw [if_neg e, if_neg (fun x => e x.symm), ← List.getD_eq_getElem?_getD]
theorem upd_start {n a : Nat} {m : List Int} {d : Int} (h : m.length = n + 1) : upd n m a d (a + 1) = m := ext_getDI (by rw [upd_len, h]) fun j hj => by
  rw [upd_len] at hj
  rw [upd_at (by omega), if_neg (fun x => cov_before x.1 x.2)]
theorem upd_step {n a i : Nat} {m : List Int} {d : Int} (hc : cov i a) (hi : i ≤ n) (hn : n ≤ 4096) : (upd n m a d i).set i ((upd n m a d i).getD i 0 + d) = upd n m a d (i + lb i) := ext_getDI (by rw [List.length_set, upd_len, upd_len]) fun j hj => by
  rw [List.length_set, upd_len] at hj
  rw [getD_setI (by rw [upd_len]; omega), upd_at (by omega), upd_at (by omega), upd_at (by omega)]
  have hp := lb_pos (k := i) (by have := hc.1; omega)
  by_cases e : j = i
  · subst e
    rw [if_pos rfl, if_neg (by omega), if_pos ⟨by omega, hc⟩]
  · rw [if_neg e]
    by_cases h1 : j < i
    · by_cases h2 : cov j a
      · rw [if_pos ⟨h1, h2⟩, if_pos ⟨by omega, h2⟩]
      · rw [if_neg (fun x => h2 x.2), if_neg (fun x => h2 x.2)]
    · rw [if_neg (fun x => h1 x.1), if_neg]
      rintro ⟨h2, h3⟩
      exact cov_none hc (by omega) (by omega) h2 h3
theorem upd_all {n a i : Nat} {m : List Int} {d : Int} {S : Nat → Int} (h : Fw n m S) (hi : n < i) (lo : ∀ k, 0 ≤ S k + (if a < k then d else 0)) (hib : ∀ k, S k + (if a < k then d else 0) ≤ 4096) : Fw n (upd n m a d i) (fun k => S k + if a < k then d else 0) := by
  refine ⟨upd_len, fun k h1 h2 => ?_, lo, hib⟩
  rw [upd_at h2, h.at_ k h1 h2]
  have hl := lb_le (k := k) (by omega)
  by_cases h3 : a < k
  · by_cases h4 : a < k - lb k
    · rw [if_neg (fun x => by have := x.2.2; omega), if_pos h3, if_pos h4]; omega
    · rw [if_pos ⟨by omega, h3, by omega⟩, if_pos h3, if_neg h4]; omega
  · rw [if_neg (fun x => h3 x.2.1), if_neg h3, if_neg (by omega)]; omega
theorem Fw.congr {n : Nat} {m : List Int} {S S' : Nat → Int} (h : Fw n m S) (e : ∀ k, S' k = S k) : Fw n m S' := by
  have : S' = S := funext e
  rw [this]; exact h
section
variable {tr : List Nat} {i x a : Nat} {kv : List (Nat × Int)}
/-- The requests so far, the last one first. -/
def rv (tr : List Nat) (i : Nat) : List Nat := (tr.take i).reverse
theorem rv_len (h : i ≤ tr.length) : (rv tr i).length = i := by unfold rv; rw [List.length_reverse, List.length_take]; omega
theorem rv_succ (h : i < tr.length) : rv tr (i + 1) = tr.getD i 0 :: rv tr i := by
  unfold rv
  rw [List.take_succ_eq_append_getElem h, List.reverse_append, List.getD_eq_getElem?_getD, List.getElem?_eq_getElem h]; rfl
theorem stk_rv : stk tr i = dd (rv tr i) := rfl
theorem mem_stk_rv : x ∈ stk tr i ↔ x ∈ rv tr i := mem_dd
/-- The keys of the requests behind an index, as a number. -/
def T (tr : List Nat) (i a : Nat) : Nat := (dd ((rv tr i).take (i - a))).length
/-- The keys whose last request is ahead of an index. -/
def S (tr : List Nat) (i a : Nat) : Int := ((stk tr i).length : Int) - (T tr i a : Int)
theorem dd_len_take {l : List Nat} {n : Nat} : (dd (l.take n)).length ≤ (dd l).length := by
  conv => rhs; rw [← List.take_append_drop n l, dd_append, List.length_append]
  omega
theorem S_lo : 0 ≤ S tr i a := by
  have : T tr i a ≤ (stk tr i).length := dd_len_take
  unfold S; omega
theorem S_hi (h : i ≤ 4096) : S tr i a ≤ 4096 := by
  have := stk_len_le (tr := tr) (i := i)
  unfold S; omega
theorem S_zero : S tr 0 a = 0 := by
  have h1 : stk tr 0 = [] := rfl
  have h2 : T tr 0 a = 0 := by unfold T rv; simp [dd]
  unfold S; rw [h1, h2]; rfl
theorem S_start (h : i ≤ tr.length) : S tr i 0 = 0 := by
  have : T tr i 0 = (stk tr i).length := by
    unfold T
    rw [Nat.sub_zero, List.take_of_length_le (by rw [rv_len h]; omega)]; rfl
  unfold S; omega
theorem S_end (h : i ≤ a) : S tr i a = (stk tr i).length := by
  have : T tr i a = 0 := by unfold T; rw [show i - a = 0 by omega]; rfl
  unfold S; omega
/-- What the map of last requests says. -/
def LA (tr : List Nat) (i : Nat) (kv : List (Nat × Int)) : Prop := (mkeys kv).Nodup ∧ ∀ x, mget kv x = if x ∈ rv tr i then some ((i - 1 - (rv tr i).idxOf x : Nat) : Int) else none
theorem LA.zero : LA tr 0 [] := ⟨List.nodup_nil, fun x => by simp [rv, mget]⟩
theorem LA.step (h : LA tr i kv) (hi : i < tr.length) : LA tr (i + 1) (mput kv (tr.getD i 0) (i : Int)) := ⟨mput_nodup h.1, fun y => by
  rw [mget_put, h.2, rv_succ hi]
  by_cases e : y = tr.getD i 0
  · rw [if_pos e, if_pos (by simp [e]), e, List.idxOf_cons_self]; rfl
  · rw [if_neg e, List.idxOf_cons]
    have e' : (tr.getD i 0 == y) = false := by simpa using fun h => e h.symm
    by_cases hm : y ∈ rv tr i
    · have hl := List.idxOf_lt_length_of_mem hm
      rw [rv_len (by omega)] at hl
      rw [if_pos hm, if_pos (List.mem_cons.2 (.inr hm)), e']
      simp only [cond_false, Option.some.injEq]
      omega
    · rw [if_neg hm, if_neg (fun h => (List.mem_cons.1 h).elim e hm)]⟩
theorem LA.none_of (h : LA tr i kv) (hm : mget kv x = none) : x ∉ stk tr i := fun hx => by
  rw [h.2, if_pos (mem_stk_rv.1 hx)] at hm; cases hm
theorem LA.some_of {at_ : Nat} (h : LA tr i kv) (hi : i ≤ tr.length) (hm : mget kv x = some (at_ : Int)) : x ∈ stk tr i ∧ at_ < i ∧ i - (at_ + 1) = (rv tr i).idxOf x := by
  rw [h.2] at hm
  by_cases hx : x ∈ rv tr i
  · rw [if_pos hx] at hm
    have hl := List.idxOf_lt_length_of_mem hx
    rw [rv_len hi] at hl
    have := Option.some.inj hm
    exact ⟨mem_stk_rv.2 hx, by omega, by omega⟩
  · rw [if_neg hx] at hm; cases hm
theorem LA.case (h : LA tr i kv) : mget kv x = none ∨ ∃ at_ : Nat, mget kv x = some (at_ : Int) := by
  rw [h.2]
  split
  · exact .inr ⟨_, rfl⟩
  · exact .inl rfl
theorem getD_idxOf {l : List Nat} (h : x ∈ l) : l.getD (l.idxOf x) 0 = x := by
  have := List.idxOf_lt_length_of_mem h
  rw [List.getD_eq_getElem?_getD, List.getElem?_eq_getElem this]
  exact List.getElem_idxOf this
/-- The distance, by the sums. -/
theorem LA.dist {at_ : Nat} (h : LA tr i kv) (hi : i < tr.length) (hm : mget kv (tr.getD i 0) = some (at_ : Int)) : S tr i i - S tr i (at_ + 1) = D tr i := by
  obtain ⟨h1, h2, h3⟩ := h.some_of (Nat.le_of_lt hi) hm
  have hx := mem_stk_rv.1 h1
  have hd := dd_idx (List.idxOf_lt_length_of_mem hx) (getD_idxOf hx) (fun h => by have := (mem_take_idx.1 h).2; omega)
  rw [D_in h1, S_end (Nat.le_refl i)]
  have : T tr i (at_ + 1) = (stk tr i).idxOf (tr.getD i 0) := by unfold T; rw [h3]; exact hd.2.symm
  unfold S; omega
theorem T_succ (hi : i < tr.length) (ha : a ≤ i) : T tr (i + 1) a = T tr i a + if tr.getD i 0 ∈ (rv tr i).take (i - a) then 0 else 1 := by
  unfold T
  rw [rv_succ hi, show i + 1 - a = (i - a) + 1 by omega, List.take_succ_cons]
  show (_ :: (dd ((rv tr i).take (i - a))).filter fun y => y != tr.getD i 0).length = _
  rw [List.length_cons]
  split
  · rename_i hm
    rw [← nodup_dd.erase_eq_filter, List.length_erase_of_mem (mem_dd.2 hm)]
    have := List.length_pos_of_mem (mem_dd.2 hm)
    omega
  · rename_i hm
    rw [filter_not_mem (fun h => hm (mem_dd.1 h))]
theorem S_none (hi : i < tr.length) (hm : tr.getD i 0 ∉ stk tr i) : S tr (i + 1) a = S tr i a + if i < a then 1 else 0 := by
  have hl := stk_len hi
  rw [if_neg hm] at hl
  have hr : tr.getD i 0 ∉ rv tr i := fun h => hm (mem_stk_rv.2 h)
  rcases Nat.lt_or_ge i a with h | h
  · rw [S_end (by omega), S_end (by omega), if_pos h]; omega
  · have := T_succ hi h
    rw [if_neg (fun h => hr (List.mem_of_mem_take h))] at this
    rw [if_neg (by omega)]
    unfold S; omega
theorem S_some {at_ : Nat} (h : LA tr i kv) (hi : i < tr.length) (hm : mget kv (tr.getD i 0) = some (at_ : Int)) : S tr (i + 1) a = (S tr i a + if at_ < a then -1 else 0) + if i < a then 1 else 0 := by
  obtain ⟨h1, h2, h3⟩ := h.some_of (Nat.le_of_lt hi) hm
  have hl := stk_len hi
  rw [if_pos h1] at hl
  have hr := mem_stk_rv.1 h1
  rcases Nat.lt_or_ge i a with h | h
  · rw [S_end (by omega), S_end (by omega), if_pos h, if_pos (by omega)]; omega
  · have ht := T_succ hi h
    rw [if_neg (show ¬ i < a by omega)]
    rcases Nat.lt_or_ge at_ a with h4 | h4
    · rw [if_neg (fun h => by have := (mem_take_idx.1 h).2; omega)] at ht
      rw [if_pos h4]
      unfold S; omega
    · rw [if_pos (mem_take_idx.2 ⟨hr, by omega⟩)] at ht
      rw [if_neg (by omega)]
      unfold S; omega
theorem S_mid {at_ : Nat} (h : LA tr i kv) (hi : i < tr.length) (hm : mget kv (tr.getD i 0) = some (at_ : Int)) : 0 ≤ S tr i a + if at_ < a then -1 else 0 := by
  have e := S_some (a := a) h hi hm
  rcases Nat.lt_or_ge i a with h1 | h1
  · rw [if_pos h1] at e
    obtain ⟨h2, h3, _⟩ := h.some_of (Nat.le_of_lt hi) hm
    have h4 := List.length_pos_of_mem h2
    rw [S_end (by omega)]
    split <;> omega
  · rw [if_neg (show ¬ i < a by omega), Int.add_zero] at e
    rw [← e]
    exact S_lo
end
end Go.Ru
