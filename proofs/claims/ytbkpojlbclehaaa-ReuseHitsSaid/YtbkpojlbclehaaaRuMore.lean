/- Other numbers for the keys; a list of some size; a loop of keys: plainly. No program, no condition. -/
import Derived.Test.YtbkpojlbclehaaaRuHits
import Derived.Test.YtbkpojlbclehaaaLrTheory
namespace Go.Ru
section
variable {tr l : List Nat} {f : Nat → Nat} {i : Nat}
/-- No two keys of a list get the same number. -/
def Inj (f : Nat → Nat) (l : List Nat) : Prop := ∀ a ∈ l, ∀ b ∈ l, f a = f b → a = b
theorem dd_map : ∀ {l : List Nat}, Inj f l → dd (l.map f) = (dd l).map f
  | [], _ => rfl
  | x :: l, h => by
    show f x :: (dd (l.map f)).filter _ = f x :: ((dd l).filter _).map f
    rw [dd_map fun a ha b hb => h a (by simp [ha]) b (by simp [hb]), List.filter_map]
    congr 2
    refine List.filter_congr fun y hy => ?_
    rw [mem_dd] at hy
    by_cases e : y = x
    · subst e; simp
    · have : f y ≠ f x := fun e2 => e (h y (by simp [hy]) x (by simp) e2)
      show (f y != f x) = (y != x)
      rw [show (f y != f x) = true by simpa using this, show (y != x) = true by simpa using e]
theorem idxOf_map : ∀ {l : List Nat} {x : Nat}, Inj f (x :: l) → (l.map f).idxOf (f x) = l.idxOf x
  | [], _, _ => rfl
  | y :: l, x, h => by
    have ih := idxOf_map (l := l) (x := x) fun a ha b hb => h a (by rcases List.mem_cons.1 ha with e | e <;> simp [e]) b (by rcases List.mem_cons.1 hb with e | e <;> simp [e])
    rw [List.map_cons, List.idxOf_cons, List.idxOf_cons, ih]
    by_cases e : y = x
    · subst e; simp
    · have : f y ≠ f x := fun e2 => e (h y (by simp) x (by simp) e2)
      rw [show (f y == f x) = false by simpa using this, show (y == x) = false by simpa using e]
theorem stk_map (h : Inj f tr) : stk (tr.map f) i = (stk tr i).map f := by
  unfold stk
  rw [← List.map_take, ← List.map_reverse]
  exact dd_map fun a ha b hb => h a (List.mem_of_mem_take (List.mem_reverse.1 ha)) b (List.mem_of_mem_take (List.mem_reverse.1 hb))
theorem getD_map (h : i < tr.length) : (tr.map f).getD i 0 = f (tr.getD i 0) := by
  rw [List.getD_eq_getElem?_getD, List.getElem?_map, List.getD_eq_getElem?_getD, List.getElem?_eq_getElem h]; rfl
theorem mem_getD (h : i < tr.length) : tr.getD i 0 ∈ tr := by
  rw [List.getD_eq_getElem?_getD, List.getElem?_eq_getElem h]; exact List.getElem_mem h
/-- Other numbers change no distance. -/
theorem D_map (h : Inj f tr) (hi : i < tr.length) : D (tr.map f) i = D tr i := by
  have hx := mem_getD hi
  have hs : ∀ y ∈ stk tr i, y ∈ tr := fun y hy => List.mem_of_mem_take (mem_stk.1 hy)
  have hm : f (tr.getD i 0) ∈ (stk tr i).map f ↔ tr.getD i 0 ∈ stk tr i := by
    rw [List.mem_map]
    exact ⟨fun ⟨y, hy, e⟩ => by rw [← h y (hs y hy) _ hx e]; exact hy, fun hy => ⟨_, hy, rfl⟩⟩
  unfold D
  rw [stk_map h, getD_map hi]
  by_cases hc : tr.getD i 0 ∈ stk tr i
  · rw [if_pos hc, if_pos (hm.2 hc), idxOf_map]
    intro a ha b hb
    exact h a ((List.mem_cons.1 ha).elim (fun e => e ▸ hx) (hs a)) b ((List.mem_cons.1 hb).elim (fun e => e ▸ hx) (hs b))
  · rw [if_neg hc, if_neg (fun x => hc (hm.1 x))]
theorem dL_map (h : Inj f tr) {n : Nat} (hn : n ≤ tr.length) : dL (tr.map f) n = dL tr n := by
  unfold dL
  refine List.map_congr_left fun j hj => ?_
  rw [List.mem_range] at hj
  exact D_map h (by omega)
end
section
variable {tr : List Nat} {i s : Nat}
/-- The list of a size, the oldest key first. -/
def LS (tr : List Nat) (s i : Nat) : List Nat := ((stk tr i).take s).reverse
theorem LS_zero : LS tr s 0 = [] := by unfold LS; rw [stk_zero]; simp
theorem LS_len : (LS tr s i).length ≤ s := by unfold LS; rw [List.length_reverse, List.length_take]; omega
theorem nodup_rev {l : List Nat} (h : l.Nodup) : l.reverse.Nodup := (List.reverse_perm l).symm.nodup h
theorem LS_nodup : (LS tr s i).Nodup := by
  unfold LS
  exact nodup_rev (stk_nodup.sublist (List.take_sublist _ _))
theorem LS_sub {x : Nat} (h : x ∈ LS tr s i) : x ∈ tr := List.mem_of_mem_take (mem_stk.1 (List.mem_of_mem_take (List.mem_reverse.1 h)))
theorem LS_hit : tr.getD i 0 ∈ LS tr s i ↔ 0 ≤ D tr i ∧ D tr i < (s : Int) := by
  unfold LS
  rw [List.mem_reverse, hit_iff]
theorem erase_reverse {l : List Nat} (h : l.Nodup) (x : Nat) : l.reverse.erase x = (l.filter fun y => y != x).reverse := by
  rw [(nodup_rev h).erase_eq_filter, List.filter_reverse]
theorem LS_use (hi : i < tr.length) (h : tr.getD i 0 ∈ LS tr s i) : (LS tr s i).erase (tr.getD i 0) ++ [tr.getD i 0] = LS tr s (i + 1) := by
  have hn := (stk_nodup (tr := tr) (i := i)).sublist (List.take_sublist s _)
  have hm : tr.getD i 0 ∈ (stk tr i).take s := List.mem_reverse.1 h
  unfold LS
  rw [stk_succ hi, ← lru_step stk_nodup s, erase_reverse hn]
  have hl : (tr.getD i 0 :: ((stk tr i).take s).filter fun y => y != tr.getD i 0).length ≤ s := by
    rw [List.length_cons, ← hn.erase_eq_filter, List.length_erase_of_mem hm]
    have := List.length_pos_of_mem hm
    have h2 : ((stk tr i).take s).length ≤ s := by rw [List.length_take]; omega
    omega
  rw [List.take_of_length_le hl, List.reverse_cons]
theorem LS_add (hi : i < tr.length) (h : tr.getD i 0 ∉ LS tr s i) : ((LS tr s i).length < s → LS tr s i ++ [tr.getD i 0] = LS tr s (i + 1)) ∧ (s ≤ (LS tr s i).length → (LS tr s i ++ [tr.getD i 0]).tail = LS tr s (i + 1)) := by
  have hm : tr.getD i 0 ∉ (stk tr i).take s := fun x => h (List.mem_reverse.2 x)
  have e : LS tr s (i + 1) = ((tr.getD i 0 :: (stk tr i).take s).take s).reverse := by
    unfold LS
    rw [stk_succ hi, ← lru_step stk_nodup s, filter_not_mem hm]
  have hl : (LS tr s i).length = ((stk tr i).take s).length := by unfold LS; rw [List.length_reverse]
  constructor
  · intro h1
    rw [e, List.take_of_length_le (by rw [List.length_cons]; omega), List.reverse_cons]; rfl
  · intro h1
    have h2 := LS_len (tr := tr) (s := s) (i := i)
    rw [e]
    have e2 : (tr.getD i 0 :: (stk tr i).take s).take s = (tr.getD i 0 :: (stk tr i).take s).dropLast := by
      rw [List.dropLast_eq_take]
      congr 1
      rw [List.length_cons]; omega
    rw [e2, ← List.tail_reverse, List.reverse_cons]; rfl
/-- More room than for all keys is no more. -/
theorem cnt_min {K : Nat} (hK : K = (stk tr tr.length).length) : cnt tr (min s K) tr.length = cnt tr s tr.length := by
  subst hK
  rcases Nat.lt_or_ge s (stk tr tr.length).length with h | h
  · rw [Nat.min_eq_left (by omega)]
  · rw [Nat.min_eq_right h]
    have h1 := cnt_all (tr := tr) (i := tr.length) (Nat.le_refl _) (Nat.le_refl _)
    have h2 := cnt_all (tr := tr) (i := tr.length) h (Nat.le_refl _)
    omega
end
section
variable {n k i : Nat}
/-- A loop of keys. -/
def loopL (n k : Nat) : List Nat := (List.range n).map (· % k)
theorem loopL_len : (loopL n k).length = n := by simp [loopL]
theorem loopL_at (h : i < n) : (loopL n k).getD i 0 = i % k := by
  unfold loopL
  rw [List.getD_eq_getElem?_getD, List.getElem?_map, List.getElem?_range h]; rfl
theorem loop_stk (hk : 0 < k) : ∀ {i : Nat}, i ≤ n → stk (loopL n k) i = (List.range (min i k)).map fun j => (i - 1 - j) % k
  | 0, _ => by rw [stk_zero, Nat.zero_min]; rfl
  | i + 1, h => by
    rw [stk_succ (by rw [loopL_len]; omega), loopL_at (by omega), loop_stk hk (by omega : i ≤ n)]
    have e : ∀ m, (List.range (m + 1)).map (fun j => (i + 1 - 1 - j) % k) = i % k :: (List.range m).map fun j => (i - 1 - j) % k := fun m => by
      rw [List.range_succ_eq_map, List.map_cons, List.map_map]
      congr 1
      refine List.map_congr_left fun j _ => ?_
      show (i + 1 - 1 - (j + 1)) % k = _
      congr 1; omega
    rcases Nat.lt_or_ge i k with h1 | h1
    · rw [Nat.min_eq_left (by omega), Nat.min_eq_left (by omega), e]
      congr 1
      refine List.filter_eq_self.2 fun y hy => ?_
      rw [List.mem_map] at hy
      obtain ⟨j, hj, rfl⟩ := hy
      rw [List.mem_range] at hj
      have h2 : (i - 1 - j) % k = i - 1 - j := Nat.mod_eq_of_lt (by omega)
      have h3 : i % k = i := Nat.mod_eq_of_lt (by omega)
      rw [h2, h3]
      simp; omega
    · obtain ⟨m, rfl⟩ : ∃ m, k = m + 1 := ⟨k - 1, by omega⟩
      rw [Nat.min_eq_right (by omega), Nat.min_eq_right (by omega), e]
      congr 1
      rw [List.range_succ, List.map_append, List.filter_append]
      have hl : ((i - 1 - m) % (m + 1)) = i % (m + 1) := by
        have : i = (i - 1 - m) + (m + 1) := by omega
        conv => rhs; rw [this, Nat.add_mod_right]
      have h2 : [m].map (fun j => (i - 1 - j) % (m + 1)) = [i % (m + 1)] := by simp only [List.map_cons, List.map_nil, hl]
      rw [h2, List.filter_cons_of_neg (by simp), List.filter_nil, List.append_nil]
      refine List.filter_eq_self.2 fun y hy => ?_
      rw [List.mem_map] at hy
      obtain ⟨j, hj, rfl⟩ := hy
      rw [List.mem_range] at hj
      have : (i - 1 - j) % (m + 1) ≠ i % (m + 1) := fun h4 => by
        have h5 := Nat.sub_mod_eq_zero_of_mod_eq h4.symm
        rw [show i - (i - 1 - j) = j + 1 by omega, Nat.mod_eq_of_lt (by omega)] at h5
        omega
      simpa using this
theorem loop_K (hk : 0 < k) (hn : k ≤ n) : (stk (loopL n k) (loopL n k).length).length = k := by
  rw [loopL_len, loop_stk hk (Nat.le_refl n), List.length_map, List.length_range]; omega
theorem loop_D (hk : 0 < k) (hi : i < n) : D (loopL n k) i = if i < k then -1 else ((k - 1 : Nat) : Int) := by
  have hs := loop_stk hk (Nat.le_of_lt hi)
  have hx := loopL_at (k := k) hi
  by_cases h : i < k
  · rw [if_pos h]
    refine D_no ?_
    rw [hs, hx, List.mem_map]
    rintro ⟨j, hj, e⟩
    rw [List.mem_range] at hj
    rw [Nat.mod_eq_of_lt (by omega), Nat.mod_eq_of_lt (by omega)] at e
    omega
  · rw [if_neg h]
    have hn := stk_nodup (tr := loopL n k) (i := i)
    have hl : (stk (loopL n k) i).length = k := by rw [hs, List.length_map, List.length_range]; omega
    have hg : (stk (loopL n k) i).getD (k - 1) 0 = (loopL n k).getD i 0 := by
      rw [hs, hx, List.getD_eq_getElem?_getD, List.getElem?_map, List.getElem?_range (by omega)]
      show (i - 1 - (k - 1)) % k = i % k
      have : i = (i - 1 - (k - 1)) + k := by omega
      conv => rhs; rw [this, Nat.add_mod_right]
    have hm : (loopL n k).getD i 0 ∈ stk (loopL n k) i := by
      rw [← hg, List.getD_eq_getElem?_getD, List.getElem?_eq_getElem (by omega)]; exact List.getElem_mem _
    rw [D_in hm, ← hg, List.getD_eq_getElem?_getD, List.getElem?_eq_getElem (by omega)]
    show ((List.idxOf (stk (loopL n k) i)[k - 1] (stk (loopL n k) i) : Nat) : Int) = _
    rw [hn.idxOf_getElem]
theorem loop_cnt (hk : 0 < k) {s m : Nat} (hs : s < k) (hm : m ≤ n) : cnt (loopL n k) s m = 0 := by
  induction m with
  | zero => rfl
  | succ m ih =>
    unfold cnt
    rw [ih (by omega), loop_D hk (by omega)]
    split <;> (rw [if_neg (by omega)])
theorem loop_all (hk : 0 < k) (hn : k ≤ n) : cnt (loopL n k) k n = n - k := by
  have h := cnt_all (tr := loopL n k) (s := k) (i := n) (by rw [loop_K hk hn]; exact Nat.le_refl _) (by rw [loopL_len]; exact Nat.le_refl _)
  have h2 := loop_K hk hn
  rw [loopL_len] at h2
  omega
end
end Go.Ru
