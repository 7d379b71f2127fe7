/- Keys by slots, plainly. No program, no condition. -/
import Derived.Test.YtbkpojlbclehaaaRuMore
import Derived.Test.YtbkpojlbclehaaaSlM
namespace Go.Ru
open Go.Sl
variable {tr : List Nat} {i x y : Nat} {kv : List (Nat × Nat)}
/-- The keys, in the order of their first requests. -/
def ks (tr : List Nat) (i : Nat) : List Nat := dd (tr.take i)
theorem ks_zero : ks tr 0 = [] := rfl
theorem ks_nodup : (ks tr i).Nodup := nodup_dd
theorem mem_ks : x ∈ ks tr i ↔ x ∈ stk tr i := by rw [mem_stk]; exact mem_dd
theorem ks_old (hi : i < tr.length) (h : tr.getD i 0 ∈ stk tr i) : ks tr (i + 1) = ks tr i := by
  unfold ks
  rw [dd_take hi, if_pos (mem_stk.1 h)]
theorem ks_new (hi : i < tr.length) (h : tr.getD i 0 ∉ stk tr i) : ks tr (i + 1) = ks tr i ++ [tr.getD i 0] := by
  unfold ks
  rw [dd_take hi, if_neg (fun h2 => h (mem_stk.2 h2))]
theorem ks_len : (ks tr i).length ≤ i := Nat.le_trans (by
  unfold ks
  generalize tr.take i = l
  induction l with
  | nil => exact Nat.le_refl _
  | cons x l ih =>
    show (x :: (dd l).filter _).length ≤ _
    have := List.length_filter_le (fun y => y != x) (dd l)
    simp only [List.length_cons]
    omega) (List.length_take_le i tr)
/-- The slot of a key. -/
def ix (tr : List Nat) (i x : Nat) : Nat := (ks tr i).idxOf x
/-- The slots, the oldest first. -/
def LI (tr : List Nat) (i : Nat) : List Nat := (stk tr i).reverse.map (ix tr i)
theorem LI_zero : LI tr 0 = [] := rfl
theorem LI_len : (LI tr i).length = (stk tr i).length := by simp [LI]
theorem ix_lt (h : x ∈ stk tr i) : ix tr i x < (ks tr i).length := List.idxOf_lt_length_of_mem (mem_ks.2 h)
theorem ix_key (h : x ∈ stk tr i) : (ks tr i).getD (ix tr i x) 0 = x := by
  have := ix_lt h
  rw [List.getD_eq_getElem?_getD, List.getElem?_eq_getElem this]
  exact List.getElem_idxOf this
theorem ix_inj (h : x ∈ stk tr i) (h2 : y ∈ stk tr i) (e : ix tr i x = ix tr i y) : x = y := by rw [← ix_key h, e, ix_key h2]
theorem erase_map {f : Nat → Nat} : ∀ {l : List Nat} {x : Nat}, Inj f (x :: l) → (l.map f).erase (f x) = (l.erase x).map f
  | [], _, _ => rfl
  | y :: l, x, h => by
    have ih := erase_map (l := l) (x := x) fun a ha b hb => h a (by rcases List.mem_cons.1 ha with e | e <;> simp [e]) b (by rcases List.mem_cons.1 hb with e | e <;> simp [e])
    rw [List.map_cons, List.erase_cons, List.erase_cons, ih]
    by_cases e : y = x
    · subst e; simp
    · have : f y ≠ f x := fun e2 => e (h y (by simp) x (by simp) e2)
      rw [show (f y == f x) = false by simpa using this, show (y == x) = false by simpa using e]
      simp
theorem LI_use (hi : i < tr.length) (h : tr.getD i 0 ∈ stk tr i) : ix tr i (tr.getD i 0) ∈ LI tr i ∧ (LI tr i).erase (ix tr i (tr.getD i 0)) ++ [ix tr i (tr.getD i 0)] = LI tr (i + 1) := by
  have hx : ∀ y, ix tr (i + 1) y = ix tr i y := fun y => by unfold ix; rw [ks_old hi h]
  refine ⟨List.mem_map_of_mem (List.mem_reverse.2 h), ?_⟩
  unfold LI
  rw [erase_map fun a ha b hb => ix_inj ((List.mem_cons.1 ha).elim (fun e => e ▸ h) List.mem_reverse.1) ((List.mem_cons.1 hb).elim (fun e => e ▸ h) List.mem_reverse.1), erase_reverse stk_nodup, stk_succ hi, List.reverse_cons, List.map_append]
  have e : (fun y => ix tr (i + 1) y) = ix tr i := funext hx
  show _ = List.map (fun y => ix tr (i + 1) y) _ ++ List.map (fun y => ix tr (i + 1) y) _
  rw [e]; rfl
theorem LI_add (hi : i < tr.length) (h : tr.getD i 0 ∉ stk tr i) : (ks tr i).length ∉ LI tr i ∧ LI tr i ++ [(ks tr i).length] = LI tr (i + 1) := by
  have hk : tr.getD i 0 ∉ ks tr i := fun x => h (mem_ks.1 x)
  constructor
  · intro hm
    obtain ⟨y, hy, e⟩ := List.mem_map.1 hm
    have := ix_lt (List.mem_reverse.1 hy)
    omega
  · unfold LI
    rw [stk_succ hi, filter_not_mem h, List.reverse_cons, List.map_append]
    congr 1
    · refine List.map_congr_left fun y hy => ?_
      have := mem_ks.2 (List.mem_reverse.1 hy)
      unfold ix
      rw [ks_new hi h, List.idxOf_append, if_pos this]
    · show [_] = [ix tr (i + 1) _]
      unfold ix
      rw [ks_new hi h, List.idxOf_append, if_neg hk]
      simp
theorem LI_keys : (LI tr i).map (fun s => (ks tr i).getD s 0) = (stk tr i).reverse := by
  unfold LI
  rw [List.map_map]
  conv => rhs; rw [← List.map_id (stk tr i).reverse]
  refine List.map_congr_left fun y hy => ?_
  exact ix_key (List.mem_reverse.1 hy)
theorem LI_lt {s : Nat} (h : s ∈ LI tr i) : s < (ks tr i).length := by
  obtain ⟨y, hy, rfl⟩ := List.mem_map.1 h
  exact ix_lt (List.mem_reverse.1 hy)
/-- What the map of slots says. -/
def KM (tr : List Nat) (i : Nat) (kv : List (Nat × Nat)) : Prop := (mkeys kv).Nodup ∧ ∀ x, mget kv x = if x ∈ stk tr i then some (ix tr i x) else none
theorem KM.zero : KM tr 0 [] := ⟨List.nodup_nil, fun x => by rw [stk_zero]; simp [mget]⟩
theorem KM.old (h : KM tr i kv) (hi : i < tr.length) (hm : tr.getD i 0 ∈ stk tr i) : KM tr (i + 1) kv := ⟨h.1, fun x => by
  rw [h.2]
  have e : x ∈ stk tr (i + 1) ↔ x ∈ stk tr i := by rw [← mem_ks, ks_old hi hm, mem_ks]
  by_cases hx : x ∈ stk tr i
  · rw [if_pos hx, if_pos (e.2 hx)]; unfold ix; rw [ks_old hi hm]
  · rw [if_neg hx, if_neg (fun h => hx (e.1 h))]⟩
theorem KM.new (h : KM tr i kv) (hi : i < tr.length) (hm : tr.getD i 0 ∉ stk tr i) : KM tr (i + 1) (mput kv (tr.getD i 0) (ks tr i).length) := ⟨mput_nodup h.1, fun x => by
  have hk : tr.getD i 0 ∉ ks tr i := fun x => hm (mem_ks.1 x)
  rw [mget_put, h.2]
  have e : x ∈ stk tr (i + 1) ↔ x = tr.getD i 0 ∨ x ∈ stk tr i := by
    rw [← mem_ks, ks_new hi hm, List.mem_append, mem_ks, List.mem_singleton, or_comm]
  by_cases hx : x = tr.getD i 0
  · subst hx
    rw [if_pos rfl, if_pos (e.2 (.inl rfl))]
    unfold ix
    rw [ks_new hi hm, List.idxOf_append, if_neg hk]; simp
  · rw [if_neg hx]
    by_cases h2 : x ∈ stk tr i
    · rw [if_pos h2, if_pos (e.2 (.inr h2))]
      unfold ix
      rw [ks_new hi hm, List.idxOf_append, if_pos (mem_ks.2 h2)]
    · rw [if_neg h2, if_neg (fun h => (e.1 h).elim hx h2)]⟩
theorem KM.yes (h : KM tr i kv) (hm : x ∈ stk tr i) : mget kv x = some (ix tr i x) := by rw [h.2, if_pos hm]
theorem KM.no (h : KM tr i kv) (hm : x ∉ stk tr i) : mget kv x = none := by rw [h.2, if_neg hm]
end Go.Ru
