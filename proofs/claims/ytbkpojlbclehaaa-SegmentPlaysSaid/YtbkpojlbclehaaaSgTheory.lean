/- Probation and protected slots, plainly. No program, no condition. -/
import Derived.Test.YtbkpojlbclehaaaLkA
import Derived.Test.YtbkpojlbclehaaaSlM
namespace Go.Sg
open Go.Sl
/-- A slot and its cost. -/
abbrev It := Nat × Nat
def sl (l : List It) : List Nat := l.map (·.1)
def sm : List It → Nat
  | [] => 0
  | x :: l => x.2 + sm l
/-- Without a slot. -/
def rm (l : List It) (k : Nat) : List It := l.filter fun x => x.1 != k
/-- Whether a slot must be demoted; how many. -/
def need (L : Int) (T : List It) : Prop := T ≠ [] ∧ (L = -1 ∨ L < (sm T : Nat))
instance {L : Int} {T : List It} : Decidable (need L T) := by unfold need; infer_instance
def demN (L : Int) : List It → Nat
  | [] => 0
  | x :: T => if need L (x :: T) then demN L T + 1 else 0
structure St where
  P : List It
  T : List It
  L : Int
variable {l P T : List It} {k c n i j : Nat} {L : Int} {x : It}
@[simp] theorem sl_nil : sl [] = [] := rfl
@[simp] theorem sl_cons : sl (x :: l) = x.1 :: sl l := rfl
theorem sl_one : sl [x] = [x.1] := rfl
theorem sm_nil : sm [] = 0 := rfl
theorem sm_one : sm [x] = x.2 := by show x.2 + 0 = x.2; omega
theorem sl_append {m : List It} : sl (l ++ m) = sl l ++ sl m := List.map_append
theorem sl_len : (sl l).length = l.length := by simp [sl]
theorem sl_take : sl (l.take n) = (sl l).take n := by simp [sl, List.map_take]
theorem sl_drop : sl (l.drop n) = (sl l).drop n := by simp [sl, List.map_drop]
theorem sm_append : ∀ {l m : List It}, sm (l ++ m) = sm l + sm m
  | [], m => by simp [sm]
  | x :: l, m => by show x.2 + sm (l ++ m) = x.2 + sm l + sm m; rw [sm_append]; omega
theorem sm_le : ∀ {l : List It}, (∀ x ∈ l, x.2 ≤ 1099511627776) → sm l ≤ 1099511627776 * l.length
  | [], _ => by simp [sm]
  | x :: l, h => by
    have h1 := h x (by simp)
    have h2 := sm_le (l := l) fun y hy => h y (by simp [hy])
    show x.2 + sm l ≤ _
    rw [List.length_cons]; omega
theorem mem_sl : k ∈ sl l ↔ ∃ c, (k, c) ∈ l := by
  unfold sl
  rw [List.mem_map]
  exact ⟨fun ⟨⟨a, b⟩, h, e⟩ => ⟨b, by subst e; exact h⟩, fun ⟨c, h⟩ => ⟨(k, c), h, rfl⟩⟩
theorem rm_sl (h : (sl l).Nodup) : sl (rm l k) = (sl l).erase k := by
  rw [h.erase_eq_filter]
  unfold sl rm
  rw [List.filter_map]; rfl
theorem rm_none (h : k ∉ sl l) : rm l k = l := List.filter_eq_self.2 fun x hx => by
  have : x.1 ≠ k := fun e => h (by rw [← e]; exact List.mem_map_of_mem hx)
  simpa using this
theorem rm_sm : ∀ {l : List It}, (sl l).Nodup → (k, c) ∈ l → sm (rm l k) + c = sm l
  | [], _, h => by cases h
  | x :: l, hn, h => by
    rw [sl_cons, List.nodup_cons] at hn
    rcases List.mem_cons.1 h with e | h
    · subst e
      have : rm ((k, c) :: l) k = l := by
        unfold rm
        rw [List.filter_cons_of_neg (by simp)]
        exact rm_none hn.1
      rw [this]; show _ = c + sm l; omega
    · have hne : x.1 ≠ k := fun e => hn.1 (by rw [e]; exact mem_sl.2 ⟨c, h⟩)
      have : rm (x :: l) k = x :: rm l k := by
        unfold rm
        rw [List.filter_cons_of_pos (by simpa using hne)]
      rw [this]
      show x.2 + sm (rm l k) + c = x.2 + sm l
      have := rm_sm hn.2 h
      omega
theorem mem_rm : x ∈ rm l k ↔ x ∈ l ∧ x.1 ≠ k := by simp [rm]
theorem demN_le : ∀ {T : List It}, demN L T ≤ T.length
  | [] => Nat.le_refl _
  | x :: T => by
    show (if need L (x :: T) then demN L T + 1 else 0) ≤ _
    have := demN_le (T := T)
    split
    · rw [List.length_cons]; omega
    · omega
/-- One more is demoted just as long as it is needed. -/
theorem demN_need : ∀ {T : List It} {i : Nat}, i ≤ demN L T → (need L (T.drop i) ↔ i < demN L T)
  | [], i, h => by
    have h0 : demN L [] = 0 := rfl
    rw [h0] at h ⊢
    obtain rfl : i = 0 := by omega
    exact ⟨fun h => absurd rfl h.1, fun h => by omega⟩
  | x :: T, 0, h => by
    show need L (x :: T) ↔ 0 < (if need L (x :: T) then demN L T + 1 else 0)
    split
    · rename_i h; simp [h]
    · rename_i h; simp [h]
  | x :: T, i + 1, h => by
    have e : demN L (x :: T) = if need L (x :: T) then demN L T + 1 else 0 := rfl
    rw [e] at h ⊢
    by_cases hc : need L (x :: T)
    · rw [if_pos hc] at h ⊢
      show need L (T.drop i) ↔ _
      rw [demN_need (T := T) (i := i) (by omega)]; omega
    · rw [if_neg hc] at h; omega
theorem demN_zero (h : ¬ need L T) : demN L T = 0 := by
  cases T with
  | nil => rfl
  | cons x T => exact if_neg h
theorem demN_stop : ¬ need L (T.drop (demN L T)) := fun h => by
  have := (demN_need (T := T) (Nat.le_refl _)).1 h
  omega
/-- What holds of both segments. -/
structure Inv (s : St) : Prop where
  nd : (sl s.P ++ sl s.T).Nodup
  lt : ∀ x, x ∈ s.P ∨ x ∈ s.T → x.1 < 4194304 ∧ x.2 ≤ 1099511627776
  lim : -1 ≤ s.L ∧ s.L ≤ 1099511627776
/-- Nothing must be demoted. -/
def Still (s : St) : Prop := ¬ need s.L s.T
namespace Inv
theorem parts (h : Inv ⟨P, T, L⟩) : (sl P).Nodup ∧ (sl T).Nodup ∧ ∀ y ∈ sl P, y ∉ sl T := by
  have := h.nd
  dsimp only at this
  rw [List.nodup_append] at this
  exact ⟨this.1, this.2.1, fun y h1 h2 => this.2.2 y h1 y h2 rfl⟩
theorem pslot (h : Inv ⟨P, T, L⟩) : ∀ y ∈ sl P, y < 4194304 := fun y hy => by
  obtain ⟨c, hc⟩ := mem_sl.1 hy
  exact (h.lt _ (.inl hc)).1
theorem tslot (h : Inv ⟨P, T, L⟩) : ∀ y ∈ sl T, y < 4194304 := fun y hy => by
  obtain ⟨c, hc⟩ := mem_sl.1 hy
  exact (h.lt _ (.inr hc)).1
theorem mk' (h1 : (sl P).Nodup) (h2 : (sl T).Nodup) (h3 : ∀ y ∈ sl P, y ∉ sl T) (h4 : ∀ x, x ∈ P ∨ x ∈ T → x.1 < 4194304 ∧ x.2 ≤ 1099511627776) (h5 : -1 ≤ L ∧ L ≤ 1099511627776) : Inv ⟨P, T, L⟩ := ⟨List.nodup_append.2 ⟨h1, h2, fun y hy _z hz e => h3 y hy (e ▸ hz)⟩, h4, h5⟩
theorem rm (h : Inv ⟨P, T, L⟩) : Inv ⟨Sg.rm P k, Sg.rm T k, L⟩ := by
  obtain ⟨h1, h2, h3⟩ := h.parts
  refine mk' (by rw [rm_sl h1]; exact h1.erase k) (by rw [rm_sl h2]; exact h2.erase k) (fun y hy hz => ?_) (fun x hx => h.lt x (hx.imp (fun y => (mem_rm.1 y).1) (fun y => (mem_rm.1 y).1))) h.lim
  rw [rm_sl h1] at hy
  rw [rm_sl h2] at hz
  exact h3 y (List.mem_of_mem_erase hy) (List.mem_of_mem_erase hz)
theorem putP (h : Inv ⟨P, T, L⟩) (h1 : k ∉ sl P) (h2 : k ∉ sl T) (hk : k < 4194304) (hc : c ≤ 1099511627776) : Inv ⟨P ++ [(k, c)], T, L⟩ := by
  obtain ⟨n1, n2, n3⟩ := h.parts
  refine mk' ?_ n2 (fun y hy => ?_) (fun x hx => ?_) h.lim
  · rw [sl_append, List.nodup_append]
    exact ⟨n1, by simp [sl], fun y hy z hz e => by simp [sl] at hz; subst hz; subst e; exact h1 hy⟩
  · rw [sl_append, List.mem_append] at hy
    rcases hy with hy | hy
    · exact n3 y hy
    · simp [sl] at hy; subst hy; exact h2
  · rcases hx with hx | hx
    · rcases List.mem_append.1 hx with hx | hx
      · exact h.lt x (.inl hx)
      · simp at hx; subst hx; exact ⟨hk, hc⟩
    · exact h.lt x (.inr hx)
theorem swap (h : Inv ⟨P, T, L⟩) : Inv ⟨T, P, L⟩ := by
  obtain ⟨n1, n2, n3⟩ := h.parts
  exact mk' n2 n1 (fun y hy hz => n3 y hz hy) (fun x hx => h.lt x hx.symm) h.lim
theorem putT (h : Inv ⟨P, T, L⟩) (h1 : k ∉ sl P) (h2 : k ∉ sl T) (hk : k < 4194304) (hc : c ≤ 1099511627776) : Inv ⟨P, T ++ [(k, c)], L⟩ := (h.swap.putP h2 h1 hk hc).swap
theorem setL (h : Inv ⟨P, T, L⟩) {L' : Int} (h1 : -1 ≤ L') (h2 : L' ≤ 1099511627776) : Inv ⟨P, T, L'⟩ := ⟨h.nd, h.lt, h1, h2⟩
theorem dem (h : Inv ⟨P, T, L⟩) : Inv ⟨P ++ T.take n, T.drop n, L⟩ := by
  refine ⟨?_, fun x hx => ?_, h.lim⟩
  · have := h.nd
    dsimp only at this ⊢
    rw [sl_append, sl_take, sl_drop, List.append_assoc, List.take_append_drop]
    exact this
  · rcases hx with hx | hx
    · rcases List.mem_append.1 hx with hx | hx
      · exact h.lt x (.inl hx)
      · exact h.lt x (.inr (List.mem_of_mem_take hx))
    · exact h.lt x (.inr (List.mem_of_mem_drop hx))
end Inv
/-- What the map of costs says. -/
def CM (P T : List It) (kv : List (Nat × Int)) : Prop := (mkeys kv).Nodup ∧ ∀ k z, mget kv k = some z ↔ ∃ c : Nat, z = (c : Int) ∧ ((k, c) ∈ P ∨ (k, c) ∈ T)
namespace CM
variable {kv : List (Nat × Int)} {z : Int}
theorem nil : CM [] [] [] := ⟨List.nodup_nil, fun k c => by simp [mget]⟩
theorem yes (h : CM P T kv) (hm : (k, c) ∈ P ∨ (k, c) ∈ T) : mget kv k = some (c : Int) := (h.2 k _).2 ⟨c, rfl, hm⟩
theorem none_iff (h : CM P T kv) : mget kv k = none ↔ k ∉ sl P ∧ k ∉ sl T := by
  constructor
  · intro hm
    refine ⟨fun hk => ?_, fun hk => ?_⟩
    · obtain ⟨c, hc⟩ := mem_sl.1 hk
      rw [h.yes (.inl hc)] at hm; cases hm
    · obtain ⟨c, hc⟩ := mem_sl.1 hk
      rw [h.yes (.inr hc)] at hm; cases hm
  · intro ⟨h1, h2⟩
    cases hm : mget kv k with
    | none => rfl
    | some z =>
      obtain ⟨c, _, hc⟩ := (h.2 k z).1 hm
      exact hc.elim (fun x => absurd (mem_sl.2 ⟨c, x⟩) h1) (fun x => absurd (mem_sl.2 ⟨c, x⟩) h2)
theorem case (h : CM P T kv) (k : Nat) : (mget kv k = none ∧ k ∉ sl P ∧ k ∉ sl T) ∨ ∃ c : Nat, mget kv k = some (c : Int) ∧ ((k, c) ∈ P ∨ (k, c) ∈ T) := by
  cases hm : mget kv k with
  | none => exact .inl ⟨rfl, h.none_iff.1 hm⟩
  | some z =>
    obtain ⟨c, rfl, hc⟩ := (h.2 k z).1 hm
    exact .inr ⟨c, rfl, hc⟩
theorem del (h : CM P T kv) : CM (rm P k) (rm T k) (mdel kv k) := ⟨mdel_nodup h.1, fun j z => by
  rw [mget_del h.1]
  by_cases e : j = k
  · subst e
    simp [mem_rm]
  · rw [if_neg e, h.2]
    simp only [mem_rm, e, ne_eq, not_false_eq_true, and_true]⟩
theorem putP (h : CM P T kv) (h1 : k ∉ sl P) (h2 : k ∉ sl T) : CM (P ++ [(k, c)]) T (mput kv k (c : Int)) := ⟨mput_nodup h.1, fun j z => by
  rw [mget_put]
  by_cases e : j = k
  · subst e
    rw [if_pos rfl]
    have q1 : ∀ d, (j, d) ∉ P := fun d x => h1 (mem_sl.2 ⟨d, x⟩)
    have q2 : ∀ d, (j, d) ∉ T := fun d x => h2 (mem_sl.2 ⟨d, x⟩)
    constructor
    · intro hz
      exact ⟨c, (Option.some.inj hz).symm, .inl (by simp)⟩
    · rintro ⟨d, rfl, hd | hd⟩
      · rcases List.mem_append.1 hd with hd | hd
        · exact absurd hd (q1 d)
        · simp at hd; rw [hd]
      · exact absurd hd (q2 d)
  · rw [if_neg e, h.2]; simp [e]⟩
theorem swap (h : CM P T kv) : CM T P kv := ⟨h.1, fun k c => by rw [h.2]; simp only [or_comm]⟩
theorem putT (h : CM P T kv) (h1 : k ∉ sl P) (h2 : k ∉ sl T) : CM P (T ++ [(k, c)]) (mput kv k (c : Int)) := (h.swap.putP h2 h1).swap
theorem dem (h : CM P T kv) : CM (P ++ T.take n) (T.drop n) kv := ⟨h.1, fun k z => by
  have e : ∀ c, (k, c) ∈ T ↔ (k, c) ∈ T.take n ∨ (k, c) ∈ T.drop n := fun c => by rw [← List.mem_append, List.take_append_drop]
  rw [h.2]
  simp only [List.mem_append, e, or_assoc]⟩
end CM
end Go.Sg
namespace Go.Sg
/-- Different numbers below a bound are not more than it. -/
theorem nodup_bound : ∀ {N : Nat} {l : List Nat}, l.Nodup → (∀ x ∈ l, x < N) → l.length ≤ N
  | 0, [], _, _ => Nat.le_refl _
  | 0, x :: l, _, h => by have := h x (by simp); omega
  | N + 1, l, hn, h => by
    by_cases hm : N ∈ l
    · have := nodup_bound (N := N) (hn.erase N) fun x hx => by
        obtain ⟨h1, h2⟩ := hn.mem_erase_iff.1 hx
        have := h x h2
        omega
      rw [List.length_erase_of_mem hm] at this
      omega
    · have := nodup_bound (N := N) hn fun x hx => by
        have h1 := h x hx
        have h2 : x ≠ N := fun e => hm (e ▸ hx)
        omega
      omega
end Go.Sg
namespace Go.Sg
/-! ### The calls -/
def fair (k : Nat) (z : Int) : Prop := k < 4194304 ∧ 0 ≤ z ∧ z ≤ 1099511627776
instance {k : Nat} {z : Int} : Decidable (fair k z) := by unfold fair; infer_instance
/-- Whether a slot is there. -/
def isIn (s : St) (k : Nat) : Prop := k ∈ sl s.P ∨ k ∈ sl s.T
instance {s : St} {k : Nat} : Decidable (isIn s k) := by unfold isIn; infer_instance
def addE (s : St) (k : Nat) (z : Int) : Int := if ¬ fair k z then 2 else if isIn s k then 11 else 0
def addS (s : St) (k : Nat) (z : Int) : St := if fair k z ∧ ¬ isIn s k then ⟨s.P ++ [(k, z.toNat)], s.T, s.L⟩ else s
def remE (s : St) (k : Nat) : Int := if 4194304 ≤ k then 2 else if isIn s k then 0 else 9
def remS (s : St) (k : Nat) : St := ⟨rm s.P k, rm s.T k, s.L⟩
def useE (s : St) (k : Nat) (z : Int) : Int := if ¬ fair k z then 2 else if isIn s k then 0 else 9
/-- Behind a use, before slots are demoted. -/
def midS (s : St) (k : Nat) (z : Int) : St := if s.L = -1 then ⟨rm s.P k ++ [(k, z.toNat)], rm s.T k, s.L⟩ else ⟨rm s.P k, rm s.T k ++ [(k, z.toNat)], s.L⟩
def demS (s : St) : St := ⟨s.P ++ s.T.take (demN s.L s.T), s.T.drop (demN s.L s.T), s.L⟩
def demG (s : St) : List Nat := sl (s.T.take (demN s.L s.T))
def useS (s : St) (k : Nat) (z : Int) : St := if fair k z ∧ isIn s k then demS (midS s k z) else s
def useG (s : St) (k : Nat) (z : Int) : List Nat := if fair k z ∧ isIn s k then demG (midS s k z) else []
def limE (z : Int) : Int := if z < -1 ∨ 1099511627776 < z then 2 else 0
def limS (s : St) (z : Int) : St := if z < -1 ∨ 1099511627776 < z then s else demS ⟨s.P, s.T, z⟩
def limG (s : St) (z : Int) : List Nat := if z < -1 ∨ 1099511627776 < z then [] else demG ⟨s.P, s.T, z⟩
section
variable {s : St} {k c : Nat} {z L : Int} {P T : List It}
theorem demG_len : (demG s).length = demN s.L s.T := by
  unfold demG
  rw [sl_len, List.length_take]
  have := demN_le (L := s.L) (T := s.T)
  omega
theorem demS_inv (h : Inv s) : Inv (demS s) ∧ Still (demS s) := ⟨Inv.dem (P := s.P) (T := s.T) (L := s.L) h, demN_stop⟩
theorem rm_still (h : Still ⟨P, T, L⟩) (hn : (sl T).Nodup) : Still ⟨rm P k, rm T k, L⟩ := fun hc => by
  obtain ⟨h1, h2⟩ := hc
  dsimp only at h1 h2
  have hT : T ≠ [] := fun e => h1 (by rw [e]; rfl)
  rcases h2 with h2 | h2
  · exact h ⟨hT, .inl h2⟩
  · refine h ⟨hT, .inr ?_⟩
    have : sm (rm T k) ≤ sm T := by
      by_cases hk : k ∈ sl T
      · obtain ⟨c, hc⟩ := mem_sl.1 hk
        have := rm_sm hn hc
        omega
      · rw [rm_none hk]; exact Nat.le_refl _
    dsimp only
    omega
theorem not_rm (h : Inv ⟨P, T, L⟩) : k ∉ sl (rm P k) ∧ k ∉ sl (rm T k) := by
  obtain ⟨n1, n2, _⟩ := h.parts
  rw [rm_sl n1, rm_sl n2]
  exact ⟨fun x => (n1.mem_erase_iff.1 x).1 rfl, fun x => (n2.mem_erase_iff.1 x).1 rfl⟩
theorem addS_ok (h : Inv s) (hs : Still s) : Inv (addS s k z) ∧ Still (addS s k z) := by
  obtain ⟨P, T, L⟩ := s
  unfold addS
  split
  · rename_i hc
    obtain ⟨⟨h1, h2, h3⟩, h4⟩ := hc
    exact ⟨h.putP (fun x => h4 (.inl x)) (fun x => h4 (.inr x)) h1 (by omega), hs⟩
  · exact ⟨h, hs⟩
theorem remS_ok (h : Inv s) (hs : Still s) : Inv (remS s k) ∧ Still (remS s k) := by
  obtain ⟨P, T, L⟩ := s
  exact ⟨h.rm, rm_still hs h.parts.2.1⟩
theorem midS_ok (h : Inv s) (hf : fair k z) : Inv (midS s k z) := by
  obtain ⟨P, T, L⟩ := s
  obtain ⟨h1, h2, h3⟩ := hf
  obtain ⟨q1, q2⟩ := not_rm (k := k) h
  unfold midS
  split
  · exact (h.rm (k := k)).putP q1 q2 h1 (by omega)
  · exact (h.rm (k := k)).putT q1 q2 h1 (by omega)
theorem useS_ok (h : Inv s) (hs : Still s) : Inv (useS s k z) ∧ Still (useS s k z) := by
  unfold useS
  split
  · rename_i hc
    exact demS_inv (midS_ok h hc.1)
  · exact ⟨h, hs⟩
theorem limS_ok (h : Inv s) (hs : Still s) : Inv (limS s z) ∧ Still (limS s z) := by
  unfold limS
  split
  · exact ⟨h, hs⟩
  · rename_i hc
    obtain ⟨P, T, L⟩ := s
    exact demS_inv (h.setL (by omega) (by omega))
end
end Go.Sg
