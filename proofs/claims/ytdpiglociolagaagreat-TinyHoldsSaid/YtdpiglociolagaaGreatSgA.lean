/- SgA: SgTheory, SgW1, SgW2, SgW3, SgW4, SgW5, SgW6, SgW7. -/
import Derived.Test.YtdpiglociolagaaGreatLkA
import Derived.Test.YtdpiglociolagaaGreatSlM
import Derived.Test.YtdpiglociolagaaGreatLrA
import Derived.Test.YtdpiglociolagaaGreatSlW
import Derived.Test.YtdpiglociolagaaGreatSlMapN
import Derived.Test.YtdpiglociolagaaGreatSlEnd2
import Derived.Test.YtdpiglociolagaaGreatSlCv
import Derived.Test.YtdpiglociolagaaGreatSlD
import Derived.Test.YtdpiglociolagaaGreatSlRev
/- Probation and protected slots, plainly. No program, no condition. -/
namespace Go.Sg
open Go.Sl
abbrev It := Nat × Nat
def sl (l : List It) : List Nat := l.map (·.1)
def sm : List It → Nat
  | [] => 0
  | x :: l => x.2 + sm l
def rm (l : List It) (k : Nat) : List It := l.filter fun x => x.1 != k
def need (L : Int) (T : List It) : Prop := T ≠ [] ∧ (L = -1 ∨ L < (sm T : Nat))
instance {L : Int} {T : List It} : Decidable (need L T) := by unfold need; infer_instance
def demN (L : Int) : List It → Nat
  | [] => 0
  | x :: T => if need L (x :: T) then demN L T + 1 else 0
structure St where
  P : List It
  T : List It
  L : Int
variable {l P T : List It} {k c n i j : Nat} {L : Int} {x : It}
@[simp] theorem sl_nil : sl [] = [] := rfl
@[simp] theorem sl_cons : sl (x :: l) = x.1 :: sl l := rfl
theorem sl_one : sl [x] = [x.1] := rfl
theorem sm_nil : sm [] = 0 := rfl
theorem sm_one : sm [x] = x.2 := by show x.2 + 0 = x.2; omega
theorem sl_append {m : List It} : sl (l ++ m) = sl l ++ sl m := List.map_append
theorem sl_len : (sl l).length = l.length := by simp [sl]
theorem sl_take : sl (l.take n) = (sl l).take n := by simp [sl, List.map_take]
theorem sl_drop : sl (l.drop n) = (sl l).drop n := by simp [sl, List.map_drop]
theorem sm_append : ∀ {l m : List It}, sm (l ++ m) = sm l + sm m
  | [], m => by simp [sm]
  | x :: l, m => by show x.2 + sm (l ++ m) = x.2 + sm l + sm m; rw [sm_append]; omega
theorem sm_le : ∀ {l : List It}, (∀ x ∈ l, x.2 ≤ 1099511627776) → sm l ≤ 1099511627776 * l.length
  | [], _ => by simp [sm]
  | x :: l, h => by
    have h1 := h x (by simp)
    have h2 := sm_le (l := l) fun y hy => h y (by simp [hy])
    show x.2 + sm l ≤ _
    rw [List.length_cons]; omega
theorem mem_sl : k ∈ sl l ↔ ∃ c, (k, c) ∈ l := by
  unfold sl
  rw [List.mem_map]
  exact ⟨fun ⟨⟨a, b⟩, h, e⟩ => ⟨b, by subst e; exact h⟩, fun ⟨c, h⟩ => ⟨(k, c), h, rfl⟩⟩
theorem rm_sl (h : (sl l).Nodup) : sl (rm l k) = (sl l).erase k := by
  rw [h.erase_eq_filter]
  unfold sl rm
  rw [List.filter_map]; rfl
theorem rm_none (h : k ∉ sl l) : rm l k = l := List.filter_eq_self.2 fun x hx => by
  have : x.1 ≠ k := fun e => h (by rw [← e]; exact List.mem_map_of_mem hx)
  simpa using this
theorem rm_sm : ∀ {l : List It}, (sl l).Nodup → (k, c) ∈ l → sm (rm l k) + c = sm l
  | [], _, h => by cases h
  | x :: l, hn, h => by
    rw [sl_cons, List.nodup_cons] at hn
    rcases List.mem_cons.1 h with e | h
    · subst e
      have : rm ((k, c) :: l) k = l := by
        unfold rm
        rw [List.filter_cons_of_neg (by simp)]
        exact rm_none hn.1
      rw [this]; show _ = c + sm l; omega
    · have hne : x.1 ≠ k := fun e => hn.1 (by rw [e]; exact mem_sl.2 ⟨c, h⟩)
      have : rm (x :: l) k = x :: rm l k := by
        unfold rm
        rw [List.filter_cons_of_pos (by simpa using hne)]
      rw [this]
      show x.2 + sm (rm l k) + c = x.2 + sm l
      have := rm_sm hn.2 h
      omega
theorem mem_rm : x ∈ rm l k ↔ x ∈ l ∧ x.1 ≠ k := by simp [rm]
theorem demN_le : ∀ {T : List It}, demN L T ≤ T.length
  | [] => Nat.le_refl _
  | x :: T => by
    show (if need L (x :: T) then demN L T + 1 else 0) ≤ _
    have := demN_le (T := T)
    split
    · rw [List.length_cons]; omega
    · omega
theorem demN_need : ∀ {T : List It} {i : Nat}, i ≤ demN L T → (need L (T.drop i) ↔ i < demN L T)
  | [], i, h => by
    have h0 : demN L [] = 0 := rfl
    rw [h0] at h ⊢
    obtain rfl : i = 0 := by omega
    exact ⟨fun h => absurd rfl h.1, fun h => by omega⟩
  | x :: T, 0, h => by
    show need L (x :: T) ↔ 0 < (if need L (x :: T) then demN L T + 1 else 0)
    split
    · rename_i h; simp [h]
    · rename_i h; simp [h]
  | x :: T, i + 1, h => by
    have e : demN L (x :: T) = if need L (x :: T) then demN L T + 1 else 0 := rfl
    rw [e] at h ⊢
    by_cases hc : need L (x :: T)
    · rw [if_pos hc] at h ⊢
      show need L (T.drop i) ↔ _
      rw [demN_need (T := T) (i := i) (by omega)]; omega
    · rw [if_neg hc] at h; omega
theorem demN_stop : ¬ need L (T.drop (demN L T)) := fun h => by
  have := (demN_need (T := T) (Nat.le_refl _)).1 h
  omega
structure Inv (s : St) : Prop where
  nd : (sl s.P ++ sl s.T).Nodup
  lt : ∀ x, x ∈ s.P ∨ x ∈ s.T → x.1 < 4194304 ∧ x.2 ≤ 1099511627776
  lim : -1 ≤ s.L ∧ s.L ≤ 1099511627776
def Still (s : St) : Prop := ¬ need s.L s.T
namespace Inv
theorem parts (h : Inv ⟨P, T, L⟩) : (sl P).Nodup ∧ (sl T).Nodup ∧ ∀ y ∈ sl P, y ∉ sl T := by
  have := h.nd
  dsimp only at this
  rw [List.nodup_append] at this
  exact ⟨this.1, this.2.1, fun y h1 h2 => this.2.2 y h1 y h2 rfl⟩
theorem pslot (h : Inv ⟨P, T, L⟩) : ∀ y ∈ sl P, y < 4194304 := fun y hy => by
  obtain ⟨c, hc⟩ := mem_sl.1 hy
  exact (h.lt _ (.inl hc)).1
theorem tslot (h : Inv ⟨P, T, L⟩) : ∀ y ∈ sl T, y < 4194304 := fun y hy => by
  obtain ⟨c, hc⟩ := mem_sl.1 hy
  exact (h.lt _ (.inr hc)).1
theorem mk' (h1 : (sl P).Nodup) (h2 : (sl T).Nodup) (h3 : ∀ y ∈ sl P, y ∉ sl T) (h4 : ∀ x, x ∈ P ∨ x ∈ T → x.1 < 4194304 ∧ x.2 ≤ 1099511627776) (h5 : -1 ≤ L ∧ L ≤ 1099511627776) : Inv ⟨P, T, L⟩ := ⟨List.nodup_append.2 ⟨h1, h2, fun y hy _z hz e => h3 y hy (e ▸ hz)⟩, h4, h5⟩
theorem rm (h : Inv ⟨P, T, L⟩) : Inv ⟨Sg.rm P k, Sg.rm T k, L⟩ := by
  obtain ⟨h1, h2, h3⟩ := h.parts
  refine mk' (by rw [rm_sl h1]; exact h1.erase k) (by rw [rm_sl h2]; exact h2.erase k) (fun y hy hz => ?_) (fun x hx => h.lt x (hx.imp (fun y => (mem_rm.1 y).1) (fun y => (mem_rm.1 y).1))) h.lim
  rw [rm_sl h1] at hy
  rw [rm_sl h2] at hz
  exact h3 y (List.mem_of_mem_erase hy) (List.mem_of_mem_erase hz)
theorem putP (h : Inv ⟨P, T, L⟩) (h1 : k ∉ sl P) (h2 : k ∉ sl T) (hk : k < 4194304) (hc : c ≤ 1099511627776) : Inv ⟨P ++ [(k, c)], T, L⟩ := by
  obtain ⟨n1, n2, n3⟩ := h.parts
  refine mk' ?_ n2 (fun y hy => ?_) (fun x hx => ?_) h.lim
  · rw [sl_append, List.nodup_append]
    exact ⟨n1, by simp [sl], fun y hy z hz e => by simp [sl] at hz; subst hz; subst e; exact h1 hy⟩
  · rw [sl_append, List.mem_append] at hy
    rcases hy with hy | hy
    · exact n3 y hy
    · simp [sl] at hy; subst hy; exact h2
  · rcases hx with hx | hx
    · rcases List.mem_append.1 hx with hx | hx
      · exact h.lt x (.inl hx)
      · simp at hx; subst hx; exact ⟨hk, hc⟩
    · exact h.lt x (.inr hx)
theorem swap (h : Inv ⟨P, T, L⟩) : Inv ⟨T, P, L⟩ := by
  obtain ⟨n1, n2, n3⟩ := h.parts
  exact mk' n2 n1 (fun y hy hz => n3 y hz hy) (fun x hx => h.lt x hx.symm) h.lim
theorem putT (h : Inv ⟨P, T, L⟩) (h1 : k ∉ sl P) (h2 : k ∉ sl T) (hk : k < 4194304) (hc : c ≤ 1099511627776) : Inv ⟨P, T ++ [(k, c)], L⟩ := (h.swap.putP h2 h1 hk hc).swap
theorem setL (h : Inv ⟨P, T, L⟩) {L' : Int} (h1 : -1 ≤ L') (h2 : L' ≤ 1099511627776) : Inv ⟨P, T, L'⟩ := ⟨h.nd, h.lt, h1, h2⟩
theorem dem (h : Inv ⟨P, T, L⟩) : Inv ⟨P ++ T.take n, T.drop n, L⟩ := by
  refine ⟨?_, fun x hx => ?_, h.lim⟩
  · have := h.nd
    dsimp only at this ⊢
    rw [sl_append, sl_take, sl_drop, List.append_assoc, List.take_append_drop]
    exact this
  · rcases hx with hx | hx
    · rcases List.mem_append.1 hx with hx | hx
      · exact h.lt x (.inl hx)
      · exact h.lt x (.inr (List.mem_of_mem_take hx))
    · exact h.lt x (.inr (List.mem_of_mem_drop hx))
end Inv
def CM (P T : List It) (kv : List (Nat × Int)) : Prop := (mkeys kv).Nodup ∧ ∀ k z, mget kv k = some z ↔ ∃ c : Nat, z = (c : Int) ∧ ((k, c) ∈ P ∨ (k, c) ∈ T)
namespace CM
variable {kv : List (Nat × Int)} {z : Int}
theorem nil : CM [] [] [] := ⟨List.nodup_nil, fun k c => by simp [mget]⟩
theorem yes (h : CM P T kv) (hm : (k, c) ∈ P ∨ (k, c) ∈ T) : mget kv k = some (c : Int) := (h.2 k _).2 ⟨c, rfl, hm⟩
theorem none_iff (h : CM P T kv) : mget kv k = none ↔ k ∉ sl P ∧ k ∉ sl T := by
  constructor
  · intro hm
    refine ⟨fun hk => ?_, fun hk => ?_⟩
    · obtain ⟨c, hc⟩ := mem_sl.1 hk
      rw [h.yes (.inl hc)] at hm; cases hm
    · obtain ⟨c, hc⟩ := mem_sl.1 hk
      rw [h.yes (.inr hc)] at hm; cases hm
  · intro ⟨h1, h2⟩
    cases hm : mget kv k with
    | none => rfl
    | some z =>
      obtain ⟨c, _, hc⟩ := (h.2 k z).1 hm
      exact hc.elim (fun x => absurd (mem_sl.2 ⟨c, x⟩) h1) (fun x => absurd (mem_sl.2 ⟨c, x⟩) h2)
theorem case (h : CM P T kv) (k : Nat) : (mget kv k = none ∧ k ∉ sl P ∧ k ∉ sl T) ∨ ∃ c : Nat, mget kv k = some (c : Int) ∧ ((k, c) ∈ P ∨ (k, c) ∈ T) := by
  cases hm : mget kv k with
  | none => exact .inl ⟨rfl, h.none_iff.1 hm⟩
  | some z =>
    obtain ⟨c, rfl, hc⟩ := (h.2 k z).1 hm
    exact .inr ⟨c, rfl, hc⟩
theorem del (h : CM P T kv) : CM (rm P k) (rm T k) (mdel kv k) := ⟨mdel_nodup h.1, fun j z => by
  rw [mget_del h.1]
  by_cases e : j = k
  · subst e
    simp [mem_rm]
  · rw [if_neg e, h.2]
    simp only [mem_rm, e, ne_eq, not_false_eq_true, and_true]⟩
theorem putP (h : CM P T kv) (h1 : k ∉ sl P) (h2 : k ∉ sl T) : CM (P ++ [(k, c)]) T (mput kv k (c : Int)) := ⟨mput_nodup h.1, fun j z => by
  rw [mget_put]
  by_cases e : j = k
  · subst e
    rw [if_pos rfl]
    have q1 : ∀ d, (j, d) ∉ P := fun d x => h1 (mem_sl.2 ⟨d, x⟩)
    have q2 : ∀ d, (j, d) ∉ T := fun d x => h2 (mem_sl.2 ⟨d, x⟩)
    constructor
    · intro hz
      exact ⟨c, (Option.some.inj hz).symm, .inl (by simp)⟩
    · rintro ⟨d, rfl, hd | hd⟩
      · rcases List.mem_append.1 hd with hd | hd
        · exact absurd hd (q1 d)
        · simp at hd; rw [hd]
      · exact absurd hd (q2 d)
  · rw [if_neg e, h.2]; simp [e]⟩
theorem swap (h : CM P T kv) : CM T P kv := ⟨h.1, fun k c => by rw [h.2]; simp only [or_comm]⟩
theorem putT (h : CM P T kv) (h1 : k ∉ sl P) (h2 : k ∉ sl T) : CM P (T ++ [(k, c)]) (mput kv k (c : Int)) := (h.swap.putP h2 h1).swap
theorem dem (h : CM P T kv) : CM (P ++ T.take n) (T.drop n) kv := ⟨h.1, fun k z => by
  have e : ∀ c, (k, c) ∈ T ↔ (k, c) ∈ T.take n ∨ (k, c) ∈ T.drop n := fun c => by rw [← List.mem_append, List.take_append_drop]
  rw [h.2]
  simp only [List.mem_append, e, or_assoc]⟩
end CM
end Go.Sg
namespace Go.Sg
theorem nodup_bound : ∀ {N : Nat} {l : List Nat}, l.Nodup → (∀ x ∈ l, x < N) → l.length ≤ N
  | 0, [], _, _ => Nat.le_refl _
  | 0, x :: l, _, h => by have := h x (by simp); omega
  | N + 1, l, hn, h => by
    by_cases hm : N ∈ l
    · have := nodup_bound (N := N) (hn.erase N) fun x hx => by
        obtain ⟨h1, h2⟩ := hn.mem_erase_iff.1 hx
        have := h x h2
        omega
      rw [List.length_erase_of_mem hm] at this
      omega
    · have := nodup_bound (N := N) hn fun x hx => by
        have h1 := h x hx
        have h2 : x ≠ N := fun e => hm (e ▸ hx)
        omega
      omega
end Go.Sg
namespace Go.Sg
/-! ### The calls -/
def fair (k : Nat) (z : Int) : Prop := k < 4194304 ∧ 0 ≤ z ∧ z ≤ 1099511627776
instance {k : Nat} {z : Int} : Decidable (fair k z) := by unfold fair; infer_instance
def isIn (s : St) (k : Nat) : Prop := k ∈ sl s.P ∨ k ∈ sl s.T
instance {s : St} {k : Nat} : Decidable (isIn s k) := by unfold isIn; infer_instance
def addE (s : St) (k : Nat) (z : Int) : Int := if ¬ fair k z then 2 else if isIn s k then 11 else 0
def addS (s : St) (k : Nat) (z : Int) : St := if fair k z ∧ ¬ isIn s k then ⟨s.P ++ [(k, z.toNat)], s.T, s.L⟩ else s
def remE (s : St) (k : Nat) : Int := if 4194304 ≤ k then 2 else if isIn s k then 0 else 9
def remS (s : St) (k : Nat) : St := ⟨rm s.P k, rm s.T k, s.L⟩
def useE (s : St) (k : Nat) (z : Int) : Int := if ¬ fair k z then 2 else if isIn s k then 0 else 9
def midS (s : St) (k : Nat) (z : Int) : St := if s.L = -1 then ⟨rm s.P k ++ [(k, z.toNat)], rm s.T k, s.L⟩ else ⟨rm s.P k, rm s.T k ++ [(k, z.toNat)], s.L⟩
def demS (s : St) : St := ⟨s.P ++ s.T.take (demN s.L s.T), s.T.drop (demN s.L s.T), s.L⟩
def demG (s : St) : List Nat := sl (s.T.take (demN s.L s.T))
def useS (s : St) (k : Nat) (z : Int) : St := if fair k z ∧ isIn s k then demS (midS s k z) else s
def useG (s : St) (k : Nat) (z : Int) : List Nat := if fair k z ∧ isIn s k then demG (midS s k z) else []
section
variable {s : St} {k c : Nat} {z L : Int} {P T : List It}
theorem demG_len : (demG s).length = demN s.L s.T := by
  unfold demG
  rw [sl_len, List.length_take]
  have := demN_le (L := s.L) (T := s.T)
  omega
theorem demS_inv (h : Inv s) : Inv (demS s) ∧ Still (demS s) := ⟨Inv.dem (P := s.P) (T := s.T) (L := s.L) h, demN_stop⟩
theorem rm_still (h : Still ⟨P, T, L⟩) (hn : (sl T).Nodup) : Still ⟨rm P k, rm T k, L⟩ := fun hc => by
  obtain ⟨h1, h2⟩ := hc
  dsimp only at h1 h2
  have hT : T ≠ [] := fun e => h1 (by rw [e]; rfl)
  rcases h2 with h2 | h2
  · exact h ⟨hT, .inl h2⟩
  · refine h ⟨hT, .inr ?_⟩
    have : sm (rm T k) ≤ sm T := by
      by_cases hk : k ∈ sl T
      · obtain ⟨c, hc⟩ := mem_sl.1 hk
        have := rm_sm hn hc
        omega
      · rw [rm_none hk]; exact Nat.le_refl _
    dsimp only
    omega
theorem not_rm (h : Inv ⟨P, T, L⟩) : k ∉ sl (rm P k) ∧ k ∉ sl (rm T k) := by
  obtain ⟨n1, n2, _⟩ := h.parts
  rw [rm_sl n1, rm_sl n2]
  exact ⟨fun x => (n1.mem_erase_iff.1 x).1 rfl, fun x => (n2.mem_erase_iff.1 x).1 rfl⟩
theorem midS_ok (h : Inv s) (hf : fair k z) : Inv (midS s k z) := by
  obtain ⟨P, T, L⟩ := s
  obtain ⟨h1, h2, h3⟩ := hf
  obtain ⟨q1, q2⟩ := not_rm (k := k) h
  unfold midS
  split
  · exact (h.rm (k := k)).putP q1 q2 h1 (by omega)
  · exact (h.rm (k := k)).putT q1 q2 h1 (by omega)
end
end Go.Sg

/- segment, walked: slots that are put and taken. -/
namespace Go.Sg
open Go.Lk Go.Sl Go.Lr Go.Proofs.YtdpiglociolagaaGreat
def SegX (p : Nat) (P T : List It) (L : Int) : HP := Exs (ι := (Nat × Nat × Nat) × List (Nat × Int)) fun q => [fact (Inv ⟨P, T, L⟩ ∧ CM P T q.2), obj p 142 [.pointer (some ⟨q.1.1, 0, none⟩), .pointer (some ⟨q.1.2.1, 0, none⟩), .int .i64 (sm P : Nat), .int .i64 (sm T : Nat), .map (some q.1.2.2), .int .i64 L], LruAt q.1.1 (sl P), LruAt q.1.2.1 (sl T), MapA .u32 (fun z : Int => .int .i64 z) q.1.2.2 q.2]
def SegAt (p : Nat) (P T : List It) (L : Int) : HP := Exs (ι := Unit) fun _ => [fact (Still ⟨P, T, L⟩), SegX p P T L]
section
variable {r0 : Option Nat} {P' : Program} {base : World} {n : Nat} {ds : List Deferred} {X : Exit → Act → World → Prop} {env : Env} {l r : List HP} {KK : Act → World → Prop} {c : Code} {all : Array Oper} {ro : List Oper} {p : Nat} {P T : List It} {L : Int}
theorem SegX.openK (h : ∀ (l0 l1 m : Nat) (kv : List (Nat × Int)), Inv ⟨P, T, L⟩ → CM P T kv → TK base n ds KK env (obj p 142 [.pointer (some ⟨l0, 0, none⟩), .pointer (some ⟨l1, 0, none⟩), .int .i64 (sm P : Nat), .int .i64 (sm T : Nat), .map (some m), .int .i64 L] :: LruAt l0 (sl P) :: LruAt l1 (sl T) :: MapA .u32 (fun z : Int => .int .i64 z) m kv :: r)) (hr : Rem l (SegX p P T L) r := by (repeat (first | (with_reducible exact Rem.here _ _) | (with_reducible apply Rem.there) | fail)); done) : TK base n ds KK env l := by
  unfold SegX at hr
  refine TK.exs hr fun ⟨⟨l0, l1, m⟩, kv⟩ => ?_
  refine TK.fact fun ⟨h1, h2⟩ => ?_
  exact h l0 l1 m kv h1 h2
theorem SegX.openC (h : ∀ (l0 l1 m : Nat) (kv : List (Nat × Int)), Inv ⟨P, T, L⟩ → CM P T kv → TC r0 P' base n ds c X env (obj p 142 [.pointer (some ⟨l0, 0, none⟩), .pointer (some ⟨l1, 0, none⟩), .int .i64 (sm P : Nat), .int .i64 (sm T : Nat), .map (some m), .int .i64 L] :: LruAt l0 (sl P) :: LruAt l1 (sl T) :: MapA .u32 (fun z : Int => .int .i64 z) m kv :: r)) (hr : Rem l (SegX p P T L) r := by (repeat (first | (with_reducible exact Rem.here _ _) | (with_reducible apply Rem.there) | fail)); done) : TC r0 P' base n ds c X env l := SegX.openK h hr
theorem SegX.openL (h : ∀ (l0 l1 m : Nat) (kv : List (Nat × Int)), Inv ⟨P, T, L⟩ → CM P T kv → TL r0 P' base n ds all ro X env (obj p 142 [.pointer (some ⟨l0, 0, none⟩), .pointer (some ⟨l1, 0, none⟩), .int .i64 (sm P : Nat), .int .i64 (sm T : Nat), .map (some m), .int .i64 L] :: LruAt l0 (sl P) :: LruAt l1 (sl T) :: MapA .u32 (fun z : Int => .int .i64 z) m kv :: r)) (hr : Rem l (SegX p P T L) r := by (repeat (first | (with_reducible exact Rem.here _ _) | (with_reducible apply Rem.there) | fail)); done) : TL r0 P' base n ds all ro X env l := SegX.openK h hr
theorem SegX.shut {l0 l1 m : Nat} {kv : List (Nat × Int)} (h1 : Inv ⟨P, T, L⟩) (h2 : CM P T kv) : Ent (obj p 142 [.pointer (some ⟨l0, 0, none⟩), .pointer (some ⟨l1, 0, none⟩), .int .i64 (sm P : Nat), .int .i64 (sm T : Nat), .map (some m), .int .i64 L] :: LruAt l0 (sl P) :: LruAt l1 (sl T) :: MapA .u32 (fun z : Int => .int .i64 z) m kv :: r) (SegX p P T L :: r) := by
  refine Ent.exs ((l0, l1, m), kv) ?_
  exact Ent.fact ⟨h1, h2⟩ (Ent.refl _)
theorem SegX.shutN {l0 l1 m : Nat} {kv : List (Nat × Int)} {z0 z1 : Int} {q0 q1 : List Nat} (h1 : Inv ⟨P, T, L⟩) (h2 : CM P T kv) (e0 : z0 = (sm P : Nat)) (e1 : z1 = (sm T : Nat)) (e2 : q0 = sl P) (e3 : q1 = sl T) : Ent (obj p 142 [.pointer (some ⟨l0, 0, none⟩), .pointer (some ⟨l1, 0, none⟩), .int .i64 z0, .int .i64 z1, .map (some m), .int .i64 L] :: LruAt l0 q0 :: LruAt l1 q1 :: MapA .u32 (fun z : Int => .int .i64 z) m kv :: r) (SegX p P T L :: r) := by
  subst e0; subst e1; subst e2; subst e3
  exact SegX.shut h1 h2
theorem SegAt.openK (h : Still ⟨P, T, L⟩ → TK base n ds KK env (SegX p P T L :: r)) (hr : Rem l (SegAt p P T L) r := by (repeat (first | (with_reducible exact Rem.here _ _) | (with_reducible apply Rem.there) | fail)); done) : TK base n ds KK env l := by
  unfold SegAt at hr
  refine TK.exs hr fun _ => ?_
  exact TK.fact fun h1 => h h1
theorem SegAt.openC (h : Still ⟨P, T, L⟩ → TC r0 P' base n ds c X env (SegX p P T L :: r)) (hr : Rem l (SegAt p P T L) r := by (repeat (first | (with_reducible exact Rem.here _ _) | (with_reducible apply Rem.there) | fail)); done) : TC r0 P' base n ds c X env l := SegAt.openK h hr
theorem SegAt.shut (h : Still ⟨P, T, L⟩) : Ent (SegX p P T L :: r) (SegAt p P T L :: r) := by
  refine Ent.exs () ?_
  exact Ent.fact h (Ent.refl _)
theorem SegX.facts (h : Inv ⟨P, T, L⟩ → P.length ≤ 4194304 → T.length ≤ 4194304 → TK base n ds KK env l) (hr : Rem l (SegX p P T L) r := by (repeat (first | (with_reducible exact Rem.here _ _) | (with_reducible apply Rem.there) | fail)); done) : TK base n ds KK env l := by
  refine TK.know (p := Inv ⟨P, T, L⟩) (fun _ y => ?_) fun iv => ?_
  · unfold SegX at hr
    obtain ⟨q, y⟩ := exs_out hr y
    obtain ⟨⟨h1, h2⟩, y⟩ := lst_fact y
    exact h1
  · obtain ⟨n1, n2, n3⟩ := iv.parts
    exact h iv (by rw [← sl_len]; exact nodup_bound n1 iv.pslot) (by rw [← sl_len]; exact nodup_bound n2 iv.tslot)
theorem SegX.factsC (h : Inv ⟨P, T, L⟩ → P.length ≤ 4194304 → T.length ≤ 4194304 → TC r0 P' base n ds c X env l) (hr : Rem l (SegX p P T L) r := by (repeat (first | (with_reducible exact Rem.here _ _) | (with_reducible apply Rem.there) | fail)); done) : TC r0 P' base n ds c X env l := SegX.facts h hr
theorem SegAt.facts (h : Inv ⟨P, T, L⟩ → Still ⟨P, T, L⟩ → P.length ≤ 4194304 → T.length ≤ 4194304 → TK base n ds KK env l) (hr : Rem l (SegAt p P T L) r := by (repeat (first | (with_reducible exact Rem.here _ _) | (with_reducible apply Rem.there) | fail)); done) : TK base n ds KK env l := by
  refine TK.know (p := Inv ⟨P, T, L⟩ ∧ Still ⟨P, T, L⟩) (fun _ y => ?_) fun ⟨iv, st⟩ => ?_
  · unfold SegAt at hr
    obtain ⟨_, y⟩ := exs_out hr y
    obtain ⟨h0, y⟩ := lst_fact y
    unfold SegX at y
    obtain ⟨q, y⟩ := exs_out (.here _ _) y
    obtain ⟨⟨h1, h2⟩, y⟩ := lst_fact y
    exact ⟨h1, h0⟩
  · obtain ⟨n1, n2, n3⟩ := iv.parts
    exact h iv st (by rw [← sl_len]; exact nodup_bound n1 iv.pslot) (by rw [← sl_len]; exact nodup_bound n2 iv.tslot)
theorem SegAt.factsC (h : Inv ⟨P, T, L⟩ → Still ⟨P, T, L⟩ → P.length ≤ 4194304 → T.length ≤ 4194304 → TC r0 P' base n ds c X env l) (hr : Rem l (SegAt p P T L) r := by (repeat (first | (with_reducible exact Rem.here _ _) | (with_reducible apply Rem.there) | fail)); done) : TC r0 P' base n ds c X env l := SegAt.facts h hr
end
end Go.Sg

/- segment, walked: slots that are put and taken. -/
namespace Go.Sg
open Go.Sl
structure Chk (k : Nat) (z e : Int) : Prop where
  out : (if k < 4194304 ∧ 0 ≤ z ∧ z ≤ 1099511627776 then (0 : Int) else 2) = e
structure PutTo (g : Nat) (P T : List It) (k c : Nat) (P' T' : List It) : Prop where
  g : (g = 0 ∧ P' = P ++ [(k, c)] ∧ T' = T) ∨ (g = 1 ∧ P' = P ∧ T' = T ++ [(k, c)])
  np : k ∉ sl P
  nt : k ∉ sl T
structure InS (P T : List It) (k : Nat) (b : Bool) : Prop where
  out : decide (k ∈ sl P ∨ k ∈ sl T) = b
structure OfS (T : List It) (k g : Nat) : Prop where
  out : (if k ∈ sl T then 1 else 0) = g
theorem lru_newS {L : List Nat} {z : Nat} (h : z ∉ L) (h2 : z < 4194304) : Lr.addL L z = L ++ [z] := by
  have h3 : Lr.addE L z = 0 := by unfold Lr.addE; rw [if_neg (by omega), if_neg h]
  exact Lr.addL_ok h3
theorem Inv.sums {P T : List It} {L : Int} (h : Inv ⟨P, T, L⟩) : sm P ≤ 4611686018427387904 ∧ sm T ≤ 4611686018427387904 := by
  obtain ⟨n1, n2, n3⟩ := h.parts
  have h1 := nodup_bound n1 h.pslot
  have h2 := nodup_bound n2 h.tslot
  rw [sl_len] at h1 h2
  have h3 := sm_le (l := P) fun x hx => (h.lt x (.inl hx)).2
  have h4 := sm_le (l := T) fun x hx => (h.lt x (.inr hx)).2
  omega
end Go.Sg
namespace Go.Proofs.YtdpiglociolagaaGreat
open Go.Lk Go.Sl Go.Lr Go.Sg
attribute [local irreducible] TK TL TC Th Bk Nx fnPost WA TQ OpQ OpN SpecH Rd Ent IterH RoundH Rb Rp fnPostM
attribute [local irreducible] Fld.addE Fld.addF Fld.befE Fld.befF Fld.inE Fld.remF Fld.first Fld.last Fld.next Fld.prev Fld.ofR Fld.listOf Fld.joinE Fld.joinF renE renG Fld.at Fld.set Fld.place
attribute [local irreducible] Lr.addL Lr.addE Lr.useL Lr.remE Sg.sm Sg.sl Sg.rm Sg.demN
instance sg_check : Known Tryz.prog 73 (∀ (p : Nat) (P T : List It) (L : Int) (xk : Int) (k : Nat) [NatI xk k] (z e : Int), Chk k z e → SpecH Tryz.prog 73 #[.pointer (some ⟨p, 0, none⟩), .int .u32 xk, .int .i64 z] [SegX p P T L] (fun _ : Unit => .int .i64 e) (fun _ => [SegX p P T L])) := ⟨fun p P T L xk k _ z e hc => by
  obtain rfl : xk = (k : Int) := NatI.out
  have hc := hc.out
  refine spec_of Tryz.func73 rfl Tryz.ntmps73 rfl [(0, _), (1, _), (2, _)] rfl ?_; intro base F l0 hl0; (try simp only [List.cons_append] at hl0); (try simp only [List.nil_append] at hl0); subst hl0
  refine SegX.openC fun l0 l1 m kv iv cm => ?_
  by_cases h : k < 4194304 ∧ 0 ≤ z ∧ z ≤ 1099511627776
  · rw [if_pos h] at hc
    subst hc
    obtain ⟨h1, h2, h3⟩ := h
    repeat' (first | refine stw ?_ | refine And.intro ?_ ?_ | (intro e; exfalso; omega) | (intro e; subst e) | intro _)
    exact rt1 () rfl (he := en2 (SegX.shut iv cm))
  · rw [if_neg h] at hc
    subst hc
    rcases Nat.lt_or_ge k 4194304 with h1 | h1
    · rcases Classical.em (z < 0) with h2 | h2
      · repeat' (first | refine stw ?_ | refine And.intro ?_ ?_ | (intro e; exfalso; omega) | (intro e; subst e) | intro _)
        exact rt1 () rfl (he := en2 (SegX.shut iv cm))
      · have h3 : 1099511627776 < z := by omega
        repeat' (first | refine stw ?_ | refine And.intro ?_ ?_ | (intro e; exfalso; omega) | (intro e; subst e) | intro _)
        exact rt1 () rfl (he := en2 (SegX.shut iv cm))
    · repeat' (first | refine stw ?_ | refine And.intro ?_ ?_ | (intro e; exfalso; omega) | (intro e; subst e) | intro _)
      exact rt1 () rfl (he := en2 (SegX.shut iv cm))⟩
instance sg_new : Known Tryz.prog 44 (∀ (z : Int), -1 ≤ z → z ≤ 1099511627776 → SpecH Tryz.prog 44 #[.int .i64 z] [] (fun p : Nat => .tuple #[.pointer (some ⟨p, 0, none⟩), .int .i64 0]) (fun p => [SegAt p [] [] z])) := ⟨fun z h1 h2 => by
  refine spec_of Tryz.func44 rfl Tryz.ntmps44 rfl [(0, _)] rfl ?_; intro base F l0 hl0; (try simp only [List.cons_append] at hl0); (try simp only [List.nil_append] at hl0); subst hl0
  repeat' (first | refine stw ?_ | refine And.intro ?_ ?_ | (intro e; exfalso; omega) | (intro e; subst e) | intro _)
  rename_i l0 l1 m p
  have iv : Inv ⟨[], [], z⟩ := ⟨by rw [sl_nil]; exact List.nodup_nil, fun x h => h.elim (fun h => (by cases h)) (fun h => (by cases h)), h1, h2⟩
  have st : Still ⟨[], [], z⟩ := fun h => h.1 rfl
  exact rt2 p rfl (he := (en2 (SegX.shutN (z0 := 0) (z1 := 0) (q0 := []) (q1 := []) iv CM.nil (by rw [sm_nil]; rfl) (by rw [sm_nil]; rfl) sl_nil.symm sl_nil.symm)).trans (en2 (SegAt.shut st)))⟩
set_option maxHeartbeats 4000000 in
instance sg_put : Known Tryz.prog 75 (∀ (p : Nat) (P T : List It) (L : Int) (xg : Int) (g : Nat) [NatI xg g] (xk : Int) (k : Nat) [NatI xk k] (xc : Int) (c : Nat) [NatI xc c] (P' T' : List It), PutTo g P T k c P' T' → k < 4194304 → c ≤ 1099511627776 → SpecH Tryz.prog 75 #[.pointer (some ⟨p, 0, none⟩), .int .i64 xg, .int .u32 xk, .int .i64 xc] [SegX p P T L] (fun _ : Unit => .tuple #[]) (fun _ => [SegX p P' T' L])) := ⟨fun p P T L xg g _ xk k _ xc c _ P' T' hp hk hc => by
  obtain rfl : xg = (g : Int) := NatI.out
  obtain rfl : xk = (k : Int) := NatI.out
  obtain rfl : xc = (c : Int) := NatI.out
  obtain ⟨hg, hnp, hnt⟩ := hp
  refine spec_of Tryz.func75 rfl Tryz.ntmps75 rfl [(0, _), (1, _), (2, _), (3, _)] rfl ?_; intro base F l0 hl0; (try simp only [List.cons_append] at hl0); (try simp only [List.nil_append] at hl0); subst hl0
  refine SegX.openC fun l0 l1 m kv iv cm => ?_
  obtain ⟨s1, s2⟩ := iv.sums
  rcases hg with ⟨rfl, rfl, rfl⟩ | ⟨rfl, rfl, rfl⟩
  · have e := lru_newS hnp hk
    have iv2 := iv.putP hnp hnt hk hc
    have cm2 := cm.putP (c := c) hnp hnt
    have e2 := sl_append (l := P) (m := [(k, c)])
    have e3 := sm_append (l := P) (m := [(k, c)])
    rw [sl_one] at e2
    rw [sm_one] at e3
    repeat' (first | ((fail_if_success (refine atD ?_)); refine stw ?_) | refine And.intro ?_ ?_ | (intro e; exfalso; omega) | (intro e; subst e) | intro _)
    refine tail 10 ?_
    repeat' (first | refine stw ?_ | refine And.intro ?_ ?_ | (intro e; exfalso; omega) | (intro e; subst e) | intro _)
    rw [show Lr.addL (sl P) k = sl (P ++ [(k, c)]) by rw [e, e2], show ((sm P : Nat) : Int) + (c : Int) = ((sm (P ++ [(k, c)]) : Nat) : Int) by rw [e3]; rfl]
    exact re0 () rfl (he := en2 (SegX.shut iv2 cm2))
  · have e := lru_newS hnt hk
    have iv2 := iv.putT hnp hnt hk hc
    have cm2 := cm.putT (c := c) hnp hnt
    have e2 := sl_append (l := T) (m := [(k, c)])
    have e3 := sm_append (l := T) (m := [(k, c)])
    rw [sl_one] at e2
    rw [sm_one] at e3
    repeat' (first | ((fail_if_success (refine atD ?_)); refine stw ?_) | refine And.intro ?_ ?_ | (intro e; exfalso; omega) | (intro e; subst e) | intro _)
    refine tail 10 ?_
    repeat' (first | refine stw ?_ | refine And.intro ?_ ?_ | (intro e; exfalso; omega) | (intro e; subst e) | intro _)
    rw [show Lr.addL (sl T) k = sl (T ++ [(k, c)]) by rw [e, e2], show ((sm T : Nat) : Int) + (c : Int) = ((sm (T ++ [(k, c)]) : Nat) : Int) by rw [e3]; rfl]
    exact re0 () rfl (he := en2 (SegX.shut iv2 cm2))⟩
theorem sg_of0 : Known Tryz.prog 114 (∀ (p l0 l1 m : Nat) (P T : List It) (L : Int) (xk : Int) (k : Nat) [NatI xk k] (g : Nat), OfS T k g → k < 4194304 → SpecH Tryz.prog 114 #[.pointer (some ⟨p, 0, none⟩), .int .u32 xk] [obj p 142 [.pointer (some ⟨l0, 0, none⟩), .pointer (some ⟨l1, 0, none⟩), .int .i64 (sm P : Nat), .int .i64 (sm T : Nat), .map (some m), .int .i64 L], LruAt l1 (sl T)] (fun _ : Unit => .int .i64 (g : Nat)) (fun _ => [obj p 142 [.pointer (some ⟨l0, 0, none⟩), .pointer (some ⟨l1, 0, none⟩), .int .i64 (sm P : Nat), .int .i64 (sm T : Nat), .map (some m), .int .i64 L], LruAt l1 (sl T)])) := ⟨fun p l0 l1 m P T L xk k _ g hg hk => by
  obtain rfl : xk = (k : Int) := NatI.out
  refine spec_of Tryz.func114 rfl Tryz.ntmps114 rfl [(0, _), (1, _)] rfl ?_; intro base F l0 hl0; (try simp only [List.cons_append] at hl0); (try simp only [List.nil_append] at hl0); subst hl0
  have hg := hg.out
  by_cases h : k ∈ sl T
  · rw [if_pos h] at hg
    subst hg
    haveI : Known Tryz.prog 30 (SpecH Tryz.prog 30 #[.pointer (some ⟨l1, 0, none⟩), .int .u32 (k : Nat)] [LruAt l1 (sl T)] (fun _ : Unit => .bool true) (fun _ => [LruAt l1 (sl T)])) := ⟨by
      have := lr_has.out l1 (sl T) (k : Nat) k (by omega)
      rwa [decide_eq_true h] at this⟩
    repeat' (first | refine stw ?_ | refine And.intro ?_ ?_ | (intro e; exfalso; omega) | (intro e; subst e) | intro _)
    exact rt1 () rfl
  · rw [if_neg h] at hg
    subst hg
    haveI : Known Tryz.prog 30 (SpecH Tryz.prog 30 #[.pointer (some ⟨l1, 0, none⟩), .int .u32 (k : Nat)] [LruAt l1 (sl T)] (fun _ : Unit => .bool false) (fun _ => [LruAt l1 (sl T)])) := ⟨by
      have := lr_has.out l1 (sl T) (k : Nat) k (by omega)
      rwa [decide_eq_false h] at this⟩
    repeat' (first | refine stw ?_ | refine And.intro ?_ ?_ | (intro e; exfalso; omega) | (intro e; subst e) | intro _)
    exact rt1 () rfl⟩
set_option maxHeartbeats 4000000 in
instance sg_take : Known Tryz.prog 74 (∀ (p : Nat) (P T : List It) (L : Int) (xk : Int) (k : Nat) [NatI xk k] (b : Bool), InS P T k b → k < 4194304 → SpecH Tryz.prog 74 #[.pointer (some ⟨p, 0, none⟩), .int .u32 xk] [SegX p P T L] (fun _ : Unit => .bool b) (fun _ => [SegX p (rm P k) (rm T k) L])) := ⟨fun p P T L xk k _ b hb hk => by
  obtain rfl : xk = (k : Int) := NatI.out
  have hb := hb.out
  refine spec_of Tryz.func74 rfl Tryz.ntmps74 rfl [(0, _), (1, _)] rfl ?_; intro base F l0 hl0; (try simp only [List.cons_append] at hl0); (try simp only [List.nil_append] at hl0); subst hl0
  haveI := sg_of0
  refine SegX.openC fun l0 l1 m kv iv cm => ?_
  obtain ⟨s1, s2⟩ := iv.sums
  obtain ⟨n1, n2, n3⟩ := iv.parts
  rcases cm.case k with ⟨hm, np, nt⟩ | ⟨c, hm, hc⟩
  · rw [decide_eq_false (fun h => h.elim np nt)] at hb
    subst hb
    rw [rm_none np, rm_none nt]
    repeat' (first | refine stw ?_ | refine And.intro ?_ ?_ | (intro e; exfalso; omega) | (intro e; subst e) | intro _)
    exact rt1 () rfl (he := en2 (SegX.shut iv cm))
  · have hin : k ∈ sl P ∨ k ∈ sl T := hc.imp (fun x => mem_sl.2 ⟨c, x⟩) (fun x => mem_sl.2 ⟨c, x⟩)
    rw [decide_eq_true hin] at hb
    subst hb
    have iv2 := iv.rm (k := k)
    have cm2 := cm.del (k := k)
    have e0 := rm_sl (k := k) n1
    have e1 := rm_sl (k := k) n2
    by_cases ht : k ∈ sl T
    · have np : k ∉ sl P := fun h => n3 k h ht
      have hc2 : (k, c) ∈ T := hc.resolve_left fun x => np (mem_sl.2 ⟨c, x⟩)
      have es := rm_sm n2 hc2
      have hof : OfS T k 1 := ⟨if_pos ht⟩
      rw [rm_none np] at iv2 cm2 ⊢
      repeat' (first | ((fail_if_success (refine atD ?_)); refine stw ?_) | refine And.intro ?_ ?_ | (intro e; exfalso; omega) | (intro e; subst e) | intro _)
      refine tail 10 ?_
      repeat' (first | refine stw ?_ | refine And.intro ?_ ?_ | (intro e; exfalso; omega) | (intro e; subst e) | intro _)
      rw [← e1, show ((sm T : Nat) : Int) - (c : Int) = ((sm (rm T k) : Nat) : Int) by omega]
      exact rt1 () rfl (he := en2 (SegX.shut iv2 cm2))
    · have hp := hin.resolve_right ht
      have hc2 : (k, c) ∈ P := hc.resolve_right fun x => ht (mem_sl.2 ⟨c, x⟩)
      have es := rm_sm n1 hc2
      have hof : OfS T k 0 := ⟨if_neg ht⟩
      rw [rm_none ht] at iv2 cm2 ⊢
      repeat' (first | ((fail_if_success (refine atD ?_)); refine stw ?_) | refine And.intro ?_ ?_ | (intro e; exfalso; omega) | (intro e; subst e) | intro _)
      refine tail 10 ?_
      repeat' (first | refine stw ?_ | refine And.intro ?_ ?_ | (intro e; exfalso; omega) | (intro e; subst e) | intro _)
      rw [← e0, show ((sm P : Nat) : Int) - (c : Int) = ((sm (rm P k) : Nat) : Int) by omega]
      exact rt1 () rfl (he := en2 (SegX.shut iv2 cm2))⟩
end Go.Proofs.YtdpiglociolagaaGreat

/- segment, walked: slots that are demoted. -/
namespace Go.Sg
open Go.Sl
theorem drop_cons {T : List It} {i : Nat} {L : Int} (h : need L (T.drop i)) : ∃ k c R, T.drop i = (k, c) :: R ∧ T.drop (i + 1) = R ∧ T.take (i + 1) = T.take i ++ [(k, c)] := by
  have h1 : i < T.length := by
    refine Nat.lt_of_not_le fun h2 => h.1 (List.drop_eq_nil_of_le h2)
  refine ⟨T[i].1, T[i].2, T.drop (i + 1), List.drop_eq_getElem_cons h1, rfl, ?_⟩
  rw [List.take_succ_eq_append_getElem h1]
theorem rm_head {R : List It} {k c : Nat} (h : k ∉ sl R) : rm ((k, c) :: R) k = R := by
  unfold rm
  rw [List.filter_cons_of_neg (by simp)]
  exact rm_none h
theorem u32s_snocS {A : List Nat} {x : Nat} : Lk.u32s (A ++ [x]) = Lk.u32s A ++ [.int .u32 (x : Nat)] := by simp [Lk.u32s]
end Go.Sg
namespace Go.Proofs.YtdpiglociolagaaGreat
open Go.Lk Go.Sl Go.Lr Go.Sg
attribute [local irreducible] TK TL TC Th Bk Nx fnPost WA TQ OpQ OpN SpecH Rd Ent IterH RoundH Rb Rp fnPostM
attribute [local irreducible] Fld.addE Fld.addF Fld.befE Fld.befF Fld.inE Fld.remF Fld.first Fld.last Fld.next Fld.prev Fld.ofR Fld.listOf Fld.joinE Fld.joinF renE renG Fld.at Fld.set Fld.place
attribute [local irreducible] Lr.addL Lr.addE Lr.useL Lr.remE Sg.sm Sg.sl Sg.rm Sg.demN
set_option maxHeartbeats 4000000 in
theorem sg_needed (b p : Nat) (P T : List It) (L : Int) (q : Bool) (hq : decide (need L T) = q) : SpecH Tryz.prog 115 #[.pointer (some ⟨b, 0, none⟩)] [obj b 70 [.pointer (some ⟨p, 0, none⟩)], SegX p P T L] (fun _ : Unit => .bool q) (fun _ => [obj b 70 [.pointer (some ⟨p, 0, none⟩)], SegX p P T L]) := by
  refine spec_of Tryz.func115 rfl Tryz.ntmps115 rfl [(0, _)] rfl ?_; intro base F l0 hl0; (try simp only [List.cons_append] at hl0); (try simp only [List.nil_append] at hl0); subst hl0
  refine SegX.openC fun l0 l1 m kv iv cm => ?_
  obtain ⟨s1, s2⟩ := iv.sums
  have hl := sl_len (l := T)
  have hlim := iv.lim
  dsimp only at hlim
  by_cases h0 : T = []
  · subst h0
    rw [decide_eq_false (fun h => h.1 rfl)] at hq
    subst hq
    rw [List.length_nil] at hl
    repeat' (first | ((fail_if_success (refine atD ?_)); refine stw ?_) | refine And.intro ?_ ?_ | (intro e; exfalso; omega) | (intro e; subst e) | intro _)
    refine drx [LruAt l1 (sl [])] ?_
    refine tks [0, 1, 2, 3, 4] 22 ?_; repeat' (first | refine stw ?_ | refine And.intro ?_ ?_ | (intro e; exfalso; omega) | (intro e; subst e) | intro _)
    refine hv 5 fun x5 => ?_
    refine tks [6, 7, 8, 9, 10, 11, 12, 13, 14, 19, 15, 20, 16, 21, 17, 22, 18, 23, 24, 25, 26] 0 ?_; repeat' (first | refine stw ?_ | refine And.intro ?_ ?_ | (intro e; exfalso; omega) | (intro e; subst e) | intro _)
    all_goals exact rt1 () rfl (he := (en2 (SegX.shut iv cm)).trans en)
  · have hpos := List.length_pos_iff.2 h0
    by_cases h1 : L = -1
    · have hd : need L T := ⟨h0, .inl h1⟩
      rw [decide_eq_true hd] at hq
      subst hq
      repeat' (first | ((fail_if_success (refine atD ?_)); refine stw ?_) | refine And.intro ?_ ?_ | (intro e; exfalso; omega) | (intro e; subst e) | intro _)
      refine drx [LruAt l1 (sl T)] ?_
      refine tks [0, 1, 2, 3, 4] 22 ?_; repeat' (first | refine stw ?_ | refine And.intro ?_ ?_ | (intro e; exfalso; omega) | (intro e; subst e) | intro _)
      refine hv 5 fun x5 => ?_
      refine tks [6, 7, 8, 9, 10, 11, 12, 13, 14, 19, 15, 20, 16, 21, 17, 22, 18, 23, 24, 25, 26] 0 ?_; repeat' (first | refine stw ?_ | refine And.intro ?_ ?_ | (intro e; exfalso; omega) | (intro e; subst e) | intro _)
      all_goals exact rt1 () rfl (he := (en2 (SegX.shut iv cm)).trans en)
    · by_cases h2 : L < (sm T : Nat)
      · have hd : need L T := ⟨h0, .inr h2⟩
        rw [decide_eq_true hd] at hq
        subst hq
        repeat' (first | ((fail_if_success (refine atD ?_)); refine stw ?_) | refine And.intro ?_ ?_ | (intro e; exfalso; omega) | (intro e; subst e) | intro _)
        refine drx [LruAt l1 (sl T)] ?_
        refine tks [0, 1, 2, 3, 4] 22 ?_; repeat' (first | refine stw ?_ | refine And.intro ?_ ?_ | (intro e; exfalso; omega) | (intro e; subst e) | intro _)
        refine hv 5 fun x5 => ?_
        refine tks [6, 7, 8, 9, 10, 11, 12, 13, 14, 19, 15, 20, 16, 21, 17, 22, 18, 23, 24, 25, 26] 0 ?_; repeat' (first | refine stw ?_ | refine And.intro ?_ ?_ | (intro e; exfalso; omega) | (intro e; subst e) | intro _)
        all_goals exact rt1 () rfl (he := (en2 (SegX.shut iv cm)).trans en)
      · rw [decide_eq_false (fun h : need L T => h.2.elim h1 h2)] at hq
        subst hq
        repeat' (first | ((fail_if_success (refine atD ?_)); refine stw ?_) | refine And.intro ?_ ?_ | (intro e; exfalso; omega) | (intro e; subst e) | intro _)
        refine drx [LruAt l1 (sl T)] ?_
        refine tks [0, 1, 2, 3, 4] 22 ?_; repeat' (first | refine stw ?_ | refine And.intro ?_ ?_ | (intro e; exfalso; omega) | (intro e; subst e) | intro _)
        refine hv 5 fun x5 => ?_
        refine tks [6, 7, 8, 9, 10, 11, 12, 13, 14, 19, 15, 20, 16, 21, 17, 22, 18, 23, 24, 25, 26] 0 ?_; repeat' (first | refine stw ?_ | refine And.intro ?_ ?_ | (intro e; exfalso; omega) | (intro e; subst e) | intro _)
        all_goals exact rt1 () rfl (he := (en2 (SegX.shut iv cm)).trans en)
set_option maxHeartbeats 8000000 in
instance sg_demote : Known Tryz.prog 76 (∀ (p : Nat) (P T : List It) (L : Int), SpecH Tryz.prog 76 #[.pointer (some ⟨p, 0, none⟩)] [SegX p P T L] (fun q : Option Addr × Nat => .slice q.1 (demN L T) q.2) (fun q => [SegX p (P ++ T.take (demN L T)) (T.drop (demN L T)) L, RoS 1 q.1 (demN L T) q.2 (u32s (sl (T.take (demN L T))))])) := ⟨fun p P T L => by
  refine spec_of Tryz.func76 rfl Tryz.ntmps76 rfl [(0, _)] rfl ?_; intro base F l0 hl0; (try simp only [List.cons_append] at hl0); (try simp only [List.nil_append] at hl0); subst hl0
  refine SegX.factsC fun iv0 hP hT => ?_
  have hd := demN_le (L := L) (T := T)
  repeat' (first | refine stw ?_ | refine And.intro ?_ ?_ | (intro e; exfalso; omega) | (intro e; subst e) | intro _)
  rename_i b
  refine tc_lp (ι := {x : Nat × Option Addr × Nat // x.1 ≤ demN L T}) [4] (fun e x => (4, .slice x.1.2.1 x.1.1 x.1.2.2) :: e)
    (fun x => [obj b 70 [.pointer (some ⟨p, 0, none⟩)], SegX p (P ++ T.take x.1.1) (T.drop x.1.1) L, Vec 41 1 x.1.2.1 x.1.1 x.1.2.2 (u32s (sl (T.take x.1.1))), F]) (fun x => demN L T - x.1.1) ⟨(0, none, 0), by omega⟩ ?_
    (hl := by dsimp only; rw [List.take_zero, List.drop_zero, List.append_nil, sl_nil]; show Ent _ [obj b 70 [.pointer (some ⟨p, 0, none⟩)], SegX p P T L, Vec 41 1 none 0 0 [], F]; exact en)
  rintro K ⟨⟨i, a, c⟩, hi⟩ hK
  dsimp only at hi ⊢
  have hn := demN_need (L := L) (T := T) hi
  by_cases hc : i < demN L T
  · have hneed := hn.2 hc
    obtain ⟨k, w, R, hR, hR2, hR3⟩ := drop_cons hneed
    have hsp := sg_needed b p (P ++ T.take i) (T.drop i) L true (decide_eq_true hneed)
    repeat' (first | refine stw ?_ | refine And.intro ?_ ?_ | (intro e; exfalso; omega) | (intro e; subst e) | intro _)
    refine callV hsp ?_
    repeat' (first | refine stw ?_ | refine And.intro ?_ ?_ | (intro e; exfalso; omega) | (intro e; subst e) | intro _)
    rw [hR]
    refine SegX.openL fun l0 l1 m kv iv cm => ?_
    have hm := cm.yes (k := k) (c := w) (.inr (by simp))
    obtain ⟨n1, n2, n3⟩ := iv.parts
    obtain ⟨hk, hw⟩ := iv.lt (k, w) (.inr (by simp))
    have nP : k ∉ sl (P ++ T.take i) := fun h => n3 k h (by rw [sl_cons]; simp)
    have nR : k ∉ sl R := by rw [sl_cons, List.nodup_cons] at n2; exact n2.1
    haveI : Known Tryz.prog 79 (∀ q : Nat, SpecH Tryz.prog 79 #[.pointer (some ⟨q, 0, none⟩)] [LruAt q (sl ((k, w) :: R))] (fun _ : Unit => .tuple #[.int .u32 (k : Nat), .int .i64 0]) (fun _ => [LruAt q (sl ((k, w) :: R))])) := ⟨fun q => by
      have h := lr_oldest.out q (sl ((k, w) :: R))
      rw [if_neg (by rw [sl_cons]; simp)] at h
      have e : (sl ((k, w) :: R)).headD 0 = k := by rw [sl_cons]; rfl
      rwa [e] at h⟩
    have hin : InS (P ++ T.take i) ((k, w) :: R) k true := ⟨decide_eq_true (.inr (by rw [sl_cons]; simp))⟩
    have hput : PutTo 0 (P ++ T.take i) R k w (P ++ T.take (i + 1)) R := ⟨.inl ⟨rfl, by rw [hR3, List.append_assoc], rfl⟩, nP, nR⟩
    repeat' (first | ((fail_if_success (refine atCall 74 ?_)); refine stw ?_) | refine And.intro ?_ ?_ | (intro e; exfalso; omega) | (intro e; subst e) | intro _)
    refine TL.ent (en2 (SegX.shut iv cm)) ?_
    repeat' (first | ((fail_if_success (refine atCall 75 ?_)); refine stw ?_) | refine And.intro ?_ ?_ | (intro e; exfalso; omega) | (intro e; subst e) | intro _)
    rw [rm_none nP, rm_head nR]
    repeat' (first | refine stw ?_ | refine And.intro ?_ ?_ | (intro e; exfalso; omega) | (intro e; subst e) | intro _)
    rename_i _ a2 c2
    have e1 : sl (T.take (i + 1)) = sl (T.take i) ++ [k] := by rw [hR3, sl_append, sl_one]
    rw [← u32s_snocS, ← e1, ← hR2]
    exact again hK ⟨(i + 1, a2, c2), by omega⟩
  · have hsp := sg_needed b p (P ++ T.take i) (T.drop i) L false (decide_eq_false (fun h => hc (hn.1 h)))
    obtain rfl : i = demN L T := by omega
    repeat' (first | refine stw ?_ | refine And.intro ?_ ?_ | (intro e; exfalso; omega) | (intro e; subst e) | intro _)
    refine callV hsp ?_
    repeat' (first | refine stw ?_ | refine And.intro ?_ ?_ | (intro e; exfalso; omega) | (intro e; subst e) | intro _)
    refine frz a ?_
    exact rt1 (a, c) rfl⟩
end Go.Proofs.YtdpiglociolagaaGreat

/- segment, walked: the calls. -/
namespace Go.Proofs.YtdpiglociolagaaGreat
open Go.Lk Go.Sl Go.Lr Go.Sg
attribute [local irreducible] TK TL TC Th Bk Nx fnPost WA TQ OpQ OpN SpecH Rd Ent IterH RoundH Rb Rp fnPostM
attribute [local irreducible] Fld.addE Fld.addF Fld.befE Fld.befF Fld.inE Fld.remF Fld.first Fld.last Fld.next Fld.prev Fld.ofR Fld.listOf Fld.joinE Fld.joinF renE renG Fld.at Fld.set Fld.place
attribute [local irreducible] Lr.addL Lr.addE Lr.useL Lr.remE Sg.sm Sg.sl Sg.rm Sg.demN
theorem chk_yes {k : Nat} {z : Int} (h : fair k z) : Chk k z 0 := ⟨if_pos h⟩
theorem chk_no {k : Nat} {z : Int} (h : ¬ fair k z) : Chk k z 2 := ⟨if_neg h⟩
set_option maxHeartbeats 4000000 in
instance sg_add : Known Tryz.prog 81 (∀ (p : Nat) (P T : List It) (L : Int) (xk : Int) (k : Nat) [NatI xk k] (z : Int), SpecH Tryz.prog 81 #[.pointer (some ⟨p, 0, none⟩), .int .u32 xk, .int .i64 z] [SegAt p P T L] (fun _ : Unit => .int .i64 (Sg.addE (⟨P, T, L⟩ : St) k z)) (fun _ => [SegAt p (Sg.addS (⟨P, T, L⟩ : St) k z).P (Sg.addS (⟨P, T, L⟩ : St) k z).T L])) := ⟨fun p P T L xk k _ z => by
  obtain rfl : xk = (k : Int) := NatI.out
  refine spec_of Tryz.func81 rfl Tryz.ntmps81 rfl [(0, _), (1, _), (2, _)] rfl ?_; intro base F l0 hl0; (try simp only [List.cons_append] at hl0); (try simp only [List.nil_append] at hl0); subst hl0
  refine SegAt.openC fun st => ?_
  refine SegX.factsC fun iv0 hP hT => ?_
  by_cases hf : fair k z
  · have hc := chk_yes hf
    obtain ⟨hk, hz1, hz2⟩ := hf
    obtain ⟨c, rfl⟩ : ∃ c : Nat, z = c := ⟨z.toNat, by omega⟩
    by_cases hin : isIn (⟨P, T, L⟩ : St) k
    · rw [show Sg.addE (⟨P, T, L⟩ : St) k c = 11 by unfold Sg.addE; rw [if_neg (fun h => h ⟨hk, hz1, hz2⟩), if_pos hin], show Sg.addS (⟨P, T, L⟩ : St) k c = (⟨P, T, L⟩ : St) by unfold Sg.addS; rw [if_neg (fun h => h.2 hin)]]
      repeat' (first | refine stw ?_ | refine And.intro ?_ ?_ | (intro e; exfalso; omega) | (intro e; subst e) | intro _)
      refine SegX.openL fun l0 l1 m kv iv cm => ?_
      rcases cm.case k with ⟨hm, np, nt⟩ | ⟨w, hm, hw⟩
      · exact absurd hin (fun h => h.elim np nt)
      · repeat' (first | refine stw ?_ | refine And.intro ?_ ?_ | (intro e; exfalso; omega) | (intro e; subst e) | intro _)
        exact rt1 () rfl (he := (en2 (SegX.shut iv cm)).trans (en2 (SegAt.shut st)))
    · have nP : k ∉ sl P := fun h => hin (.inl h)
      have nT : k ∉ sl T := fun h => hin (.inr h)
      rw [show Sg.addE (⟨P, T, L⟩ : St) k c = 0 by unfold Sg.addE; rw [if_neg (fun h => h ⟨hk, hz1, hz2⟩), if_neg hin], show Sg.addS (⟨P, T, L⟩ : St) k c = ⟨P ++ [(k, c)], T, L⟩ by unfold Sg.addS; rw [if_pos ⟨⟨hk, hz1, hz2⟩, hin⟩]; rfl]
      have hput : PutTo 0 P T k c (P ++ [(k, c)]) T := ⟨.inl ⟨rfl, rfl, rfl⟩, nP, nT⟩
      have st2 : Still ⟨P ++ [(k, c)], T, L⟩ := st
      repeat' (first | refine stw ?_ | refine And.intro ?_ ?_ | (intro e; exfalso; omega) | (intro e; subst e) | intro _)
      refine SegX.openL fun l0 l1 m kv iv cm => ?_
      have hm := cm.none_iff.2 ⟨nP, nT⟩
      repeat' (first | ((fail_if_success (refine atCall 75 ?_)); refine stw ?_) | refine And.intro ?_ ?_ | (intro e; exfalso; omega) | (intro e; subst e) | intro _)
      refine TL.ent (en2 (SegX.shut iv cm)) ?_
      repeat' (first | refine stw ?_ | refine And.intro ?_ ?_ | (intro e; exfalso; omega) | (intro e; subst e) | intro _)
      exact rt1 () rfl (he := en2 (SegAt.shut st2))
  · have hc := chk_no hf
    rw [show Sg.addE (⟨P, T, L⟩ : St) k z = 2 by unfold Sg.addE; rw [if_pos hf], show Sg.addS (⟨P, T, L⟩ : St) k z = (⟨P, T, L⟩ : St) by unfold Sg.addS; rw [if_neg (fun h => hf h.1)]]
    repeat' (first | refine stw ?_ | refine And.intro ?_ ?_ | (intro e; exfalso; omega) | (intro e; subst e) | intro _)
    exact rt1 () rfl (he := en2 (SegAt.shut st))⟩
set_option maxHeartbeats 4000000 in
instance sg_remove : Known Tryz.prog 39 (∀ (p : Nat) (P T : List It) (L : Int) (xk : Int) (k : Nat) [NatI xk k], SpecH Tryz.prog 39 #[.pointer (some ⟨p, 0, none⟩), .int .u32 xk] [SegAt p P T L] (fun _ : Unit => .int .i64 (Sg.remE (⟨P, T, L⟩ : St) k)) (fun _ => [SegAt p (remS (⟨P, T, L⟩ : St) k).P (remS (⟨P, T, L⟩ : St) k).T L])) := ⟨fun p P T L xk k _ => by
  obtain rfl : xk = (k : Int) := NatI.out
  refine spec_of Tryz.func39 rfl Tryz.ntmps39 rfl [(0, _), (1, _)] rfl ?_; intro base F l0 hl0; (try simp only [List.cons_append] at hl0); (try simp only [List.nil_append] at hl0); subst hl0
  refine SegAt.openC fun st => ?_
  refine SegX.factsC fun iv0 hP hT => ?_
  obtain ⟨n1, n2, n3⟩ := iv0.parts
  have st2 := rm_still (k := k) st n2
  rw [show remS (⟨P, T, L⟩ : St) k = ⟨rm P k, rm T k, L⟩ from rfl]
  by_cases hf : k < 4194304
  · have hc : Chk k 0 0 := chk_yes ⟨hf, by omega, by omega⟩
    by_cases hin : isIn (⟨P, T, L⟩ : St) k
    · have hi : InS P T k true := ⟨decide_eq_true hin⟩
      rw [show Sg.remE (⟨P, T, L⟩ : St) k = 0 by unfold Sg.remE; rw [if_neg (by omega), if_pos hin]]
      repeat' (first | refine stw ?_ | refine And.intro ?_ ?_ | (intro e; exfalso; omega) | (intro e; subst e) | intro _)
      exact rt1 () rfl (he := en2 (SegAt.shut st2))
    · have hi : InS P T k false := ⟨decide_eq_false hin⟩
      rw [show Sg.remE (⟨P, T, L⟩ : St) k = 9 by unfold Sg.remE; rw [if_neg (by omega), if_neg hin]]
      repeat' (first | refine stw ?_ | refine And.intro ?_ ?_ | (intro e; exfalso; omega) | (intro e; subst e) | intro _)
      exact rt1 () rfl (he := en2 (SegAt.shut st2))
  · have hc : Chk k 0 2 := chk_no fun h => hf h.1
    rw [rm_none (fun h => hf (iv0.pslot k h)), rm_none (fun h => hf (iv0.tslot k h))]
    rw [show Sg.remE (⟨P, T, L⟩ : St) k = 2 by unfold Sg.remE; rw [if_pos (by omega)]]
    repeat' (first | refine stw ?_ | refine And.intro ?_ ?_ | (intro e; exfalso; omega) | (intro e; subst e) | intro _)
    exact rt1 () rfl (he := en2 (SegAt.shut st))⟩
set_option maxHeartbeats 8000000 in
instance sg_use : Known Tryz.prog 32 (∀ (p : Nat) (P T : List It) (L : Int) (xk : Int) (k : Nat) [NatI xk k] (z : Int), SpecH Tryz.prog 32 #[.pointer (some ⟨p, 0, none⟩), .int .u32 xk, .int .i64 z] [SegAt p P T L] (fun q : Option Addr × Nat => .tuple #[.slice q.1 (Sg.useG (⟨P, T, L⟩ : St) k z).length q.2, .int .i64 (Sg.useE (⟨P, T, L⟩ : St) k z)]) (fun q => [SegAt p (Sg.useS (⟨P, T, L⟩ : St) k z).P (Sg.useS (⟨P, T, L⟩ : St) k z).T L, RoS 1 q.1 (Sg.useG (⟨P, T, L⟩ : St) k z).length q.2 (u32s (Sg.useG (⟨P, T, L⟩ : St) k z))])) := ⟨fun p P T L xk k _ z => by
  obtain rfl : xk = (k : Int) := NatI.out
  refine spec_of Tryz.func32 rfl Tryz.ntmps32 rfl [(0, _), (1, _), (2, _)] rfl ?_; intro base F l0 hl0; (try simp only [List.cons_append] at hl0); (try simp only [List.nil_append] at hl0); subst hl0
  refine SegAt.openC fun st => ?_
  refine SegX.factsC fun iv0 hP hT => ?_
  by_cases hf : fair k z
  · have hc := chk_yes hf
    have hmid := midS_ok iv0 hf
    obtain ⟨hk, hz1, hz2⟩ := hf
    obtain ⟨c, rfl⟩ : ∃ c : Nat, z = c := ⟨z.toNat, by omega⟩
    by_cases hin : isIn (⟨P, T, L⟩ : St) k
    · have hi : InS P T k true := ⟨decide_eq_true hin⟩
      obtain ⟨q1, q2⟩ := not_rm (k := k) iv0
      obtain ⟨_, st3⟩ := demS_inv hmid
      rw [show Sg.useE (⟨P, T, L⟩ : St) k c = 0 by unfold Sg.useE; rw [if_neg (fun h => h ⟨hk, hz1, hz2⟩), if_pos hin], show Sg.useS (⟨P, T, L⟩ : St) k c = demS (midS (⟨P, T, L⟩ : St) k c) by unfold Sg.useS; rw [if_pos ⟨⟨hk, hz1, hz2⟩, hin⟩], show Sg.useG (⟨P, T, L⟩ : St) k c = demG (midS (⟨P, T, L⟩ : St) k c) by unfold Sg.useG; rw [if_pos ⟨⟨hk, hz1, hz2⟩, hin⟩]]
      have hgl := demG_len (s := midS (⟨P, T, L⟩ : St) k c)
      rw [hgl]
      by_cases hL : L = -1
      · have em : midS (⟨P, T, L⟩ : St) k c = ⟨rm P k ++ [(k, c)], rm T k, L⟩ := if_pos hL
        rw [em] at st3 ⊢
        unfold demS at st3 ⊢
        unfold demG
        dsimp only at st3 ⊢
        have hput : PutTo 0 (rm P k) (rm T k) k c (rm P k ++ [(k, c)]) (rm T k) := ⟨.inl ⟨rfl, rfl, rfl⟩, q1, q2⟩
        repeat' (first | refine stw ?_ | refine And.intro ?_ ?_ | (intro e; exfalso; omega) | (intro e; subst e) | intro _)
        refine SegX.openL fun l0 l1 m kv iv cm => ?_
        repeat' (first | ((fail_if_success (refine atCall 75 ?_)); refine stw ?_) | refine And.intro ?_ ?_ | (intro e; exfalso; omega) | (intro e; subst e) | intro _)
        refine TL.ent (en2 (SegX.shut iv cm)) ?_
        repeat' (first | refine stw ?_ | refine And.intro ?_ ?_ | (intro e; exfalso; omega) | (intro e; subst e) | intro _)
        rename_i a1 c1
        exact rt2 (a1, c1) rfl (he := (en2 (SegAt.shut st3)).trans en)
      · have em : midS (⟨P, T, L⟩ : St) k c = ⟨rm P k, rm T k ++ [(k, c)], L⟩ := if_neg hL
        rw [em] at st3 ⊢
        unfold demS at st3 ⊢
        unfold demG
        dsimp only at st3 ⊢
        have hput : PutTo 1 (rm P k) (rm T k) k c (rm P k) (rm T k ++ [(k, c)]) := ⟨.inr ⟨rfl, rfl, rfl⟩, q1, q2⟩
        repeat' (first | refine stw ?_ | refine And.intro ?_ ?_ | (intro e; exfalso; omega) | (intro e; subst e) | intro _)
        refine SegX.openL fun l0 l1 m kv iv cm => ?_
        repeat' (first | ((fail_if_success (refine atCall 75 ?_)); refine stw ?_) | refine And.intro ?_ ?_ | (intro e; exfalso; omega) | (intro e; subst e) | intro _)
        refine TL.ent (en2 (SegX.shut iv cm)) ?_
        repeat' (first | refine stw ?_ | refine And.intro ?_ ?_ | (intro e; exfalso; omega) | (intro e; subst e) | intro _)
        rename_i a1 c1
        exact rt2 (a1, c1) rfl (he := (en2 (SegAt.shut st3)).trans en)
    · have hi : InS P T k false := ⟨decide_eq_false hin⟩
      have np : k ∉ sl P := fun h => hin (.inl h)
      have nt : k ∉ sl T := fun h => hin (.inr h)
      rw [show Sg.useE (⟨P, T, L⟩ : St) k c = 9 by unfold Sg.useE; rw [if_neg (fun h => h ⟨hk, hz1, hz2⟩), if_neg hin], show Sg.useS (⟨P, T, L⟩ : St) k c = (⟨P, T, L⟩ : St) by unfold Sg.useS; rw [if_neg (fun h => hin h.2)], show Sg.useG (⟨P, T, L⟩ : St) k c = [] by unfold Sg.useG; rw [if_neg (fun h => hin h.2)]]
      repeat' (first | refine stw ?_ | refine And.intro ?_ ?_ | (intro e; exfalso; omega) | (intro e; subst e) | intro _)
      rw [rm_none np, rm_none nt]
      exact rt2 (none, 0) rfl (he := (en2 (SegAt.shut st)).trans en)
  · have hc := chk_no hf
    rw [show Sg.useE (⟨P, T, L⟩ : St) k z = 2 by unfold Sg.useE; rw [if_pos hf], show Sg.useS (⟨P, T, L⟩ : St) k z = (⟨P, T, L⟩ : St) by unfold Sg.useS; rw [if_neg (fun h => hf h.1)], show Sg.useG (⟨P, T, L⟩ : St) k z = [] by unfold Sg.useG; rw [if_neg (fun h => hf h.1)]]
    repeat' (first | refine stw ?_ | refine And.intro ?_ ?_ | (intro e; exfalso; omega) | (intro e; subst e) | intro _)
    exact rt2 (none, 0) rfl (he := (en2 (SegAt.shut st)).trans en)⟩
end Go.Proofs.YtdpiglociolagaaGreat

/- segment, walked: questions. -/
namespace Go.Sg
open Go.Sl
structure ListG (g : Int) (P T X : List It) : Prop where
  out : (g = 0 ∧ X = P) ∨ (g = 1 ∧ X = T) ∨ ((g < 0 ∨ 1 < g) ∧ X = [])
abbrev wrow (X : List It) (i : Nat) : List Value := [.int .u32 ((X.getD i (0, 0)).1 : Nat), .int .i64 ((X.getD i (0, 0)).2 : Nat)]
instance (X : List It) : Width (wrow X) 2 := ⟨fun _ => rfl⟩
instance (X : List It) (a : Nat) : PlC (wrow X a) := by dsimp only [wrow]; infer_instance
abbrev wc (X : List It) : List Value := rows X.length (wrow X)
theorem wc_eq {X : List It} : wc X = X.flatMap fun x => [.int .u32 (x.1 : Nat), .int .i64 (x.2 : Nat)] := by
  unfold wc rows
  rw [List.flatMap_def, List.flatMap_def]
  congr 1
  refine List.ext_getElem (by simp) fun j h1 h2 => ?_
  simp only [List.length_map, List.length_range] at h1
  simp only [List.getElem_map, List.getElem_range, wrow]
  rw [List.getD_eq_getElem?_getD, List.getElem?_eq_getElem h1]; rfl
theorem wc_snoc {X : List It} {x : It} : wc (X ++ [x]) = wc X ++ [.int .u32 (x.1 : Nat), .int .i64 (x.2 : Nat)] := by
  rw [wc_eq, wc_eq, List.flatMap_append]; rfl
end Go.Sg
namespace Go.Proofs.YtdpiglociolagaaGreat
open Go.Lk Go.Sl Go.Lr Go.Sg
attribute [local irreducible] TK TL TC Th Bk Nx fnPost WA TQ OpQ OpN SpecH Rd Ent IterH RoundH Rb Rp fnPostM
attribute [local irreducible] Fld.addE Fld.addF Fld.befE Fld.befF Fld.inE Fld.remF Fld.first Fld.last Fld.next Fld.prev Fld.ofR Fld.listOf Fld.joinE Fld.joinF renE renG Fld.at Fld.set Fld.place
attribute [local irreducible] Lr.addL Lr.addE Lr.useL Lr.remE Sg.sm Sg.sl Sg.rm Sg.demN
structure HasG (g : Int) (b : Bool) : Prop where
  out : decide (0 ≤ g ∧ g ≤ 1) = b
instance sg_has : Known Tryz.prog 106 (∀ (p : Nat) (P T : List It) (L g : Int) (b : Bool), HasG g b → SpecH Tryz.prog 106 #[.pointer (some ⟨p, 0, none⟩), .int .i64 g] [SegX p P T L] (fun _ : Unit => .bool b) (fun _ => [SegX p P T L])) := ⟨fun p P T L g b hb => by
  have hb := hb.out
  have hc : Chk 0 0 0 := ⟨rfl⟩
  refine spec_of Tryz.func106 rfl Tryz.ntmps106 rfl [(0, _), (1, _)] rfl ?_; intro base F l0 hl0; (try simp only [List.cons_append] at hl0); (try simp only [List.nil_append] at hl0); subst hl0
  by_cases h : 0 ≤ g ∧ g ≤ 1
  · rw [decide_eq_true h] at hb
    subst hb
    obtain ⟨h1, h2⟩ := h
    repeat' (first | refine stw ?_ | refine And.intro ?_ ?_ | (intro e; exfalso; omega) | (intro e; subst e) | intro _)
    exact rt1 () rfl
  · rw [decide_eq_false h] at hb
    subst hb
    by_cases h1 : 0 ≤ g
    · have h2 : ¬ g ≤ 1 := fun x => h ⟨h1, x⟩
      clear h
      repeat' (first | refine stw ?_ | refine And.intro ?_ ?_ | (intro e; exfalso; omega) | (intro e; subst e) | intro _)
      exact rt1 () rfl
    · clear h
      repeat' (first | refine stw ?_ | refine And.intro ?_ ?_ | (intro e; exfalso; omega) | (intro e; subst e) | intro _)
      exact rt1 () rfl⟩
instance sg_len : Known Tryz.prog 122 (∀ (p : Nat) (P T : List It) (L g : Int) (X : List It), ListG g P T X → SpecH Tryz.prog 122 #[.pointer (some ⟨p, 0, none⟩), .int .i64 g] [SegAt p P T L] (fun _ : Unit => .int .i64 (X.length : Nat)) (fun _ => [SegAt p P T L])) := ⟨fun p P T L g X hg => by
  refine spec_of Tryz.func122 rfl Tryz.ntmps122 rfl [(0, _), (1, _)] rfl ?_; intro base F l0 hl0; (try simp only [List.cons_append] at hl0); (try simp only [List.nil_append] at hl0); subst hl0
  refine SegAt.openC fun st => ?_
  have e := sl_len (l := X)
  rcases hg.out with ⟨rfl, rfl⟩ | ⟨rfl, rfl⟩ | ⟨h, rfl⟩
  · have hb : HasG 0 true := ⟨rfl⟩
    rw [← e]
    repeat' (first | refine stw ?_ | refine And.intro ?_ ?_ | (intro e; exfalso; omega) | (intro e; subst e) | intro _)
    refine SegX.openL fun l0 l1 m kv iv cm => ?_
    repeat' (first | refine stw ?_ | refine And.intro ?_ ?_ | (intro e; exfalso; omega) | (intro e; subst e) | intro _)
    exact rt1 () rfl (he := (en2 (SegX.shut iv cm)).trans (en2 (SegAt.shut st)))
  · have hb : HasG 1 true := ⟨rfl⟩
    rw [← e]
    repeat' (first | refine stw ?_ | refine And.intro ?_ ?_ | (intro e; exfalso; omega) | (intro e; subst e) | intro _)
    refine SegX.openL fun l0 l1 m kv iv cm => ?_
    repeat' (first | refine stw ?_ | refine And.intro ?_ ?_ | (intro e; exfalso; omega) | (intro e; subst e) | intro _)
    exact rt1 () rfl (he := (en2 (SegX.shut iv cm)).trans (en2 (SegAt.shut st)))
  · have hb : HasG g false := ⟨decide_eq_false (fun x => by omega)⟩
    repeat' (first | refine stw ?_ | refine And.intro ?_ ?_ | (intro e; exfalso; omega) | (intro e; subst e) | intro _)
    exact rt1 () rfl (he := en2 (SegAt.shut st))⟩
end Go.Proofs.YtdpiglociolagaaGreat

/- segment, walked: where a slot is; the slots of a segment. -/
namespace Go.Sg
open Go.Sl
structure OfR (P T : List It) (k g c : Nat) (e : Int) : Prop where
  out : (e = 2 ∧ 4194304 ≤ k ∧ g = 0 ∧ c = 0) ∨ (e = 9 ∧ k < 4194304 ∧ (k ∉ sl P ∧ k ∉ sl T) ∧ g = 0 ∧ c = 0) ∨ (e = 0 ∧ k < 4194304 ∧ ((g = 1 ∧ (k, c) ∈ T) ∨ (g = 0 ∧ (k, c) ∈ P)))
theorem sl_getD {X : List It} {i : Nat} (h : i < X.length) : (sl X).getD i 0 = (X.getD i (0, 0)).1 := by
  unfold sl
  rw [List.getD_eq_getElem?_getD, List.getElem?_map, List.getD_eq_getElem?_getD, List.getElem?_eq_getElem h]; rfl
theorem getD_inS {X : List It} {i : Nat} (h : i < X.length) : ((X.getD i (0, 0)).1, (X.getD i (0, 0)).2) ∈ X := by
  rw [List.getD_eq_getElem?_getD, List.getElem?_eq_getElem h]; exact List.getElem_mem h
theorem take_snocS {X : List It} {i : Nat} (h : i < X.length) : X.take (i + 1) = X.take i ++ [((X.getD i (0, 0)).1, (X.getD i (0, 0)).2)] := by
  rw [List.take_succ_eq_append_getElem h, List.getD_eq_getElem?_getD, List.getElem?_eq_getElem h]; rfl
end Go.Sg
namespace Go.Proofs.YtdpiglociolagaaGreat
open Go.Lk Go.Sl Go.Lr Go.Sg
attribute [local irreducible] TK TL TC Th Bk Nx fnPost WA TQ OpQ OpN SpecH Rd Ent IterH RoundH Rb Rp fnPostM
attribute [local irreducible] Fld.addE Fld.addF Fld.befE Fld.befF Fld.inE Fld.remF Fld.first Fld.last Fld.next Fld.prev Fld.ofR Fld.listOf Fld.joinE Fld.joinF renE renG Fld.at Fld.set Fld.place
attribute [local irreducible] Lr.addL Lr.addE Lr.useL Lr.remE Sg.sm Sg.sl Sg.rm Sg.demN
set_option maxHeartbeats 8000000 in
instance sg_list : Known Tryz.prog 64 (∀ (p : Nat) (P T : List It) (L g : Int) (X : List It), ListG g P T X → SpecH Tryz.prog 64 #[.pointer (some ⟨p, 0, none⟩), .int .i64 g] [SegAt p P T L] (fun q : Option Addr × Nat => .slice q.1 X.length q.2) (fun q => [SegAt p P T L, RoS 2 q.1 X.length q.2 (wc X)])) := ⟨fun p P T L g X hg => by
  refine spec_of_m Tryz.func64 rfl Tryz.ntmps64 rfl [(0, _), (1, _)] rfl ?_; intro base F l0 hl0; (try simp only [List.cons_append] at hl0); (try simp only [List.nil_append] at hl0); subst hl0
  refine SegAt.openC fun st => ?_
  rcases hg.out with ⟨rfl, rfl⟩ | ⟨rfl, rfl⟩ | ⟨h, rfl⟩
  · have hb : HasG 0 true := ⟨rfl⟩
    repeat' (first | refine stw ?_ | refine And.intro ?_ ?_ | (intro e; exfalso; omega) | (intro e; subst e) | intro _)
    refine SegX.openL fun l0 l1 m kv iv cm => ?_
    repeat' (first | refine stw ?_ | refine And.intro ?_ ?_ | (intro e; exfalso; omega) | (intro e; subst e) | intro _)
    rename_i b2 bo c2
    have hXl : X.length ≤ 4194304 := by
      obtain ⟨n1, n2, n3⟩ := iv.parts
      rw [← sl_len]
      exact nodup_bound n1 iv.pslot
    have hx : (u32a (sl X)).length = X.length := by simp [u32a, sl_len]
    refine tc_rangeFunc (xs := u32a (sl X)) (own := [SeqC c2 (sl X)]) (R := [LruAt l0 (sl X), LruAt l1 (sl T), F]) (fun i => Exs (ι := Option Addr × Nat) fun q => [obj bo 126 [.slice q.1 i q.2], Vec 128 2 q.1 i q.2 (wc (X.take i)), obj b2 70 [.pointer (some ⟨p, 0, none⟩)], obj p 142 [.pointer (some ⟨l0, 0, none⟩), .pointer (some ⟨l1, 0, none⟩), .int .i64 (sm X : Nat), .int .i64 (sm T : Nat), .map (some m), .int .i64 L], MapA .u32 (fun z : Int => .int .i64 z) m kv]) (fun _ _ => fact False) (seq_iter c2 _) rfl (by decide) (by intro a ha; simp only [u32a, List.mem_map] at ha; obtain ⟨_, _, rfl⟩ := ha; rfl) ?_ ?_ ?_ ?_
    · refine Ent.trans ?_ (Ent.exs (none, 0) (Ent.refl _))
      show Ent _ [obj bo 126 [.slice none 0 0], Vec 128 2 none 0 0 [], obj b2 70 [.pointer (some ⟨p, 0, none⟩)], obj p 142 [.pointer (some ⟨l0, 0, none⟩), .pointer (some ⟨l1, 0, none⟩), .int .i64 (sm X : Nat), .int .i64 (sm T : Nat), .map (some m), .int .i64 L], MapA .u32 (fun z : Int => .int .i64 z) m kv, SeqC c2 (sl X), LruAt l0 (sl X), LruAt l1 (sl T), F]
      exact en
    · intro lp rec i a hst hpe ha base F
      have hi : i < X.length := by rw [← hx]; exact (List.getElem?_eq_some_iff.1 ha).1
      obtain rfl : a = [.int .u32 ((sl X).getD i 0 : Nat)] := by rw [u32a_get (by rw [sl_len]; exact hi)] at ha; exact (Option.some.inj ha).symm
      rw [sl_getD hi]
      have hin := getD_inS hi
      have hm := cm.yes (.inl hin)
      obtain ⟨hk, hw⟩ := iv.lt _ (.inl hin)
      dsimp only at hk hw
      have hsn := take_snocS hi
      generalize (X.getD i (0, 0)).1 = k at hm hk hsn ⊢
      generalize (X.getD i (0, 0)).2 = w at hm hw hsn
      refine TC.exs (f := fun q : Option Addr × Nat => [obj bo 126 [.slice q.1 i q.2], Vec 128 2 q.1 i q.2 (wc (X.take i)), obj b2 70 [.pointer (some ⟨p, 0, none⟩)], obj p 142 [.pointer (some ⟨l0, 0, none⟩), .pointer (some ⟨l1, 0, none⟩), .int .i64 (sm X : Nat), .int .i64 (sm T : Nat), .map (some m), .int .i64 L], MapA .u32 (fun z : Int => .int .i64 z) m kv]) (by (repeat (first | (with_reducible exact Rem.here _ _) | (with_reducible apply Rem.there) | fail)); done) fun ⟨q1, q2⟩ => ?_
      simp only [List.cons_append, List.nil_append, putsE]
      repeat' (first | refine stw ?_ | refine And.intro ?_ ?_ | (intro e; exfalso; omega) | (intro e; subst e) | intro _)
      refine rb hst ?_
      repeat' (first | ((fail_if_success (refine atD ?_)); refine stw ?_) | refine And.intro ?_ ?_ | (intro e; exfalso; omega) | (intro e; subst e) | intro _)
      refine drx [obj bo 126 [.slice q1 i q2], Vec 128 2 q1 i q2 (wc (X.take i))] ?_
      refine tks [1, 2, 6, 3, 4, 5] 6 ?_; repeat' (first | refine stw ?_ | refine And.intro ?_ ?_ | (intro e; exfalso; omega) | (intro e; subst e) | intro _)
      refine hvB 0 7 (fun _ => ?_) (fun x7 => ?_)
      · refine hvr 7 ?_
        refine tks [8] 3 ?_; repeat' (first | refine stw ?_ | refine And.intro ?_ ?_ | (intro e; exfalso; omega) | (intro e; subst e) | intro _)
        refine hv 9 (fun x9 => ?_) (hq := by (try simp only [List.cons_append, List.nil_append]); ((apply opn_buildSliceN; (focus ((first | exact want_none rfl | exact want_yes rfl rfl rfl rfl rfl | fail))); (focus ((repeat (first | exact Evs.nil | (apply Evs.cons; exact rfl) | fail)); done)); exact rfl; (focus ((repeat (first | exact CsL.nil | (apply CsL.cons; (focus ((first | exact IsCells.one rfl | exact IsCells.agg _ rfl | fail))); exact rfl) | fail)); done)); exact rfl; exact rfl; (focus (simp only [List.append_nil]; exact rfl)))))
        refine hv 10 fun x10 => ?_
        refine hv0 11 fun x11 => ?_
        repeat' (first | refine stw ?_ | refine And.intro ?_ ?_ | (intro e; exfalso; omega) | (intro e; subst e) | intro _)
        refine rp hst hpe ?_
        refine Ent.trans ?_ (b := Exs (ι := Option Addr × Nat) (fun q => [obj bo 126 [.slice q.1 (i + 1) q.2], Vec 128 2 q.1 (i + 1) q.2 (wc (X.take (i + 1))), obj b2 70 [.pointer (some ⟨p, 0, none⟩)], obj p 142 [.pointer (some ⟨l0, 0, none⟩), .pointer (some ⟨l1, 0, none⟩), .int .i64 (sm X : Nat), .int .i64 (sm T : Nat), .map (some m), .int .i64 L], MapA .u32 (fun z : Int => .int .i64 z) m kv]) :: blk lp (.loop rec) :: [F]) en
        refine Ent.exs (x10.1, x10.2) ?_
        rw [hsn, wc_snoc]
        exact en
      · refine tks [8] 4 ?_; repeat' (first | refine stw ?_ | refine And.intro ?_ ?_ | (intro e; exfalso; omega) | (intro e; subst e) | intro _)
        refine hvq 0 9 (fun x9 => ?_) (hq2 := by (try simp only [List.cons_append, List.nil_append]); ((apply opn_buildSliceN; (focus ((first | exact want_none rfl | exact want_yes rfl rfl rfl rfl rfl | fail))); (focus ((repeat (first | exact Evs.nil | (apply Evs.cons; exact rfl) | fail)); done)); exact rfl; (focus ((repeat (first | exact CsL.nil | (apply CsL.cons; (focus ((first | exact IsCells.one rfl | exact IsCells.agg _ rfl | fail))); exact rfl) | fail)); done)); exact rfl; exact rfl; (focus (simp only [List.append_nil]; exact rfl))))) (hq3 := by (try simp only [List.cons_append, List.nil_append]); ((apply opn_buildSliceN; (focus ((first | exact want_none rfl | exact want_yes rfl rfl rfl rfl rfl | fail))); (focus ((repeat (first | exact Evs.nil | (apply Evs.cons; exact rfl) | fail)); done)); all_goals (first | exact rfl | (focus ((repeat (first | exact CsL.nil | (apply CsL.cons; (focus ((first | exact IsCells.one rfl | exact IsCells.agg _ rfl | fail))); exact rfl) | fail)); done)) | (simp only [List.cons_append, List.nil_append, List.append_nil]; exact rfl)))))
        refine hv 10 fun x10 => ?_
        refine hv0 11 fun x11 => ?_
        repeat' (first | refine stw ?_ | refine And.intro ?_ ?_ | (intro e; exfalso; omega) | (intro e; subst e) | intro _)
        refine rp hst hpe ?_
        refine Ent.trans ?_ (b := Exs (ι := Option Addr × Nat) (fun q => [obj bo 126 [.slice q.1 (i + 1) q.2], Vec 128 2 q.1 (i + 1) q.2 (wc (X.take (i + 1))), obj b2 70 [.pointer (some ⟨p, 0, none⟩)], obj p 142 [.pointer (some ⟨l0, 0, none⟩), .pointer (some ⟨l1, 0, none⟩), .int .i64 (sm X : Nat), .int .i64 (sm T : Nat), .map (some m), .int .i64 L], MapA .u32 (fun z : Int => .int .i64 z) m kv]) :: blk lp (.loop rec) :: [F]) en
        refine Ent.exs (x10.1, x10.2) ?_
        rw [hsn, wc_snoc]
        exact en
    · intro rb
      rw [hx, List.take_length]
      simp only [List.cons_append, List.nil_append]
      refine TK.exs (f := fun q : Option Addr × Nat => [obj bo 126 [.slice q.1 X.length q.2], Vec 128 2 q.1 X.length q.2 (wc X), obj b2 70 [.pointer (some ⟨p, 0, none⟩)], obj p 142 [.pointer (some ⟨l0, 0, none⟩), .pointer (some ⟨l1, 0, none⟩), .int .i64 (sm X : Nat), .int .i64 (sm T : Nat), .map (some m), .int .i64 L], MapA .u32 (fun z : Int => .int .i64 z) m kv]) (by (repeat (first | (with_reducible exact Rem.here _ _) | (with_reducible apply Rem.there) | fail)); done) fun ⟨q1, q2⟩ => ?_
      simp only [List.cons_append, List.nil_append]
      repeat' (first | refine stw ?_ | refine And.intro ?_ ?_ | (intro e; exfalso; omega) | (intro e; subst e) | intro _)
      refine frz q1 ?_
      exact rm1 (q1, q2) rfl (he := ((en2 (SegX.shut iv cm)).trans (en2 (SegAt.shut st))).trans en)
    · intro rb i c
      exact tc_factF
  · have hb : HasG 1 true := ⟨rfl⟩
    repeat' (first | refine stw ?_ | refine And.intro ?_ ?_ | (intro e; exfalso; omega) | (intro e; subst e) | intro _)
    refine SegX.openL fun l0 l1 m kv iv cm => ?_
    repeat' (first | refine stw ?_ | refine And.intro ?_ ?_ | (intro e; exfalso; omega) | (intro e; subst e) | intro _)
    rename_i b2 bo c2
    have hXl : X.length ≤ 4194304 := by
      obtain ⟨n1, n2, n3⟩ := iv.parts
      rw [← sl_len]
      exact nodup_bound n2 iv.tslot
    have hx : (u32a (sl X)).length = X.length := by simp [u32a, sl_len]
    refine tc_rangeFunc (xs := u32a (sl X)) (own := [SeqC c2 (sl X)]) (R := [LruAt l1 (sl X), LruAt l0 (sl P), F]) (fun i => Exs (ι := Option Addr × Nat) fun q => [obj bo 126 [.slice q.1 i q.2], Vec 128 2 q.1 i q.2 (wc (X.take i)), obj b2 70 [.pointer (some ⟨p, 0, none⟩)], obj p 142 [.pointer (some ⟨l0, 0, none⟩), .pointer (some ⟨l1, 0, none⟩), .int .i64 (sm P : Nat), .int .i64 (sm X : Nat), .map (some m), .int .i64 L], MapA .u32 (fun z : Int => .int .i64 z) m kv]) (fun _ _ => fact False) (seq_iter c2 _) rfl (by decide) (by intro a ha; simp only [u32a, List.mem_map] at ha; obtain ⟨_, _, rfl⟩ := ha; rfl) ?_ ?_ ?_ ?_
    · refine Ent.trans ?_ (Ent.exs (none, 0) (Ent.refl _))
      show Ent _ [obj bo 126 [.slice none 0 0], Vec 128 2 none 0 0 [], obj b2 70 [.pointer (some ⟨p, 0, none⟩)], obj p 142 [.pointer (some ⟨l0, 0, none⟩), .pointer (some ⟨l1, 0, none⟩), .int .i64 (sm P : Nat), .int .i64 (sm X : Nat), .map (some m), .int .i64 L], MapA .u32 (fun z : Int => .int .i64 z) m kv, SeqC c2 (sl X), LruAt l1 (sl X), LruAt l0 (sl P), F]
      exact en
    · intro lp rec i a hst hpe ha base F
      have hi : i < X.length := by rw [← hx]; exact (List.getElem?_eq_some_iff.1 ha).1
      obtain rfl : a = [.int .u32 ((sl X).getD i 0 : Nat)] := by rw [u32a_get (by rw [sl_len]; exact hi)] at ha; exact (Option.some.inj ha).symm
      rw [sl_getD hi]
      have hin := getD_inS hi
      have hm := cm.yes (.inr hin)
      obtain ⟨hk, hw⟩ := iv.lt _ (.inr hin)
      dsimp only at hk hw
      have hsn := take_snocS hi
      generalize (X.getD i (0, 0)).1 = k at hm hk hsn ⊢
      generalize (X.getD i (0, 0)).2 = w at hm hw hsn
      refine TC.exs (f := fun q : Option Addr × Nat => [obj bo 126 [.slice q.1 i q.2], Vec 128 2 q.1 i q.2 (wc (X.take i)), obj b2 70 [.pointer (some ⟨p, 0, none⟩)], obj p 142 [.pointer (some ⟨l0, 0, none⟩), .pointer (some ⟨l1, 0, none⟩), .int .i64 (sm P : Nat), .int .i64 (sm X : Nat), .map (some m), .int .i64 L], MapA .u32 (fun z : Int => .int .i64 z) m kv]) (by (repeat (first | (with_reducible exact Rem.here _ _) | (with_reducible apply Rem.there) | fail)); done) fun ⟨q1, q2⟩ => ?_
      simp only [List.cons_append, List.nil_append, putsE]
      repeat' (first | refine stw ?_ | refine And.intro ?_ ?_ | (intro e; exfalso; omega) | (intro e; subst e) | intro _)
      refine rb hst ?_
      repeat' (first | ((fail_if_success (refine atD ?_)); refine stw ?_) | refine And.intro ?_ ?_ | (intro e; exfalso; omega) | (intro e; subst e) | intro _)
      refine drx [obj bo 126 [.slice q1 i q2], Vec 128 2 q1 i q2 (wc (X.take i))] ?_
      refine tks [1, 2, 6, 3, 4, 5] 6 ?_; repeat' (first | refine stw ?_ | refine And.intro ?_ ?_ | (intro e; exfalso; omega) | (intro e; subst e) | intro _)
      refine hvB 0 7 (fun _ => ?_) (fun x7 => ?_)
      · refine hvr 7 ?_
        refine tks [8] 3 ?_; repeat' (first | refine stw ?_ | refine And.intro ?_ ?_ | (intro e; exfalso; omega) | (intro e; subst e) | intro _)
        refine hv 9 (fun x9 => ?_) (hq := by (try simp only [List.cons_append, List.nil_append]); ((apply opn_buildSliceN; (focus ((first | exact want_none rfl | exact want_yes rfl rfl rfl rfl rfl | fail))); (focus ((repeat (first | exact Evs.nil | (apply Evs.cons; exact rfl) | fail)); done)); exact rfl; (focus ((repeat (first | exact CsL.nil | (apply CsL.cons; (focus ((first | exact IsCells.one rfl | exact IsCells.agg _ rfl | fail))); exact rfl) | fail)); done)); exact rfl; exact rfl; (focus (simp only [List.append_nil]; exact rfl)))))
        refine hv 10 fun x10 => ?_
        refine hv0 11 fun x11 => ?_
        repeat' (first | refine stw ?_ | refine And.intro ?_ ?_ | (intro e; exfalso; omega) | (intro e; subst e) | intro _)
        refine rp hst hpe ?_
        refine Ent.trans ?_ (b := Exs (ι := Option Addr × Nat) (fun q => [obj bo 126 [.slice q.1 (i + 1) q.2], Vec 128 2 q.1 (i + 1) q.2 (wc (X.take (i + 1))), obj b2 70 [.pointer (some ⟨p, 0, none⟩)], obj p 142 [.pointer (some ⟨l0, 0, none⟩), .pointer (some ⟨l1, 0, none⟩), .int .i64 (sm P : Nat), .int .i64 (sm X : Nat), .map (some m), .int .i64 L], MapA .u32 (fun z : Int => .int .i64 z) m kv]) :: blk lp (.loop rec) :: [F]) en
        refine Ent.exs (x10.1, x10.2) ?_
        rw [hsn, wc_snoc]
        exact en
      · refine tks [8] 4 ?_; repeat' (first | refine stw ?_ | refine And.intro ?_ ?_ | (intro e; exfalso; omega) | (intro e; subst e) | intro _)
        refine hvq 0 9 (fun x9 => ?_) (hq2 := by (try simp only [List.cons_append, List.nil_append]); ((apply opn_buildSliceN; (focus ((first | exact want_none rfl | exact want_yes rfl rfl rfl rfl rfl | fail))); (focus ((repeat (first | exact Evs.nil | (apply Evs.cons; exact rfl) | fail)); done)); exact rfl; (focus ((repeat (first | exact CsL.nil | (apply CsL.cons; (focus ((first | exact IsCells.one rfl | exact IsCells.agg _ rfl | fail))); exact rfl) | fail)); done)); exact rfl; exact rfl; (focus (simp only [List.append_nil]; exact rfl))))) (hq3 := by (try simp only [List.cons_append, List.nil_append]); ((apply opn_buildSliceN; (focus ((first | exact want_none rfl | exact want_yes rfl rfl rfl rfl rfl | fail))); (focus ((repeat (first | exact Evs.nil | (apply Evs.cons; exact rfl) | fail)); done)); all_goals (first | exact rfl | (focus ((repeat (first | exact CsL.nil | (apply CsL.cons; (focus ((first | exact IsCells.one rfl | exact IsCells.agg _ rfl | fail))); exact rfl) | fail)); done)) | (simp only [List.cons_append, List.nil_append, List.append_nil]; exact rfl)))))
        refine hv 10 fun x10 => ?_
        refine hv0 11 fun x11 => ?_
        repeat' (first | refine stw ?_ | refine And.intro ?_ ?_ | (intro e; exfalso; omega) | (intro e; subst e) | intro _)
        refine rp hst hpe ?_
        refine Ent.trans ?_ (b := Exs (ι := Option Addr × Nat) (fun q => [obj bo 126 [.slice q.1 (i + 1) q.2], Vec 128 2 q.1 (i + 1) q.2 (wc (X.take (i + 1))), obj b2 70 [.pointer (some ⟨p, 0, none⟩)], obj p 142 [.pointer (some ⟨l0, 0, none⟩), .pointer (some ⟨l1, 0, none⟩), .int .i64 (sm P : Nat), .int .i64 (sm X : Nat), .map (some m), .int .i64 L], MapA .u32 (fun z : Int => .int .i64 z) m kv]) :: blk lp (.loop rec) :: [F]) en
        refine Ent.exs (x10.1, x10.2) ?_
        rw [hsn, wc_snoc]
        exact en
    · intro rb
      rw [hx, List.take_length]
      simp only [List.cons_append, List.nil_append]
      refine TK.exs (f := fun q : Option Addr × Nat => [obj bo 126 [.slice q.1 X.length q.2], Vec 128 2 q.1 X.length q.2 (wc X), obj b2 70 [.pointer (some ⟨p, 0, none⟩)], obj p 142 [.pointer (some ⟨l0, 0, none⟩), .pointer (some ⟨l1, 0, none⟩), .int .i64 (sm P : Nat), .int .i64 (sm X : Nat), .map (some m), .int .i64 L], MapA .u32 (fun z : Int => .int .i64 z) m kv]) (by (repeat (first | (with_reducible exact Rem.here _ _) | (with_reducible apply Rem.there) | fail)); done) fun ⟨q1, q2⟩ => ?_
      simp only [List.cons_append, List.nil_append]
      repeat' (first | refine stw ?_ | refine And.intro ?_ ?_ | (intro e; exfalso; omega) | (intro e; subst e) | intro _)
      refine frz q1 ?_
      exact rm1 (q1, q2) rfl (he := ((en2 (SegX.shut iv cm)).trans (en2 (SegAt.shut st))).trans en)
    · intro rb i c
      exact tc_factF
  · have hb : HasG g false := ⟨decide_eq_false (fun x => by omega)⟩
    repeat' (first | refine stw ?_ | refine And.intro ?_ ?_ | (intro e; exfalso; omega) | (intro e; subst e) | intro _)
    exact rm1 (none, 0) rfl (he := (en2 (SegAt.shut st)).trans en)⟩
end Go.Proofs.YtdpiglociolagaaGreat

/- segment, walked: a copy. -/
namespace Go.Sg
open Go.Sl
structure Cp (kv Tl kv2 : List (Nat × Int)) : Prop where
  nd : (mkeys kv2).Nodup
  sub : ∀ q ∈ Tl, q ∈ kv
  at_ : ∀ k, mget kv2 k = if k ∈ mkeys Tl then none else mget kv k
theorem mget_mem : ∀ {kv : List (Nat × Int)} {k : Nat} {v : Int}, (mkeys kv).Nodup → (k, v) ∈ kv → mget kv k = some v
  | [], _, _, _, h => by cases h
  | (a, b) :: r, k, v, hn, h => by
    have hn' : (a :: mkeys r).Nodup := hn
    rw [List.nodup_cons] at hn'
    show (if a = k then some b else mget r k) = some v
    rcases List.mem_cons.1 h with e | h
    · cases e; rw [if_pos rfl]
    · have : a ≠ k := fun e => hn'.1 (by rw [e]; exact List.mem_map_of_mem (f := (·.1)) h)
      rw [if_neg this]
      exact mget_mem hn'.2 h
theorem Cp.step {kv Tl kv2 : List (Nat × Int)} {k : Nat} {v : Int} (h : Cp kv Tl kv2) (hn : (mkeys kv).Nodup) (hm : (k, v) ∈ Tl) : Cp kv (Tl.filter fun q => q.1 != k) (mput kv2 k v) := ⟨mput_nodup h.nd, fun q hq => h.sub q (List.mem_filter.1 hq).1, fun j => by
  have e : ∀ j, j ∈ mkeys (Tl.filter fun q => q.1 != k) ↔ j ∈ mkeys Tl ∧ j ≠ k := fun j => by
    unfold mkeys
    rw [List.mem_map, List.mem_map]
    constructor
    · rintro ⟨q, hq, rfl⟩
      obtain ⟨h1, h2⟩ := List.mem_filter.1 hq
      exact ⟨⟨q, h1, rfl⟩, by simpa using h2⟩
    · rintro ⟨⟨q, hq, rfl⟩, h2⟩
      exact ⟨q, List.mem_filter.2 ⟨hq, by simpa using h2⟩, rfl⟩
  rw [mget_put, h.at_]
  by_cases hj : j = k
  · subst hj
    rw [if_pos rfl, if_neg (fun x => ((e j).1 x).2 rfl), mget_mem hn (h.sub _ hm)]
  · rw [if_neg hj]
    by_cases h2 : j ∈ mkeys Tl
    · rw [if_pos h2, if_pos ((e j).2 ⟨h2, hj⟩)]
    · rw [if_neg h2, if_neg (fun x => h2 ((e j).1 x).1)]⟩
theorem Cp.done {P T : List It} {kv kv2 : List (Nat × Int)} (h : Cp kv [] kv2) (cm : CM P T kv) : CM P T kv2 := ⟨h.nd, fun k z => by
  rw [h.at_, if_neg (by simp [mkeys])]
  exact cm.2 k z⟩
end Go.Sg
namespace Go.Proofs.YtdpiglociolagaaGreat
open Go.Lk Go.Sl Go.Lr Go.Sg
attribute [local irreducible] TK TL TC Th Bk Nx fnPost WA TQ OpQ OpN SpecH Rd Ent IterH RoundH Rb Rp fnPostM
attribute [local irreducible] Fld.addE Fld.addF Fld.befE Fld.befF Fld.inE Fld.remF Fld.first Fld.last Fld.next Fld.prev Fld.ofR Fld.listOf Fld.joinE Fld.joinF renE renG Fld.at Fld.set Fld.place
attribute [local irreducible] Lr.addL Lr.addE Lr.useL Lr.remE Sg.sm Sg.sl Sg.rm Sg.demN
end Go.Proofs.YtdpiglociolagaaGreat
