/- Counted keys, plainly: the count of a key after requests. -/
import Derived.Test.YtmiblmoppdgnjaaLfTheory4
namespace Go.Lf
open Go.Lk Go.Sl
variable {size age req k n m j : Nat} {l : List It}
theorem cnt_iff (o : Ok size l) : 0 < cntOf l j ↔ j ∈ ks l := by
  constructor
  · intro h
    refine Classical.byContradiction fun h2 => ?_
    rw [cntOf_not h2] at h; omega
  · intro h
    obtain ⟨⟨j', n⟩, hy, rfl⟩ := List.mem_map.1 h
    rw [cntOf_mem o.nd hy]
    exact (o.cnt _ hy).1
theorem cnt_le (o : Ok size l) : cntOf l j ≤ 255 := by
  by_cases h : j ∈ ks l
  · obtain ⟨⟨j', n⟩, hy, rfl⟩ := List.mem_map.1 h
    rw [cntOf_mem o.nd hy]
    exact (o.cnt _ hy).2
  · rw [cntOf_not h]; omega
/-- Two lists with the same counts of a key. -/
theorem cnt_eq {l' : List It} (h : (ks l).Nodup) (h' : (ks l').Nodup) (e : ∀ n, (j, n) ∈ l ↔ (j, n) ∈ l') : cntOf l j = cntOf l' j := by
  by_cases hj : j ∈ ks l
  · obtain ⟨⟨j', n⟩, hy, rfl⟩ := List.mem_map.1 hj
    rw [cntOf_mem h hy, cntOf_mem h' ((e n).1 hy)]
  · have hj' : j ∉ ks l' := fun h2 => by
      obtain ⟨⟨j', n⟩, hy, rfl⟩ := List.mem_map.1 h2
      exact hj (List.mem_map.2 ⟨_, (e n).2 hy, rfl⟩)
    rw [cntOf_not hj, cntOf_not hj']
theorem cnt_ins (o : Ok size l) (hk : k ∉ ks l) (m1 : 1 ≤ m) (m2 : m ≤ 255) (hl : l.length < size) : cntOf (ins l (k, m)) j = if j = k then m else cntOf l j := by
  have o' := o.ins' hk m1 m2 hl
  by_cases e : j = k
  · subst e
    rw [if_pos rfl]
    exact cntOf_mem o'.nd ((mem_ins o.srt).2 (.inl rfl))
  · rw [if_neg e]
    refine cnt_eq o'.nd o.nd fun n => ?_
    rw [mem_ins o.srt]
    constructor
    · rintro (h | h)
      · exact absurd (Prod.mk.inj h).1 e
      · exact h
    · exact .inr
theorem cnt_wo (o : Ok size l) : cntOf (wo l k) j = if j = k then 0 else cntOf l j := by
  by_cases e : j = k
  · subst e; rw [if_pos rfl]; exact cntOf_not Ok.not_wo
  · rw [if_neg e]
    refine cnt_eq o.wo.nd o.nd fun n => ?_
    rw [mem_wo]; simp [e]
theorem cnt_halve (o : Ok size l) : cntOf (halveL l) j = if j ∈ ks l then max 1 (cntOf l j / 2) else 0 := by
  by_cases h : j ∈ ks l
  · rw [if_pos h]
    obtain ⟨⟨j', n⟩, hy, rfl⟩ := List.mem_map.1 h
    rw [cntOf_mem o.nd hy]
    exact cntOf_mem (by rw [halve_ks]; exact o.nd) (List.mem_map.2 ⟨_, hy, rfl⟩)
  · rw [if_neg h]; exact cntOf_not (by rw [halve_ks]; exact h)
/-- A request that makes no key leave. -/
theorem cnt_use (o : Ok size l) (_h1 : 1 ≤ size) (hr : k ∈ ks l ∨ l.length ≠ size) : cntOf (useL size l k) j = if j = k then min 255 (cntOf l k + 1) else cntOf l j := by
  unfold useL
  by_cases hk : k ∈ ks l
  · rw [if_pos hk]
    have h2 := wo_len o.nd hk
    have h3 := o.len
    rw [cnt_ins o.wo Ok.not_wo (by omega) (by omega) (by omega), cnt_wo o]
    by_cases e : j = k
    · rw [if_pos e, if_pos e]
    · rw [if_neg e, if_neg e, if_neg e]
  · have hs : l.length ≠ size := by
      rcases hr with h | h
      · exact absurd h hk
      · exact h
    have h3 := o.len
    rw [if_neg hk, if_neg hs, cnt_ins o hk (by omega) (by omega) (by omega), cntOf_not hk]; rfl
theorem len_use (o : Ok size l) (hr : k ∈ ks l ∨ l.length ≠ size) : (useL size l k).length = if k ∈ ks l then l.length else l.length + 1 := by
  unfold useL
  by_cases hk : k ∈ ks l
  · rw [if_pos hk, if_pos hk, ins_len o.wo.srt]
    exact wo_len o.nd hk
  · have hs : l.length ≠ size := by
      rcases hr with h | h
      · exact absurd h hk
      · exact h
    rw [if_neg hk, if_neg hk, if_neg hs, ins_len o.srt]
/-- The turn of a request that makes no key leave. -/
theorem turn_use (hr : k ∈ ks l ∨ l.length ≠ size) : useB size l k = false ∧ useO size l k = 0 := by
  have : ¬ (k ∉ ks l ∧ l.length = size) := fun h => by
    rcases hr with h2 | h2
    · exact h.1 h2
    · exact h2 h.2
  exact ⟨decide_eq_false this, if_neg this⟩
/-- What a cache holds after requests for one key, then for another one: LfuCounts. -/
structure Cn (l : List It) (a b : Nat) : Prop where
  ok : Ok 3 l
  ca : cntOf l 7 = min 255 a
  cb : cntOf l 8 = b
  co : ∀ j, j ≠ 7 → j ≠ 8 → cntOf l j = 0
  len : l.length = (if a = 0 then 0 else 1) + if b = 0 then 0 else 1
namespace Cn
variable {a b : Nat}
theorem nil : Cn [] 0 0 := ⟨⟨List.Pairwise.nil, fun y h => (by cases h), List.nodup_nil, by simp⟩, rfl, rfl, fun _ _ _ => rfl, rfl⟩
theorem in7 (c : Cn l a b) : 7 ∈ ks l ↔ 0 < a := by rw [← cnt_iff c.ok, c.ca]; omega
theorem in8 (c : Cn l a b) : 8 ∈ ks l ↔ 0 < b := by rw [← cnt_iff c.ok, c.cb]
theorem room (c : Cn l a b) : l.length ≠ 3 := by rw [c.len]; split <;> split <;> omega
theorem use7 (c : Cn l a b) : Cn (useL 3 l 7) (a + 1) b := by
  have h := cnt_use (j := 7) c.ok (by omega) (k := 7) (.inr c.room)
  refine ⟨c.ok.useL (by omega), ?_, ?_, fun j j7 j8 => ?_, ?_⟩
  · rw [h, if_pos rfl, c.ca]; omega
  · rw [cnt_use c.ok (by omega) (.inr c.room), if_neg (by omega), c.cb]
  · rw [cnt_use c.ok (by omega) (.inr c.room), if_neg j7, c.co j j7 j8]
  · rw [len_use c.ok (.inr c.room), c.len, if_neg (by omega : ¬ a + 1 = 0)]
    by_cases e : a = 0
    · subst e
      rw [if_neg (fun h => by have := c.in7.1 h; omega), if_pos rfl]; omega
    · rw [if_pos (c.in7.2 (by omega)), if_neg e]
theorem use8 (c : Cn l a b) (hb : b < 255) : Cn (useL 3 l 8) a (b + 1) := by
  refine ⟨c.ok.useL (by omega), ?_, ?_, fun j j7 j8 => ?_, ?_⟩
  · rw [cnt_use c.ok (by omega) (.inr c.room), if_neg (by omega), c.ca]
  · rw [cnt_use c.ok (by omega) (.inr c.room), if_pos rfl, c.cb]; omega
  · rw [cnt_use c.ok (by omega) (.inr c.room), if_neg j8, c.co j j7 j8]
  · rw [len_use c.ok (.inr c.room), c.len, if_neg (by omega : ¬ b + 1 = 0)]
    by_cases e : b = 0
    · subst e
      rw [if_neg (fun h => by have := c.in8.1 h; omega), if_pos rfl]
    · rw [if_pos (c.in8.2 (by omega)), if_neg e]
/-- The last request, after which the counts are halved. -/
theorem last (c : Cn l a b) (ha : 2 ≤ a) : useH l 9 = false ∧ cntOf (halveL (useL 3 l 9)) 7 = min 255 a / 2 ∧ cntOf (halveL (useL 3 l 9)) 8 = (if b = 0 then 0 else max 1 (b / 2)) ∧ cntOf (halveL (useL 3 l 9)) 9 = 1 := by
  have h9 : cntOf l 9 = 0 := c.co 9 (by omega) (by omega)
  have o' := c.ok.useL (k := 9) (by omega)
  have key : ∀ j, j ∈ ks (useL 3 l 9) ↔ 0 < cntOf (useL 3 l 9) j := fun j => (cnt_iff o').symm
  have hc : ∀ j, cntOf (useL 3 l 9) j = if j = 9 then min 255 (cntOf l 9 + 1) else cntOf l j := fun j => cnt_use c.ok (by omega) (.inr c.room)
  refine ⟨decide_eq_false fun h => by have := (cnt_iff c.ok).2 h; omega, ?_, ?_, ?_⟩
  · rw [cnt_halve o', if_pos ((key 7).2 (by rw [hc, if_neg (by omega), c.ca]; omega)), hc, if_neg (by omega), c.ca]
    omega
  · by_cases e : b = 0
    · rw [cnt_halve o', if_neg (fun h => by have := (key 8).1 h; rw [hc, if_neg (by omega), c.cb] at this; omega), if_pos e]
    · rw [cnt_halve o', if_pos ((key 8).2 (by rw [hc, if_neg (by omega), c.cb]; omega)), hc, if_neg (by omega), c.cb, if_neg e]
  · rw [cnt_halve o', if_pos ((key 9).2 (by rw [hc, if_pos rfl]; omega)), hc, if_pos rfl, h9]
    omega
end Cn
end Go.Lf
