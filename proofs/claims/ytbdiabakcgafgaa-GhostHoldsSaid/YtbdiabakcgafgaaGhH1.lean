/- Ghost lists next to a map that says when each key was added last, plainly. -/
import Derived.Test.YtbdiabakcgafgaaGhW5
namespace Go.Gh
open Go.Lk Go.Sl
/-- When a key was added last. -/
def wt (kv : List (Nat × Int)) (k : Nat) : Int := (mget kv k).getD 0
/-- The map says of the list's keys when they came: the newest one last. -/
structure HInv (i : Int) (L : List Nat) (kv : List (Nat × Int)) : Prop where
  kn : (mkeys kv).Nodup
  nd : L.Nodup
  mem : ∀ k, k ∈ L ↔ (mget kv k).isSome = true
  len : kv.length = L.length
  lt : ∀ k t, mget kv k = some t → t < i
  ord : L.Pairwise fun a b => wt kv b < wt kv a
namespace HInv
variable {i : Int} {L : List Nat} {kv : List (Nat × Int)}
theorem nil : HInv i [] [] := ⟨by simp [mkeys], .nil, fun k => by simp [mget], rfl, fun k t h => by simp [mget] at h, .nil⟩
theorem later (h : HInv i L kv) : HInv (i + 1) L kv := ⟨h.kn, h.nd, h.mem, h.len, fun k t e => by have := h.lt k t e; omega, h.ord⟩
theorem pw {kv' : List (Nat × Int)} {l : List Nat} (h : l.Pairwise fun a b => wt kv b < wt kv a) (e : ∀ k ∈ l, wt kv' k = wt kv k) : l.Pairwise fun a b => wt kv' b < wt kv' a :=
  h.imp_of_mem fun {a b} ha hb hab => by rw [e a ha, e b hb]; exact hab
theorem erase (h : HInv i L kv) (k : Nat) : HInv i (L.erase k) (mdel kv k) := by
  refine ⟨mdel_nodup h.kn, h.nd.erase _, fun j => ?_, ?_, fun j t e => ?_, ?_⟩
  · rw [mget_del h.kn, h.nd.mem_erase_iff]
    by_cases e : j = k
    · rw [if_pos e]; simp [e]
    · rw [if_neg e, ← h.mem]; simp [e]
  · rw [mdel_len, h.len]
    by_cases hk : k ∈ L
    · rw [if_pos ((h.mem k).1 hk), List.length_erase_of_mem hk]
    · rw [if_neg (fun e => hk ((h.mem k).2 e)), List.erase_of_not_mem hk]
  · rw [mget_del h.kn] at e
    by_cases e2 : j = k
    · rw [if_pos e2] at e; cases e
    · rw [if_neg e2] at e; exact h.lt j t e
  · refine pw (h.ord.sublist List.erase_sublist) fun j hj => ?_
    have : j ≠ k := (h.nd.mem_erase_iff.1 hj).1
    unfold wt
    rw [mget_del h.kn, if_neg this]
theorem put (h : HInv i L kv) (k : Nat) : HInv (i + 1) (k :: L.erase k) (mput kv k i) := by
  refine ⟨mput_nodup h.kn, List.nodup_cons.2 ⟨fun e => (h.nd.mem_erase_iff.1 e).1 rfl, h.nd.erase _⟩, fun j => ?_, ?_, fun j t e => ?_, ?_⟩
  · rw [mget_put, List.mem_cons, h.nd.mem_erase_iff]
    by_cases e : j = k
    · rw [if_pos e]; simp [e]
    · rw [if_neg e, ← h.mem]; simp [e]
  · rw [mput_len, List.length_cons]
    by_cases hk : k ∈ L
    · rw [if_pos ((h.mem k).1 hk), List.length_erase_of_mem hk, h.len]
      have := List.length_pos_of_mem hk; omega
    · rw [if_neg (fun e => hk ((h.mem k).2 e)), List.erase_of_not_mem hk, h.len]
  · rw [mget_put] at e
    by_cases e2 : j = k
    · rw [if_pos e2] at e; cases e; omega
    · rw [if_neg e2] at e; have := h.lt j t e; omega
  · have hw : ∀ j ∈ L.erase k, wt (mput kv k i) j = wt kv j := fun j hj => by
      unfold wt
      rw [mget_put, if_neg (h.nd.mem_erase_iff.1 hj).1]
    refine List.pairwise_cons.2 ⟨fun j hj => ?_, pw (h.ord.sublist List.erase_sublist) hw⟩
    rw [hw j hj]
    have h1 : wt (mput kv k i) k = i := by unfold wt; rw [mget_put, if_pos rfl]; rfl
    rw [h1]
    obtain ⟨t, ht⟩ := Option.isSome_iff_exists.1 ((h.mem j).1 (List.mem_of_mem_erase hj))
    unfold wt; rw [ht]; exact h.lt j t ht
/-- The last one is the oldest one. -/
theorem last (h : HInv i L kv) (h0 : L ≠ []) : (∃ t, mget kv (L.getLastD 0) = some t ∧ ∀ k v, (k, v) ∈ kv → t ≤ v) ∧ HInv i L.dropLast (mdel kv (L.getLastD 0)) := by
  have hl : L.getLastD 0 = L.getLast h0 := by rw [List.getLastD_eq_getLast?, List.getLast?_eq_some_getLast h0]; rfl
  have hm : L.getLastD 0 ∈ L := by rw [hl]; exact List.getLast_mem _
  refine ⟨?_, ?_⟩
  · obtain ⟨t, ht⟩ := Option.isSome_iff_exists.1 ((h.mem _).1 hm)
    refine ⟨t, ht, fun k v hkv => ?_⟩
    have hg := mget_of_mem h.kn hkv
    have hk : k ∈ L := (h.mem k).2 (by rw [hg]; rfl)
    by_cases e : k = L.getLastD 0
    · subst e; rw [ht] at hg; cases hg; omega
    · have hs : L = L.dropLast ++ [L.getLastD 0] := by rw [hl]; exact (List.dropLast_concat_getLast h0).symm
      have ho := h.ord
      rw [hs, List.pairwise_append] at ho
      have hk' : k ∈ L.dropLast := by
        rw [hs] at hk
        rcases List.mem_append.1 hk with h1 | h1
        · exact h1
        · exact absurd (List.mem_singleton.1 h1) e
      have := ho.2.2 k hk' _ (List.mem_singleton.2 rfl)
      unfold wt at this
      rw [hg, ht] at this
      simp only [Option.getD_some] at this
      omega
  · have := h.erase (L.getLastD 0)
    rw [h.nd.erase_last h0] at this
    exact this
theorem add (h : HInv i L kv) {M k : Nat} (hM : L.length ≤ M) : (addB M L k = false → addV M L k = 0 ∧ HInv (i + 1) (addL M L k) (mput kv k i)) ∧
    (addB M L k = true → (∃ t, mget (mput kv k i) (addV M L k) = some t ∧ ∀ j v, (j, v) ∈ mput kv k i → t ≤ v) ∧ HInv (i + 1) (addL M L k) (mdel (mput kv k i) (addV M L k))) := by
  have hp := h.put k
  unfold addB addV addL
  by_cases hk : k ∈ L
  · rw [if_pos hk, if_pos hk]
    exact ⟨fun _ => ⟨rfl, hp⟩, fun e => absurd hk (of_decide_eq_true e).1⟩
  · rw [if_neg hk, if_neg hk]
    rw [List.erase_of_not_mem hk] at hp
    by_cases hl : L.length + 1 ≤ M
    · rw [if_pos hl, if_pos hl]
      exact ⟨fun _ => ⟨rfl, hp⟩, fun e => by have := (of_decide_eq_true e).2; omega⟩
    · rw [if_neg hl, if_neg hl]
      exact ⟨fun e => absurd (⟨hk, by omega⟩ : k ∉ L ∧ M < L.length + 1) (of_decide_eq_false e), fun _ => hp.last (by simp)⟩
theorem at_lt (h : HInv i L kv) {a b : Nat} (hb : b < L.length) (hab : a < b) : ∃ s t, mget kv (L.getD a 0) = some s ∧ mget kv (L.getD b 0) = some t ∧ t < s := by
  have ga : L.getD a 0 = L[a] := by rw [List.getD_eq_getElem?_getD, List.getElem?_eq_getElem (by omega)]; rfl
  have gb : L.getD b 0 = L[b] := by rw [List.getD_eq_getElem?_getD, List.getElem?_eq_getElem hb]; rfl
  obtain ⟨s, hs⟩ := Option.isSome_iff_exists.1 ((h.mem _).1 (List.getElem_mem (l := L) (n := a) (by omega)))
  obtain ⟨t, ht⟩ := Option.isSome_iff_exists.1 ((h.mem _).1 (List.getElem_mem (l := L) (n := b) hb))
  have := List.pairwise_iff_getElem.1 h.ord a b (by omega) hb hab
  unfold wt at this
  rw [hs, ht] at this
  exact ⟨s, t, by rw [ga]; exact hs, by rw [gb]; exact ht, this⟩
theorem at_some (h : HInv i L kv) {b : Nat} (hb : b < L.length) : (∃ t, mget kv (L.getD b 0) = some t) ∧ L.getD b 0 ∈ L := by
  have gb : L.getD b 0 = L[b] := by rw [List.getD_eq_getElem?_getD, List.getElem?_eq_getElem hb]; rfl
  rw [gb]
  exact ⟨Option.isSome_iff_exists.1 ((h.mem _).1 (List.getElem_mem hb)), List.getElem_mem hb⟩
end HInv
theorem addL_head {M k : Nat} {L : List Nat} (hM : 0 < M) (hL : L.length ≤ M) : 0 < (addL M L k).length ∧ (addL M L k).getD 0 0 = k := by
  unfold addL
  split
  · exact ⟨by simp, rfl⟩
  · split
    · exact ⟨by simp, rfl⟩
    · cases L with
      | nil => simp at *; omega
      | cons x l => exact ⟨by simp, rfl⟩
end Go.Gh
