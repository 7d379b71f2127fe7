/- What a map says of the keys that are there, plainly. No program, no condition. -/
import Derived.Test.YtdpiglociolagaaGreatLkA
import Derived.Test.YtdpiglociolagaaGreatSlM
namespace Go.Ms
open Go.Lk Go.Sl
structure MS {α : Type} (v : α) (kv : List (Nat × α)) (S : List Nat) : Prop where
  kn : (mkeys kv).Nodup
  at_ : ∀ k, mget kv k = if k ∈ S then some v else none
section
variable {α : Type} {v : α} {kv : List (Nat × α)} {S S' : List Nat} {k : Nat}
theorem MS.nil : MS v [] [] := ⟨List.nodup_nil, fun _k => rfl⟩
theorem MS.yes (h : MS v kv S) (hk : k ∈ S) : mget kv k = some v := by rw [h.at_, if_pos hk]
theorem MS.no (h : MS v kv S) (hk : k ∉ S) : mget kv k = none := by rw [h.at_, if_neg hk]
theorem MS.congr (h : MS v kv S) (e : ∀ x, x ∈ S' ↔ x ∈ S) : MS v kv S' := ⟨h.kn, fun k => by rw [h.at_]; simp only [e]⟩
theorem MS.put (h : MS v kv S) (e : ∀ x, x ∈ S' ↔ x = k ∨ x ∈ S) : MS v (mput kv k v) S' := ⟨mput_nodup h.kn, fun j => by
  rw [mget_put, h.at_]
  by_cases hj : j = k
  · rw [if_pos hj, if_pos ((e j).2 (.inl hj))]
  · rw [if_neg hj]
    by_cases hs : j ∈ S
    · rw [if_pos hs, if_pos ((e j).2 (.inr hs))]
    · rw [if_neg hs, if_neg fun x => ((e j).1 x).elim hj hs]⟩
theorem MS.del (h : MS v kv S) (e : ∀ x, x ∈ S' ↔ x ≠ k ∧ x ∈ S) : MS v (mdel kv k) S' := ⟨mdel_nodup h.kn, fun j => by
  rw [mget_del h.kn, h.at_]
  by_cases hj : j = k
  · rw [if_pos hj, if_neg fun x => ((e j).1 x).1 hj]
  · rw [if_neg hj]
    by_cases hs : j ∈ S
    · rw [if_pos hs, if_pos ((e j).2 ⟨hj, hs⟩)]
    · rw [if_neg hs, if_neg fun x => hs ((e j).1 x).2]⟩
theorem mem_keys_iff : k ∈ mkeys kv ↔ (mget kv k).isSome = true := by
  induction kv with
  | nil => simp [mkeys, mget]
  | cons y t ih =>
    obtain ⟨a, b⟩ := y
    show k ∈ a :: mkeys t ↔ (if a = k then some b else mget t k).isSome = true
    rw [List.mem_cons, ih]
    by_cases e : a = k
    · subst e; simp
    · rw [if_neg e]
      constructor
      · rintro (h | h)
        · exact absurd h.symm e
        · exact h
      · exact .inr
theorem MS.len (h : MS v kv S) (hn : S.Nodup) : kv.length = S.length := by
  have hp : (mkeys kv).Perm S := (List.perm_ext_iff_of_nodup h.kn hn).2 fun k => by
    rw [mem_keys_iff, h.at_]
    by_cases hk : k ∈ S
    · simp [hk]
    · simp [hk]
  have := hp.length_eq
  unfold mkeys at this
  rwa [List.length_map] at this
end
section
variable {G : List Nat} {k j : Nat}
theorem take_getD (hj : j < G.length) : G.take (j + 1) = G.take j ++ [G.getD j 0] := by
  rw [List.take_succ_eq_append_getElem hj, List.getD_eq_getElem?_getD, List.getElem?_eq_getElem hj]; rfl
theorem all_step {ka : List (Nat × Int)} {pre L : List Nat} (h : MS (1 : Int) ka (pre ++ L.take j)) (hn : (pre ++ L).Nodup) (hj : j < L.length) : mget ka (L.getD j 0) = none ∧ MS (1 : Int) (mput ka (L.getD j 0) (0 + 1)) (pre ++ L.take (j + 1)) := by
  have hd : L.getD j 0 ∉ pre ++ L.take j := by
    have e : pre ++ L = (pre ++ L.take j) ++ L.drop j := by rw [List.append_assoc, List.take_append_drop]
    rw [e, List.drop_eq_getElem_cons hj, List.nodup_append] at hn
    intro hx
    refine hn.2.2 _ hx (L.getD j 0) ?_ rfl
    rw [List.getD_eq_getElem?_getD, List.getElem?_eq_getElem hj]; exact List.mem_cons_self
  refine ⟨h.no hd, h.put fun x => ?_⟩
  rw [take_getD hj, ← List.append_assoc, List.mem_append, List.mem_singleton, or_comm]
theorem getD_mem {L : List Nat} (hj : j < L.length) : L.getD j 0 ∈ L := by
  rw [List.getD_eq_getElem?_getD, List.getElem?_eq_getElem hj]; exact List.getElem_mem hj
end
section
variable {Q : List Nat}
theorem erase_last : ∀ {l : List Nat}, l.Nodup → l ≠ [] → l.erase (l.getLastD 0) = l.dropLast
  | [], _, h => absurd rfl h
  | [a], _, _ => by simp
  | a :: b :: l, h, _ => by
    rw [List.nodup_cons] at h
    have e : (a :: b :: l).getLastD 0 = (b :: l).getLastD 0 := rfl
    have hm : (b :: l).getLastD 0 ∈ b :: l := by
      rw [List.getLastD_eq_getLast?, List.getLast?_eq_some_getLast (by simp)]; exact List.getLast_mem _
    have hne : a ≠ (b :: l).getLastD 0 := fun e => h.1 (e ▸ hm)
    rw [e, List.erase_cons_tail (by simpa using hne), erase_last h.2 (by simp)]
    rfl
end
end Go.Ms
