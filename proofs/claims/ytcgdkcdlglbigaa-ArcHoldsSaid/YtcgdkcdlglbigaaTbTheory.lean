/- A table of keys and slots, plainly: a map from keys to slots, the key of each slot, the free slots. No program, no condition. -/
import Derived.Test.YtcgdkcdlglbigaaGhTheory
namespace Go.Tb
open Go.Lk Go.Sl
theorem nodup_rev {l : List Nat} : l.reverse.Nodup ↔ l.Nodup := by
  unfold List.Nodup
  rw [List.pairwise_reverse]
  exact ⟨fun h => h.imp fun e => Ne.symm e, fun h => h.imp fun e => Ne.symm e⟩
/-- 'U': the slots that are used. -/
structure Tab (size : Nat) (kv : List (Nat × Nat)) (K fr U : List Nat) : Prop where
  kl : K.length = size
  kn : (mkeys kv).Nodup
  und : U.Nodup
  at_iff : ∀ k z, mget kv k = some z ↔ z ∈ U ∧ K.getD z 0 = k
  ult : ∀ z ∈ U, z < size
  fnd : fr.Nodup
  flt : ∀ z ∈ fr, z < size ∧ z ∉ U
  len : kv.length = U.length
  tot : U.length + fr.length = size
  lt : ∀ k ∈ K, k < 4294967296
/-- The keys of slots, the last one first. -/
def keysR (K L : List Nat) : List Nat := (L.map fun z => K.getD z 0).reverse
namespace Tab
variable {size : Nat} {kv : List (Nat × Nat)} {K fr U : List Nat} {k z : Nat}
theorem perm {U' : List Nat} (t : Tab size kv K fr U) (h : U.Perm U') : Tab size kv K fr U' :=
  ⟨t.kl, t.kn, h.nodup_iff.1 t.und, fun k z => by rw [t.at_iff, h.mem_iff], fun z hz => t.ult z (h.mem_iff.2 hz), t.fnd, fun z hz => ⟨(t.flt z hz).1, fun h2 => (t.flt z hz).2 (h.mem_iff.2 h2)⟩, by rw [t.len, h.length_eq], by rw [← h.length_eq]; exact t.tot, t.lt⟩
theorem klt (t : Tab size kv K fr U) (hz : z < size) : K.getD z 0 < 4294967296 := by
  rw [List.getD_eq_getElem?_getD, List.getElem?_eq_getElem (by rw [t.kl]; exact hz)]; exact t.lt _ (List.getElem_mem _)
theorem of_mem (t : Tab size kv K fr U) (hz : z ∈ U) : mget kv (K.getD z 0) = some z := (t.at_iff _ _).2 ⟨hz, rfl⟩
theorem inj (t : Tab size kv K fr U) {a b : Nat} (ha : a ∈ U) (hb : b ∈ U) (e : K.getD a 0 = K.getD b 0) : a = b := by
  have h1 := t.of_mem ha
  rw [e, t.of_mem hb] at h1
  exact (Option.some.inj h1).symm
theorem some_of (t : Tab size kv K fr U) (h : mget kv k = some z) : z ∈ U ∧ K.getD z 0 = k ∧ z < size := by
  obtain ⟨h1, h2⟩ := (t.at_iff k z).1 h
  exact ⟨h1, h2, t.ult z h1⟩
theorem none_of (t : Tab size kv K fr U) (h : mget kv k = none) : ∀ z ∈ U, K.getD z 0 ≠ k := fun z hz e => by
  have := (t.at_iff k z).2 ⟨hz, e⟩
  rw [h] at this; cases this
theorem knd (t : Tab size kv K fr U) {L : List Nat} (hs : L.Nodup) (hL : ∀ z ∈ L, z ∈ U) : (L.map fun z => K.getD z 0).Nodup := by
  unfold List.Nodup
  rw [List.pairwise_map]
  exact (List.Pairwise.and_mem.1 hs).imp fun {a b} ⟨ha, hb, hne⟩ e => hne (t.inj (hL a ha) (hL b hb) e)
/-- A new table. -/
theorem new : Tab size [] (List.replicate size 0) (List.range size).reverse [] := by
  refine ⟨List.length_replicate, List.nodup_nil, List.nodup_nil, fun k z => ?_, fun z hz => (by cases hz), nodup_rev.2 List.nodup_range, fun z hz => ⟨by simpa using hz, List.not_mem_nil⟩, rfl, by simp, fun k hk => ?_⟩
  · constructor
    · intro h; cases h
    · rintro ⟨h, _⟩; cases h
  · obtain rfl := List.eq_of_mem_replicate hk; omega
/-- A key comes. -/
theorem add {r : List Nat} (t : Tab size kv K (r ++ [z]) U) (h : mget kv k = none) (hk : k < 4294967296) : Tab size (mput kv k z) (K.set z k) r (U ++ [z]) ∧ (∀ y ∈ U, (K.set z k).getD y 0 = K.getD y 0) ∧ (K.set z k).getD z 0 = k ∧ z < size ∧ z ∉ U := by
  obtain ⟨z1, z2⟩ := t.flt z (by simp)
  have hset : ∀ y, (K.set z k).getD y 0 = if y = z then k else K.getD y 0 := fun y => by
    rw [List.getD_eq_getElem?_getD, List.getD_eq_getElem?_getD, List.getElem?_set]
    by_cases e : z = y
    · subst e; rw [if_pos rfl, if_pos rfl, if_pos (by rw [t.kl]; exact z1)]; rfl
    · rw [if_neg e, if_neg (fun h => e h.symm)]
  have hU : ∀ y ∈ U, (K.set z k).getD y 0 = K.getD y 0 := fun y hy => by
    rw [hset, if_neg (fun e : y = z => z2 (by rw [← e]; exact hy))]
  have hn := t.none_of h
  refine ⟨⟨by rw [List.length_set]; exact t.kl, mput_nodup t.kn, ?_, fun j y => ?_, fun y hy => ?_, ?_, fun y hy => ?_, ?_, ?_, fun j hj => ?_⟩, hU, by rw [hset, if_pos rfl], z1, z2⟩
  · rw [List.nodup_append]
    exact ⟨t.und, by simp, fun a ha b hb e => z2 (by simp at hb; rw [← hb, ← e]; exact ha)⟩
  · rw [mget_put, List.mem_append, List.mem_singleton, hset]
    by_cases e : j = k
    · subst e
      rw [if_pos rfl]
      constructor
      · intro h1; obtain rfl := Option.some.inj h1; exact ⟨.inr rfl, by rw [if_pos rfl]⟩
      · rintro ⟨h1 | rfl, h2⟩
        · rw [if_neg (fun e : y = z => z2 (by rw [← e]; exact h1))] at h2
          exact absurd h2 (hn y h1)
        · rfl
    · rw [if_neg e, t.at_iff]
      constructor
      · rintro ⟨h1, h2⟩
        exact ⟨.inl h1, by rw [if_neg (fun e : y = z => z2 (by rw [← e]; exact h1))]; exact h2⟩
      · rintro ⟨h1 | rfl, h2⟩
        · rw [if_neg (fun e : y = z => z2 (by rw [← e]; exact h1))] at h2; exact ⟨h1, h2⟩
        · rw [if_pos rfl] at h2; exact absurd h2.symm e
  · rcases List.mem_append.1 hy with h1 | h1
    · exact t.ult y h1
    · obtain rfl : y = z := by simpa using h1
      exact z1
  · exact t.fnd.sublist (List.sublist_append_left _ _)
  · obtain ⟨h1, h2⟩ := t.flt y (List.mem_append_left _ hy)
    refine ⟨h1, fun h3 => ?_⟩
    rcases List.mem_append.1 h3 with h3 | h3
    · exact h2 h3
    · obtain rfl : y = z := by simpa using h3
      have := t.fnd
      rw [List.nodup_append] at this
      exact this.2.2 y hy y (by simp) rfl
  · rw [mput_len, h]; simp [t.len]
  · have := t.tot
    simp only [List.length_append, List.length_singleton] at this ⊢
    omega
  · rcases List.mem_or_eq_of_mem_set hj with h1 | rfl
    · exact t.lt j h1
    · exact hk
/-- A key goes. -/
theorem remove (t : Tab size kv K fr U) (h : mget kv k = some z) : Tab size (mdel kv k) K (fr ++ [z]) (U.erase z) := by
  obtain ⟨z1, z2, z3⟩ := t.some_of h
  have hpos := List.length_pos_of_mem z1
  refine ⟨t.kl, mdel_nodup t.kn, t.und.erase z, fun j y => ?_, fun y hy => t.ult y (List.mem_of_mem_erase hy), ?_, fun y hy => ?_, ?_, ?_, t.lt⟩
  · rw [mget_del t.kn, t.und.mem_erase_iff]
    by_cases e : j = k
    · subst e
      rw [if_pos rfl]
      constructor
      · intro h1; cases h1
      · rintro ⟨⟨h1, h2⟩, h3⟩
        exact absurd (t.inj h2 z1 (h3.trans z2.symm)) h1
    · rw [if_neg e, t.at_iff]
      constructor
      · rintro ⟨h1, h2⟩
        exact ⟨⟨fun e2 => e (by rw [← h2, e2, z2]), h1⟩, h2⟩
      · rintro ⟨⟨_, h1⟩, h2⟩; exact ⟨h1, h2⟩
  · rw [List.nodup_append]
    exact ⟨t.fnd, by simp, fun a ha b hb e => (t.flt a ha).2 (by simp at hb; rw [e, hb]; exact z1)⟩
  · rcases List.mem_append.1 hy with h1 | h1
    · exact ⟨(t.flt y h1).1, fun h2 => (t.flt y h1).2 (List.mem_of_mem_erase h2)⟩
    · obtain rfl : y = z := by simpa using h1
      exact ⟨z3, fun h2 => by rw [t.und.mem_erase_iff] at h2; exact h2.1 rfl⟩
  · rw [mdel_len, h, List.length_erase_of_mem z1]; simp [t.len]
  · have := t.tot
    rw [List.length_erase_of_mem z1]
    simp only [List.length_append, List.length_singleton]
    omega
/-- There is a free slot as long as not all are used. -/
theorem free (t : Tab size kv K fr U) (h : U.length < size) : ∃ r z, fr = r ++ [z] ∧ z < size := by
  have := t.tot
  have h0 : fr ≠ [] := fun e => by rw [e] at this; simp at this; omega
  refine ⟨fr.dropLast, fr.getLast h0, (List.dropLast_concat_getLast h0).symm, (t.flt _ (List.getLast_mem h0)).1⟩
end Tab
section
variable {size : Nat} {kv : List (Nat × Nat)} {K fr U L : List Nat} {k z : Nat}
theorem keysR_len : (keysR K L).length = L.length := by unfold keysR; simp
theorem mem_keysR : k ∈ keysR K L ↔ ∃ z ∈ L, K.getD z 0 = k := by unfold keysR; simp
theorem keysR_snoc : keysR K (L ++ [z]) = K.getD z 0 :: keysR K L := by unfold keysR; simp
theorem keysR_cons : keysR K (z :: L) = keysR K L ++ [K.getD z 0] := by unfold keysR; simp
theorem keysR_congr {K' : List Nat} (h : ∀ y ∈ L, K'.getD y 0 = K.getD y 0) : keysR K' L = keysR K L := by
  unfold keysR; rw [List.map_congr_left h]
theorem keysR_nodup (t : Tab size kv K fr U) (hs : L.Nodup) (hL : ∀ z ∈ L, z ∈ U) : (keysR K L).Nodup := nodup_rev.2 (t.knd hs hL)
theorem erase_rev {k : Nat} {l : List Nat} (h : l.Nodup) : l.reverse.erase k = (l.erase k).reverse := by
  rw [← filter_ne_erase h, ← filter_ne_erase (nodup_rev.2 h), List.filter_reverse]
theorem keysR_erase (t : Tab size kv K fr U) (hs : L.Nodup) (hL : ∀ z ∈ L, z ∈ U) (hz : z ∈ L) : keysR K (L.erase z) = (keysR K L).erase (K.getD z 0) := by
  unfold keysR
  rw [erase_rev (t.knd hs hL), map_erase_nodup (g := fun z => K.getD z 0) (t.knd hs hL) hz]
/-- Where the slot of a key is. -/
theorem mem_keysR_at (t : Tab size kv K fr U) (hL : ∀ z ∈ L, z ∈ U) (h : mget kv k = some z) : k ∈ keysR K L ↔ z ∈ L := by
  obtain ⟨h1, h2, _⟩ := t.some_of h
  rw [mem_keysR]
  constructor
  · rintro ⟨y, hy, e⟩
    obtain rfl := t.inj (hL y hy) h1 (e.trans h2.symm)
    exact hy
  · intro hz; exact ⟨z, hz, h2⟩
theorem not_keysR (t : Tab size kv K fr U) (hL : ∀ z ∈ L, z ∈ U) (h : mget kv k = none) : k ∉ keysR K L := by
  rw [mem_keysR]
  rintro ⟨y, hy, e⟩
  exact t.none_of h y (hL y hy) e
end
end Go.Tb
