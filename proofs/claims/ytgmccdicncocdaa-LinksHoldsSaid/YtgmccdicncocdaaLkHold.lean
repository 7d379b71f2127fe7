/- Plain laws of a field: as many nodes have a list as the lists have nodes; other numbers and back. -/
import Derived.Test.YtgmccdicncocdaaLkWfs
open Go.Sl
namespace Go.Lk
open Go.Proofs.Ytgmccdicncocdaa
theorem flatten_nodup {f : Fld} (w : Wf f) : f.L.flatten.Nodup := by
  unfold List.Nodup
  rw [List.pairwise_flatten]
  refine ⟨fun l hl => ?_, ?_⟩
  · obtain ⟨h, hh, rfl⟩ := List.getElem_of_mem hl
    have := w.nodup hh
    rw [Fld.at_getElem hh] at this; exact this
  · rw [List.pairwise_iff_getElem]
    intro i j hi hj hij x hx y hy e
    subst e
    have := w.uniq hi hj (by rw [Fld.at_getElem hi]; exact hx) (by rw [Fld.at_getElem hj]; exact hy)
    omega
theorem mem_flat {f : Fld} (w : Wf f) {n : Nat} : n ∈ f.L.flatten ↔ n < f.N ∧ f.place n ≠ none := by
  rw [List.mem_flatten]
  constructor
  · rintro ⟨l, hl, hn⟩
    obtain ⟨h, hh, rfl⟩ := List.getElem_of_mem hl
    have hm : n ∈ f.at h := by rw [Fld.at_getElem hh]; exact hn
    exact ⟨w.lt hh hm, by rw [w.place hh hm]; simp⟩
  · rintro ⟨h1, h2⟩
    cases hp : f.place n with
    | none => exact absurd hp h2
    | some q =>
      obtain ⟨h, i⟩ := q
      obtain ⟨p1, p2, _⟩ := Fld.place_spec hp
      exact ⟨f.L[h], List.getElem_mem p1, by rw [← Fld.at_getElem p1]; exact p2⟩
/-- How many nodes below 'n' have a list; how many nodes the lists below 'h' have. -/
def cnt (f : Fld) (n : Nat) : Nat := ((List.range n).filter fun j => (f.place j).isSome).length
def sumL (f : Fld) (h : Nat) : Nat := ((f.L.take h).map List.length).sum
theorem cnt_zero {f : Fld} : cnt f 0 = 0 := rfl
theorem cnt_succ {f : Fld} {n : Nat} : cnt f (n + 1) = cnt f n + if f.place n = none then 0 else 1 := by
  unfold cnt
  rw [List.range_succ, List.filter_append, List.length_append]
  cases h : f.place n <;> simp [h]
theorem sumL_zero {f : Fld} : sumL f 0 = 0 := by simp [sumL]
theorem sumL_succ {f : Fld} {h : Nat} (hh : h < f.L.length) : sumL f (h + 1) = sumL f h + (f.at h).length := by
  unfold sumL
  rw [List.take_succ_eq_append_getElem hh, List.map_append, List.sum_append, Fld.at_getElem hh]
  simp
theorem sum_cnt {f : Fld} (w : Wf f) : sumL f f.L.length = cnt f f.N := by
  have h1 : sumL f f.L.length = f.L.flatten.length := by unfold sumL; rw [List.take_length, List.length_flatten]
  have h2 : List.Perm f.L.flatten ((List.range f.N).filter fun j => (f.place j).isSome) := by
    rw [List.perm_ext_iff_of_nodup (flatten_nodup w) (List.Pairwise.filter _ List.nodup_range)]
    intro n
    rw [mem_flat w, List.mem_filter, List.mem_range]
    cases f.place n <;> simp
  rw [h1, h2.length_eq]; rfl
theorem cnt_le {f : Fld} {n : Nat} : cnt f n ≤ n := by
  unfold cnt
  exact Nat.le_trans (List.length_filter_le _ _) (by simp)
/-- A node of a list, by its index. -/
theorem place_at {f : Fld} (w : Wf f) {h i : Nat} (hh : h < f.L.length) (hi : i < (f.at h).length) : (f.at h).getD i 0 < f.N ∧ f.place ((f.at h).getD i 0) = some (h, i) := by
  have hm : (f.at h).getD i 0 ∈ f.at h := by rw [List.getD_eq_getElem?_getD, List.getElem?_eq_getElem hi]; exact List.getElem_mem hi
  refine ⟨w.lt hh hm, ?_⟩
  rw [w.place hh hm]
  congr 2
  have hd := w.nodup hh
  rw [List.getD_eq_getElem?_getD, List.getElem?_eq_getElem hi]
  exact hd.idxOf_getElem i hi
/-! ### Other numbers, and back -/
/-- The field in which the lists below 'h' have other numbers, and of list 'h' the first 'i' ones. -/
def renP (f : Fld) (s : Nat → Nat) (h i : Nat) : Fld := ⟨f.N, (List.range f.L.length).map fun k => if k < h then (f.at k).map s else if k = h then ((f.at k).take i).map s else []⟩
theorem renP_at {f : Fld} {s : Nat → Nat} {h i k : Nat} (hk : k < f.L.length) : (renP f s h i).at k = if k < h then (f.at k).map s else if k = h then ((f.at k).take i).map s else [] := by
  unfold renP Fld.at
  rw [List.getD_eq_getElem?_getD, List.getElem?_map, List.getElem?_range hk]; rfl
theorem renP_len {f : Fld} {s : Nat → Nat} {h i : Nat} : (renP f s h i).L.length = f.L.length := by simp [renP]
theorem fld_ext {f g : Fld} (hN : f.N = g.N) (hL : f.L.length = g.L.length) (h : ∀ k, k < f.L.length → f.at k = g.at k) : f = g := by
  obtain ⟨N, L⟩ := f
  obtain ⟨N', L'⟩ := g
  dsimp only at hN hL h
  subst hN
  congr 1
  refine List.ext_getElem hL fun k h1 h2 => ?_
  have := h k h1
  rw [Fld.at_getElem (f := ⟨N, L⟩) h1, Fld.at_getElem (f := ⟨N, L'⟩) h2] at this
  exact this
section
variable {f : Fld} {s : Nat → Nat}
theorem renP_step (w : Wf f) (hs : ∀ n, n < f.N → s n < f.N) (hinj : ∀ m n, m < f.N → n < f.N → s m = s n → m = n) {h i : Nat} (hh : h < f.L.length) (hi : i < (f.at h).length) :
    (renP f s h i).addE h (s (f.at h)[i]) = 0 ∧ (renP f s h i).addF h (s (f.at h)[i]) false = renP f s h (i + 1) := by
  have hm : (f.at h)[i] ∈ f.at h := List.getElem_mem hi
  have hlt := w.lt hh hm
  have hp : (renP f s h i).place (s (f.at h)[i]) = none := Fld.place_none.2 fun k hk hin => by
    rw [renP_len] at hk
    rw [renP_at hk] at hin
    split at hin
    · rename_i hkh
      obtain ⟨m, hm1, hm2⟩ := List.mem_map.1 hin
      have e := hinj _ _ (w.lt hk hm1) hlt hm2
      subst e
      have := w.uniq hk hh hm1 hm
      omega
    · split at hin
      · rename_i hkh
        subst hkh
        obtain ⟨m, hm1, hm2⟩ := List.mem_map.1 hin
        have hm3 := List.mem_of_mem_take hm1
        have e := hinj _ _ (w.lt hk hm3) hlt hm2
        subst e
        obtain ⟨j, hj, hje⟩ := List.getElem_of_mem hm1
        rw [List.length_take] at hj
        rw [List.getElem_take] at hje
        have := (List.getElem_inj (w.nodup hk)).1 hje
        omega
      · cases hin
  obtain ⟨h1, h2⟩ := Fld.addF_eq (f := renP f s h i) (b := h) (n := s (f.at h)[i]) (front := false) (by rw [renP_len]; exact hh) (hs _ hlt) hp
  refine ⟨h1, ?_⟩
  rw [h2]
  simp only [Bool.false_eq_true, if_false]
  refine fld_ext rfl (by rw [Fld.set_len, renP_len, renP_len]) fun k hk => ?_
  rw [Fld.set_len, renP_len] at hk
  rw [Fld.at_set (by rw [renP_len]; exact hh), renP_at hk, renP_at hk, renP_at hh]
  by_cases hkh : k = h
  · subst hkh
    simp only [if_true, Nat.lt_irrefl, if_false]
    rw [List.take_succ_eq_append_getElem hi, List.map_append]; rfl
  · simp only [if_neg hkh]
theorem renList_perm (w : Wf f) (hs : ∀ n, n < f.N → s n < f.N) (hinj : ∀ m n, m < f.N → n < f.N → s m = s n → m = n) {to : List Nat} (hto : ∀ n, n < f.N → to.getD n 0 = s n) {h : Nat} (hh : h < f.L.length) :
    ∀ (d i : Nat), i + d = (f.at h).length → renList to h ((f.at h).drop i) (renP f s h i) = some (renP f s h (f.at h).length)
  | 0, i, e => by
    obtain rfl : i = (f.at h).length := by omega
    rw [List.drop_length]; rfl
  | d + 1, i, e => by
    have hi : i < (f.at h).length := by omega
    obtain ⟨h1, h2⟩ := renP_step w hs hinj hh hi
    rw [renList_step hi, hto _ (w.lt hh (List.getElem_mem hi)), if_pos h1, h2]
    exact renList_perm w hs hinj hto hh d (i + 1) (by omega)
theorem renP_next {h : Nat} (hh : h < f.L.length) : renP f s h (f.at h).length = renP f s (h + 1) 0 := by
  refine fld_ext rfl (by rw [renP_len, renP_len]) fun k hk => ?_
  rw [renP_len] at hk
  rw [renP_at hk, renP_at hk]
  by_cases h1 : k < h
  · rw [if_pos h1, if_pos (by omega)]
  · rw [if_neg h1]
    by_cases h2 : k = h
    · subst h2; rw [if_pos rfl, if_pos (by omega), List.take_length]
    · rw [if_neg h2, if_neg (by omega)]; split <;> simp
theorem renLists_perm (w : Wf f) (hs : ∀ n, n < f.N → s n < f.N) (hinj : ∀ m n, m < f.N → n < f.N → s m = s n → m = n) {to : List Nat} (hto : ∀ n, n < f.N → to.getD n 0 = s n) :
    ∀ (d h : Nat), h + d = f.L.length → renLists to h (f.L.drop h) (renP f s h 0) = some (renP f s f.L.length 0)
  | 0, h, e => by
    obtain rfl : h = f.L.length := by omega
    rw [List.drop_length]; rfl
  | d + 1, h, e => by
    have hh : h < f.L.length := by omega
    have h1 := renList_perm w hs hinj hto hh (f.at h).length 0 (by omega)
    rw [List.drop_zero] at h1
    rw [renLists_step hh, h1]
    show renLists to (h + 1) (f.L.drop (h + 1)) (renP f s h (f.at h).length) = _
    rw [renP_next hh]
    exact renLists_perm w hs hinj hto d (h + 1) (by omega)
/-- All numbers changed. -/
def mapF (f : Fld) (s : Nat → Nat) : Fld := renP f s f.L.length 0
theorem ren_perm (w : Wf f) (hs : ∀ n, n < f.N → s n < f.N) (hinj : ∀ m n, m < f.N → n < f.N → s m = s n → m = n) {to : List Nat} (hl : to.length = f.N) (hto : ∀ n, n < f.N → to.getD n 0 = s n) :
    renE f to f.N = 0 ∧ renG f to f.N = mapF f s := by
  have hb := w.bound
  refine ren_some ?_
  unfold Fld.renF
  rw [if_neg (by omega), Int.toNat_natCast]
  have h0 : (⟨f.N, List.replicate f.L.length []⟩ : Fld) = renP f s 0 0 := by
    refine fld_ext rfl (by rw [renP_len]; simp) fun k hk => ?_
    have hk' : k < f.L.length := by simpa using hk
    rw [renP_at hk', Fld.at_getElem hk]
    simp
  rw [h0]
  have := renLists_perm w hs hinj hto f.L.length 0 (by omega)
  rw [List.drop_zero] at this
  exact this
theorem mapF_N : (mapF f s).N = f.N := rfl
theorem mapF_len : (mapF f s).L.length = f.L.length := renP_len
theorem mapF_at {k : Nat} (hk : k < f.L.length) : (mapF f s).at k = (f.at k).map s := by unfold mapF; rw [renP_at hk, if_pos hk]
theorem mapF_back (w : Wf f) {t : Nat → Nat} (h : ∀ n, n < f.N → t (s n) = n) : mapF (mapF f s) t = f := by
  refine fld_ext rfl (by rw [mapF_len, mapF_len]) fun k hk => ?_
  rw [mapF_len, mapF_len] at hk
  rw [mapF_at (by rw [mapF_len]; exact hk), mapF_at hk, List.map_map]
  conv => rhs; rw [← List.map_id (f.at k)]
  refine List.map_congr_left fun n hn => ?_
  exact h n (w.lt hk hn)
end
/-- Turning by 'k' and back. -/
theorem turn_lt {N k n : Nat} (hN : 0 < N) : (n + k) % N < N := Nat.mod_lt _ hN
theorem turn_back {N k n : Nat} (hk : k < N) (hn : n < N) : ((n + k) % N + N - k) % N = n := by
  rcases Nat.lt_or_ge (n + k) N with h | h
  · rw [Nat.mod_eq_of_lt h, show n + k + N - k = n + N by omega, Nat.add_mod_right, Nat.mod_eq_of_lt hn]
  · have h1 : (n + k) % N = n + k - N := by rw [Nat.mod_eq_sub_mod h, Nat.mod_eq_of_lt (by omega)]
    rw [h1, show n + k - N + N - k = n by omega, Nat.mod_eq_of_lt hn]
theorem back_turn {N k n : Nat} (hk : k < N) (hn : n < N) : ((n + N - k) % N + k) % N = n := by
  rcases Nat.lt_or_ge (n + N - k) N with h | h
  · rw [Nat.mod_eq_of_lt h, show n + N - k + k = n + N by omega, Nat.add_mod_right, Nat.mod_eq_of_lt hn]
  · have h1 : (n + N - k) % N = n - k := by rw [Nat.mod_eq_sub_mod h, show n + N - k - N = n - k by omega, Nat.mod_eq_of_lt (by omega)]
    rw [h1, show n - k + k = n by omega, Nat.mod_eq_of_lt hn]
theorem there_back {f : Fld} (w : Wf f) {k : Nat} (hk : k < f.N) :
    renE f ((List.range f.N).map fun n => (n + k) % f.N) f.N = 0 ∧ renE (renG f ((List.range f.N).map fun n => (n + k) % f.N) f.N) ((List.range f.N).map fun n => (n + f.N - k) % f.N) f.N = 0 ∧
    renG (renG f ((List.range f.N).map fun n => (n + k) % f.N) f.N) ((List.range f.N).map fun n => (n + f.N - k) % f.N) f.N = f := by
  have hb := w.bound
  obtain ⟨h1, h2⟩ := ren_perm (s := fun n => (n + k) % f.N) w (fun n _ => turn_lt (by show 0 < f.N; omega)) (fun m n hm hn e => by
    have e1 := turn_back hk hm; have e2 := turn_back hk hn
    (try dsimp only at e)
    rw [e] at e1; omega) (to := (List.range f.N).map fun n => (n + k) % f.N) (by simp) (fun n hn => by rw [List.getD_eq_getElem?_getD, List.getElem?_map, List.getElem?_range hn]; rfl)
  have w1 : Wf (mapF f fun n => (n + k) % f.N) := by rw [← h2]; exact w.renG _ _
  obtain ⟨h3, h4⟩ := ren_perm (f := mapF f fun n => (n + k) % f.N) (s := fun n => (n + f.N - k) % f.N) w1 (fun n _ => (Nat.mod_lt (n + f.N - k) (show 0 < f.N by omega) : (n + f.N - k) % f.N < f.N)) (fun m n hm hn e => by
    have e1 := back_turn hk (show m < f.N from hm); have e2 := back_turn hk (show n < f.N from hn)
    (try dsimp only at e)
    rw [e] at e1; omega) (to := (List.range f.N).map fun n => (n + f.N - k) % f.N) (by simp; rfl) (fun n hn => by rw [List.getD_eq_getElem?_getD, List.getElem?_map, List.getElem?_range (show n < f.N from hn)]; rfl)
  rw [h2]
  exact ⟨h1, h3, h4.trans (mapF_back w fun n hn => turn_back hk hn)⟩
end Go.Lk
