/- What going through the buckets has seen. No program. -/
import Derived.Test.YtmiblmoppdgnjaaDoorWhH1
namespace Go.Wh
open Go.Lk Go.Sl Go.Lf
variable {zs : List Int} {i n k b c L t x : Nat}
/-- The slots that have been seen, ahead of a bucket; with some slots of the bucket. -/
def snL (zs : List Int) (L : Nat) (l : List Nat) : List Bool := (List.range zs.length).map fun i => decide ((zs.getD i 0).toNat < L) || l.contains i
/-- How many they are. -/
def cntS (zs : List Int) (L : Nat) : Nat := (List.range zs.length).countP fun j => decide ((zs.getD j 0).toNat < L)
theorem snL_len {l : List Nat} : (snL zs L l).length = zs.length := by simp [snL]
theorem snL_zero : snL zs 0 [] = List.replicate zs.length false := by
  unfold snL
  refine List.eq_replicate_iff.2 ⟨by simp, fun b hb => ?_⟩
  obtain ⟨z, _, rfl⟩ := List.mem_map.1 hb
  simp
theorem snL_at {l : List Nat} (hi : i < zs.length) : (snL zs L l).getD i default = (decide ((zs.getD i 0).toNat < L) || l.contains i) := by
  unfold snL
  rw [List.getD_eq_getElem?_getD, List.getElem?_map, List.getElem?_range hi]; rfl
theorem snL_get {l : List Nat} (h : i < (snL zs L l).length) : (snL zs L l)[i] = (decide ((zs.getD i 0).toNat < L) || l.contains i) := by simp [snL]
theorem snL_set {l : List Nat} (_hx : x < zs.length) : (snL zs L l).set x true = snL zs L (l ++ [x]) := by
  refine List.ext_getElem (by simp [snL]) fun j h1 h2 => ?_
  rw [List.getElem_set, snL_get, snL_get]
  by_cases e : x = j
  · subst e; simp
  · rw [if_neg e]
    have : (l ++ [x]).contains j = l.contains j := by
      rw [Bool.eq_iff_iff, List.contains_iff_mem, List.contains_iff_mem, List.mem_append]
      constructor
      · rintro (h | h)
        · exact h
        · exact absurd (by simpa using h : j = x).symm e
      · exact .inl
    rw [this]
theorem cntS_le : cntS zs L ≤ zs.length := by
  have := List.countP_le_length (p := fun j => decide ((zs.getD j 0).toNat < L)) (l := List.range zs.length)
  rw [List.length_range] at this
  exact this
theorem cntS_zero : cntS zs 0 = 0 := by unfold cntS; simp
theorem at_mem (hz : ∀ z ∈ zs, 0 ≤ z ∧ z < 256) (hi : i < zs.length) : 0 ≤ zs.getD i 0 ∧ zs.getD i 0 < 256 := hz (zs.getD i 0) (by rw [List.getD_eq_getElem?_getD, List.getElem?_eq_getElem hi]; exact List.getElem_mem hi)
theorem cntS_all (hz : ∀ z ∈ zs, 0 ≤ z ∧ z < 256) : cntS zs 256 = zs.length := by
  unfold cntS
  rw [List.countP_eq_length.2 fun j hj => ?_, List.length_range]
  have := at_mem hz (List.mem_range.1 hj)
  exact decide_eq_true (by omega)
theorem countP_cut (f : Nat → Nat) (hL : L ≤ c) : ∀ {l : List Nat}, (∀ j ∈ l, L ≤ f j → f j < c → False) → l.countP (fun j => decide (f j < c + 1)) = l.countP (fun j => decide (f j < L)) + l.countP (fun j => f j == c)
  | [], _ => rfl
  | x :: l, h => by
    rw [List.countP_cons, List.countP_cons, List.countP_cons, countP_cut f hL fun j hj => h j (List.mem_cons_of_mem _ hj)]
    have : ¬ (L ≤ f x ∧ f x < c) := fun ⟨p1, p2⟩ => h x (by simp) p1 p2
    by_cases h1 : f x < L
    · rw [if_pos (decide_eq_true (by omega)), if_pos (decide_eq_true h1), if_neg (by simp; omega)]; omega
    · by_cases h2 : f x = c
      · rw [if_pos (decide_eq_true (by omega)), if_neg (by simpa using h1), if_pos (by simpa using h2)]; omega
      · rw [if_neg (by simp only [decide_eq_true_eq]; omega), if_neg (by simpa using h1), if_neg (by simpa using h2)]; omega
theorem mem_grp_mB : x ∈ grp (mB zs n) c ↔ x < n ∧ c = (zs.getD x 0).toNat := by rw [mem_grp, mem_mB]
theorem grp_one {z : Nat} : grp [(k, z)] c = if z = c then [k] else [] := by
  unfold grp
  by_cases h : z = c
  · rw [if_pos h, List.filter_cons_of_pos (by simpa using h)]; rfl
  · rw [if_neg h, List.filter_cons_of_neg (by simpa using h)]; rfl
theorem grp_mB_lt : ∀ {n : Nat}, (grp (mB zs n) c).Pairwise (· < ·)
  | 0 => by unfold mB; simp [grp]
  | n + 1 => by
    rw [mB_succ, grp_app, grp_one, List.pairwise_append]
    refine ⟨grp_mB_lt, by split <;> simp, fun x hx y hy => ?_⟩
    have h1 := (mem_grp_mB.1 hx).1
    split at hy
    · obtain rfl : y = n := by simpa using hy
      exact h1
    · cases hy
/-- As many as the buckets between hold, and more. -/
theorem cntS_step (hL : L ≤ c) (hno : ∀ d, L ≤ d → d < c → grp (mB zs zs.length) d = []) : cntS zs (c + 1) = cntS zs L + (grp (mB zs zs.length) c).length := by
  unfold cntS
  rw [countP_cut (fun j => (zs.getD j 0).toNat) hL fun j hj h1 h2 => ?_]
  · congr 1
    unfold grp mB
    rw [List.length_map, List.filter_map, List.length_map, ← List.countP_eq_length_filter]
    rfl
  · have h3 := (mem_grp_mB (zs := zs) (n := zs.length) (x := j) (c := (zs.getD j 0).toNat)).2 ⟨List.mem_range.1 hj, rfl⟩
    rw [hno _ h1 h2] at h3
    cases h3
theorem snL_all (hL : L ≤ c) (hno : ∀ d, L ≤ d → d < c → grp (mB zs zs.length) d = []) : snL zs L (grp (mB zs zs.length) c) = snL zs (c + 1) [] := by
  unfold snL
  refine List.map_congr_left fun j hj => ?_
  have hj2 := List.mem_range.1 hj
  have h1 : (grp (mB zs zs.length) c).contains j = decide (c = (zs.getD j 0).toNat) := by
    rw [Bool.eq_iff_iff, List.contains_iff_mem, mem_grp_mB, decide_eq_true_iff]
    exact ⟨fun h => h.2, fun h => ⟨hj2, h⟩⟩
  rw [h1, Bool.eq_iff_iff, Bool.or_eq_true, Bool.or_eq_true, decide_eq_true_iff, decide_eq_true_iff, decide_eq_true_iff]
  have h2 : ¬ (L ≤ (zs.getD j 0).toNat ∧ (zs.getD j 0).toNat < c) := fun ⟨p1, p2⟩ => by
    have h3 := (mem_grp_mB (zs := zs) (n := zs.length) (x := j) (c := (zs.getD j 0).toNat)).2 ⟨hj2, rfl⟩
    rw [hno _ p1 p2] at h3
    cases h3
  constructor
  · rintro (h | h)
    · exact .inl (by omega)
    · exact .inl (by omega)
  · rintro (h | h)
    · by_cases h4 : (zs.getD j 0).toNat < L
      · exact .inl h4
      · exact .inr (by omega)
    · cases h
theorem nb_cases {P : Nat → Bool} {fr : Nat} : (nb P fr = none ∧ ∀ d, fr ≤ d → d < 256 → P d = false) ∨ ∃ c, nb P fr = some c ∧ fr ≤ c ∧ c < 256 ∧ P c = true ∧ ∀ d, fr ≤ d → d < c → P d = false := by
  cases hf : nb P fr with
  | none =>
    refine .inl ⟨rfl, fun d h1 h2 => ?_⟩
    unfold nb at hf
    rw [List.find?_eq_none] at hf
    have := hf d (by rw [List.mem_range'_1]; omega)
    simpa using this
  | some c =>
    refine .inr ⟨c, rfl, ?_⟩
    unfold nb at hf
    obtain ⟨h1, k, hk, e, h2⟩ := List.find?_eq_some_iff_getElem.1 hf
    rw [List.getElem_range', Nat.one_mul] at e
    subst e
    have hk2 : k < 256 - fr := by simpa using hk
    refine ⟨by omega, by omega, h1, fun d h3 h4 => ?_⟩
    have := h2 (d - fr) (by omega)
    simp only [List.getElem_range', Nat.one_mul, Bool.not_eq_true'] at this
    rwa [show fr + (d - fr) = d by omega] at this
/-- The next bucket that is not empty, if there is one. -/
theorem nx_cases {m : List It} (hL : L < 256) : (nxE m (L : Int) = 9 ∧ (nxO m (L : Int)).getD 0 = 0 ∧ ∀ d, L ≤ d → d < 256 → grp m d = []) ∨ ∃ c, (nxO m (L : Int)).getD 0 = c ∧ nxE m (L : Int) = 0 ∧ L ≤ c ∧ c < 256 ∧ grp m c ≠ [] ∧ ∀ d, L ≤ d → d < c → grp m d = [] := by
  have hb : ¬ badB (L : Int) := by unfold badB; omega
  have e1 : nxO m (L : Int) = nb (fun c => decide (grp m c ≠ [])) L := by unfold nxO; rw [if_neg hb]; rfl
  have e2 : nxE m (L : Int) = if (nxO m (L : Int)).isSome then 0 else 9 := by unfold nxE; rw [if_neg hb]
  rcases nb_cases (P := fun c => decide (grp m c ≠ [])) (fr := L) with ⟨h1, h2⟩ | ⟨c, h1, h2, h3, h4, h5⟩
  · refine .inl ⟨by rw [e2, e1, h1]; rfl, by rw [e1, h1]; rfl, fun d h3 h4 => ?_⟩
    have := h2 d h3 h4
    simpa using this
  · refine .inr ⟨c, by rw [e1, h1]; rfl, by rw [e2, e1, h1]; rfl, h2, h3, by simpa using h4, fun d h6 h7 => ?_⟩
    have := h5 d h6 h7
    simpa using this
theorem cntS_none (hz : ∀ z ∈ zs, 0 ≤ z ∧ z < 256) (hno : ∀ d, L ≤ d → d < 256 → grp (mB zs zs.length) d = []) : cntS zs L = zs.length := by
  unfold cntS
  rw [List.countP_eq_length.2 fun j hj => ?_, List.length_range]
  have hj2 := List.mem_range.1 hj
  have h1 := at_mem hz hj2
  have h3 := (mem_grp_mB (zs := zs) (n := zs.length) (x := j) (c := (zs.getD j 0).toNat)).2 ⟨hj2, rfl⟩
  refine decide_eq_true ?_
  by_cases h4 : (zs.getD j 0).toNat < L
  · exact h4
  · rw [hno _ (by omega) (by omega)] at h3; cases h3
/-- What is seen of a slot of the bucket. -/
theorem sn_round {l : List Nat} (hz : ∀ z ∈ zs, 0 ≤ z ∧ z < 256) (hl : grp (mB zs zs.length) c = l) (hL : L ≤ c) {j : Nat} (hj : j < l.length) :
    l.getD j 0 < zs.length ∧ zs.getD (l.getD j 0) 0 = (c : Nat) ∧ (snL zs L (l.take j)).getD (l.getD j 0) default = false ∧ (0 < j → l.getD (j - 1) 0 < l.getD j 0) ∧ (snL zs L (l.take j)).set (l.getD j 0) true = snL zs L (l.take (j + 1)) := by
  have e : l.getD j 0 = l[j] := by rw [List.getD_eq_getElem?_getD, List.getElem?_eq_getElem hj]; rfl
  have hm : l[j] ∈ grp (mB zs zs.length) c := by rw [hl]; exact List.getElem_mem hj
  obtain ⟨h1, h2⟩ := mem_grp_mB.1 hm
  have hp := grp_mB_lt (zs := zs) (n := zs.length) (c := c)
  rw [hl] at hp
  have h3 := at_mem hz h1
  rw [e]
  refine ⟨h1, by omega, ?_, fun h0 => ?_, ?_⟩
  · rw [snL_at h1, Bool.or_eq_false_iff]
    refine ⟨decide_eq_false (by omega), ?_⟩
    rw [← Bool.not_eq_true, List.contains_iff_mem]
    intro h4
    obtain ⟨i, hi, e2⟩ := List.getElem_of_mem h4
    rw [List.getElem_take] at e2
    have hi2 : i < j := by simp at hi; omega
    have := List.pairwise_iff_getElem.1 hp i j (by omega) hj hi2
    omega
  · rw [List.getD_eq_getElem?_getD, List.getElem?_eq_getElem (by omega)]
    exact List.pairwise_iff_getElem.1 hp (j - 1) j (by omega) hj (by omega)
  · rw [snL_set h1, List.take_succ_eq_append_getElem hj]
/-- Cells that are truth values. -/
def bls (l : List Bool) : List Value := l.map .bool
instance (l : List Bool) : Idx (bls l) 1 l.length (fun i => [.bool (l.getD i default)]) := ⟨fun i hi => ⟨rfl, fun j v hj => by
  cases j with
  | zero =>
    simp only [List.getElem?_cons_zero, Option.some.injEq] at hj
    subst hj
    simp [bls, List.getElem?_map, List.getElem?_eq_getElem hi, List.getD_eq_getElem?_getD]
  | succ j => simp at hj⟩⟩
instance (l : List Bool) : PlC (bls l) := ⟨fun v hv => by
  obtain ⟨z, _, rfl⟩ := List.mem_map.1 hv
  rfl⟩
instance (l : List Bool) (i : Nat) (x : Bool) : SetC (bls l) i 0 [.bool x] 1 l.length (bls (l.set i x)) := ⟨fun h => ⟨by simp [bls, setL, List.map_set], by simp [bls]; omega⟩⟩
theorem bls_start {n : Nat} : rows n (fun _ => [Value.bool false]) = bls (List.replicate n false) := by
  unfold rows bls
  rw [List.map_replicate]
  induction n with
  | zero => rfl
  | succ n ih => rw [List.range_succ, List.flatMap_append, ih, List.replicate_succ']; rfl
theorem grp_far {m : List It} (h : ∀ y ∈ m, y.2 < 256) (hc : ¬ c < 256) : grp m c = [] := by
  unfold grp
  rw [List.filter_eq_nil_iff.2 fun y hy => by have := h y hy; simp only [beq_iff_eq]; omega]; rfl
/-- Both wheels have the same words. -/
theorem full_vA (hz : ∀ z ∈ zs, 0 ≤ z ∧ z < 256) (h6 : zs.length ≤ 4194304) {w : Nat} (hw : w < 4) : fullM (vA zs zs.length 256) w = fullM (mB zs zs.length) w := by
  have o := mB_mo hz (Nat.le_refl _) h6
  have h1 := full_mk o.bk
  have h2 := full_mk (m := vA zs zs.length 256) fun y hy => vA_bk hy
  refine mk_uniq (m := mB zs zs.length) (mk_same h2 fun c => ?_) h1 hw
  by_cases hc : c < 256
  · rw [grp_vA_all hc]
  · rw [grp_far o.bk hc, grp_far (fun y hy => vA_bk hy) hc]
/-- Wheels with the same words. -/
structure SameF (m' m : List It) : Prop where
  out : ∀ w, w < 4 → fullM m w = fullM m' w
end Go.Wh
