/- Slots in buckets, put in another order: the same buckets. No program. -/
import Derived.Test.YtmiblmoppdgnjaaDoorWhL6
namespace Go.Wh
open Go.Lk Go.Sl Go.Lf
/-- The slots of the k highest buckets, bucket by bucket. -/
def vA (zs : List Int) (n : Nat) : Nat → List It
  | 0 => []
  | k + 1 => vA zs n k ++ (mB zs n).filter fun y => y.2 == 255 - k
variable {zs : List Int} {i n k b c : Nat}
theorem grp_filt {m : List It} : grp (m.filter fun y => y.2 == b) c = if c = b then grp m c else [] := by
  unfold grp
  rw [List.filter_filter]
  split
  · rename_i h
    subst h
    congr 1
    exact List.filter_congr fun y _ => by cases (y.2 == c) <;> rfl
  · rename_i h
    rw [List.filter_eq_nil_iff.2 fun y _ => by
      simp only [Bool.and_eq_true, beq_iff_eq]
      rintro ⟨h1, h2⟩
      exact h (h1.symm.trans h2)]
    rfl
theorem grp_vA (hc : c < 256) : ∀ {k : Nat}, k ≤ 256 → grp (vA zs n k) c = if 256 ≤ c + k then grp (mB zs n) c else []
  | 0, _ => by rw [if_neg (by omega)]; rfl
  | k + 1, hk => by
    unfold vA
    rw [grp_app, grp_vA hc (by omega), grp_filt]
    by_cases h1 : 256 ≤ c + k
    · rw [if_pos h1, if_neg (by omega), if_pos (by omega), List.append_nil]
    · by_cases h2 : c = 255 - k
      · rw [if_neg h1, if_pos h2, if_pos (by omega), List.nil_append]
      · rw [if_neg h1, if_neg h2, if_neg (by omega)]; rfl
theorem grp_vA_all (hc : c < 256) : grp (vA zs n 256) c = grp (mB zs n) c := by rw [grp_vA hc (Nat.le_refl _), if_pos (by omega)]
theorem mem_mB {y : It} : y ∈ mB zs n ↔ y.1 < n ∧ y.2 = (zs.getD y.1 0).toNat := by
  unfold mB
  rw [List.mem_map]
  constructor
  · rintro ⟨j, hj, rfl⟩; exact ⟨List.mem_range.1 hj, rfl⟩
  · rintro ⟨h1, h2⟩; exact ⟨y.1, List.mem_range.2 h1, by rw [← h2]⟩
theorem mem_vA {y : It} (hy : y.2 < 256) : ∀ {k : Nat}, k ≤ 256 → (y ∈ vA zs n k ↔ y ∈ mB zs n ∧ 256 ≤ y.2 + k)
  | 0, _ => by unfold vA; simp; intro _; omega
  | k + 1, hk => by
    unfold vA
    rw [List.mem_append, mem_vA hy (by omega), List.mem_filter, beq_iff_eq]
    constructor
    · rintro (⟨h1, h2⟩ | ⟨h1, h2⟩)
      · exact ⟨h1, by omega⟩
      · exact ⟨h1, by omega⟩
    · rintro ⟨h1, h2⟩
      by_cases h3 : 256 ≤ y.2 + k
      · exact .inl ⟨h1, h3⟩
      · exact .inr ⟨h1, by omega⟩
theorem vA_bk {y : It} : ∀ {k : Nat}, y ∈ vA zs n k → y.2 < 256
  | 0, h => by cases h
  | k + 1, h => by
    rcases List.mem_append.1 h with h | h
    · exact vA_bk h
    · have := (List.mem_filter.1 h).2
      rw [beq_iff_eq] at this
      omega
/-- The slots of the k highest buckets, and the first ones of the next. -/
def vS (zs : List Int) (n k i : Nat) : List It := vA zs n k ++ (mB zs i).filter fun y => y.2 == 255 - k
theorem vS_zero : vS zs n k 0 = vA zs n k := by unfold vS mB; simp
theorem vS_all : vS zs n k n = vA zs n (k + 1) := rfl
theorem vS_put (h : (zs.getD i 0).toNat = 255 - k) : vS zs n k (i + 1) = vS zs n k i ++ [(i, 255 - k)] := by
  unfold vS
  rw [mB_succ, List.filter_append, List.filter_cons_of_pos (by simpa using h), h]
  simp
theorem vS_skip (h : (zs.getD i 0).toNat ≠ 255 - k) : vS zs n k (i + 1) = vS zs n k i := by
  unfold vS
  rw [mB_succ, List.filter_append, List.filter_cons_of_neg (by simpa using h)]
  simp
theorem vS_not (hk : k < 256) (h : (zs.getD i 0).toNat = 255 - k) : i ∉ ks (vS zs n k i) := fun hm => by
  obtain ⟨y, hy, e⟩ := List.mem_map.1 hm
  rcases List.mem_append.1 hy with hy | hy
  · have hyb : y.2 < 256 := vA_bk hy
    have := (mem_vA hyb (by omega)).1 hy
    have h2 := (mem_mB.1 this.1).2
    rw [e, h] at h2
    omega
  · have := (mem_mB.1 (List.mem_filter.1 hy).1).1
    omega
end Go.Wh
