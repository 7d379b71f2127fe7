/- What the calls on a field answer, case by case. Plain. -/
import Derived.Test.YtgmccdicncocdaaLkR3
import Derived.Test.YtgmccdicncocdaaLkTheory4
open Go.Sl
namespace Go.Lk
open Go.Proofs.Ytgmccdicncocdaa
theorem ends_out {f : Fld} {h : Int} (hh : ¬ (0 ≤ h ∧ h < f.L.length)) : (f.first h).1 = 0 ∧ (f.first h).2 = 2 ∧ (f.last h).1 = 0 ∧ (f.last h).2 = 2 ∧ f.listOf h = [] := by
  have h1 : f.head h = false := by unfold Fld.head; exact decide_eq_false hh
  refine ⟨by unfold Fld.first; rw [h1]; rfl, by unfold Fld.first; rw [h1]; rfl, by unfold Fld.last; rw [h1]; rfl, by unfold Fld.last; rw [h1]; rfl, ?_⟩
  unfold Fld.listOf
  split
  · unfold Fld.at
    rw [List.getD_eq_getElem?_getD, List.getElem?_eq_none (by omega)]; rfl
  · rfl
theorem ends_nil {f : Fld} {k : Nat} (hk : k < f.L.length) (he : (f.at k).length = 0) : (f.first k).1 = 0 ∧ (f.first k).2 = 9 ∧ (f.last k).1 = 0 ∧ (f.last k).2 = 9 := by
  have h1 : f.head k = true := by unfold Fld.head; exact decide_eq_true (by omega)
  have h2 : f.at k = [] := List.eq_nil_of_length_eq_zero he
  have h3 : f.first k = (0, 9) := by unfold Fld.first; rw [h1, if_pos rfl, Int.toNat_natCast, h2]; rfl
  have h4 : f.last k = (0, 9) := by unfold Fld.last; rw [h1, if_pos rfl, Int.toNat_natCast, h2]; rfl
  rw [h3, h4]; exact ⟨rfl, rfl, rfl, rfl⟩
theorem ends_some {f : Fld} {k : Nat} (hk : k < f.L.length) (he : 0 < (f.at k).length) : (f.first k).1 = (f.at k).getD 0 0 ∧ (f.first k).2 = 0 ∧ (f.last k).1 = (f.at k).getD ((f.at k).length - 1) 0 ∧ (f.last k).2 = 0 := by
  have h1 : f.head k = true := by unfold Fld.head; exact decide_eq_true (by omega)
  have h3 : f.first k = ((f.at k).getD 0 0, 0) := by
    unfold Fld.first; rw [h1, if_pos rfl, Int.toNat_natCast, List.head?_eq_getElem?, List.getD_eq_getElem?_getD, List.getElem?_eq_getElem he]; rfl
  have h4 : f.last k = ((f.at k).getD ((f.at k).length - 1) 0, 0) := by
    unfold Fld.last; rw [h1, if_pos rfl, Int.toNat_natCast, List.getLast?_eq_getElem?, List.getD_eq_getElem?_getD, List.getElem?_eq_getElem (by omega)]; rfl
  rw [h3, h4]; exact ⟨rfl, rfl, rfl, rfl⟩
theorem node_out {f : Fld} {n : Nat} (hn : f.N ≤ n) : (f.ofR n).1 = 0 ∧ (f.ofR n).2 = 2 ∧ (f.next n).1 = 0 ∧ (f.next n).2 = 2 ∧ (f.prev n).1 = 0 ∧ (f.prev n).2 = 2 := by
  unfold Fld.ofR Fld.next Fld.prev
  rw [if_pos hn, if_pos hn, if_pos hn]; exact ⟨rfl, rfl, rfl, rfl, rfl, rfl⟩
theorem node_none {f : Fld} {n : Nat} (hn : n < f.N) (hp : f.place n = none) : (f.ofR n).1 = 0 ∧ (f.ofR n).2 = 9 ∧ (f.next n).1 = 0 ∧ (f.next n).2 = 9 ∧ (f.prev n).1 = 0 ∧ (f.prev n).2 = 9 ∧ plH f n = -1 := by
  unfold Fld.ofR Fld.next Fld.prev plH
  rw [if_neg (by omega), if_neg (by omega), if_neg (by omega), hp]; exact ⟨rfl, rfl, rfl, rfl, rfl, rfl, rfl⟩
theorem node_some {f : Fld} {n h i : Nat} (hn : n < f.N) (hp : f.place n = some (h, i)) : h < f.L.length ∧ i < (f.at h).length ∧ (f.at h).getD i 0 = n ∧ (f.ofR n).1 = h ∧ (f.ofR n).2 = 0 ∧ plH f n = h ∧ plI f n = i ∧
    (i + 1 < (f.at h).length → (f.next n).1 = (f.at h).getD (i + 1) 0 ∧ (f.next n).2 = 0) ∧ (¬ i + 1 < (f.at h).length → (f.next n).1 = 0 ∧ (f.next n).2 = 9) ∧
    (0 < i → (f.prev n).1 = (f.at h).getD (i - 1) 0 ∧ (f.prev n).2 = 0) ∧ (¬ 0 < i → (f.prev n).1 = 0 ∧ (f.prev n).2 = 9) := by
  obtain ⟨p1, p2, p3⟩ := Fld.place_spec hp
  obtain ⟨s1, s2, s3⟩ := split_at p2
  have hlt : i < (f.at h).length := by rw [p3]; exact s3
  refine ⟨p1, hlt, ?_, ?_, ?_, ?_, ?_, fun h1 => ?_, fun h1 => ?_, fun h1 => ?_, fun h1 => ?_⟩
  · subst p3; rw [List.getD_eq_getElem?_getD, List.getElem?_eq_getElem s3, List.getElem_idxOf]; rfl
  · unfold Fld.ofR; rw [if_neg (by omega), hp]
  · unfold Fld.ofR; rw [if_neg (by omega), hp]
  · unfold plH; rw [hp]
  · unfold plI; rw [hp]
  · have e : f.next n = ((f.at h).getD (i + 1) 0, 0) := by
      unfold Fld.next; rw [if_neg (by omega), hp]; dsimp only; rw [List.getElem?_eq_getElem h1, List.getD_eq_getElem?_getD, List.getElem?_eq_getElem h1]; rfl
    rw [e]; exact ⟨rfl, rfl⟩
  · have e : f.next n = (0, 9) := by
      unfold Fld.next; rw [if_neg (by omega), hp]; dsimp only; rw [List.getElem?_eq_none (by omega)]; rfl
    rw [e]; exact ⟨rfl, rfl⟩
  · have e : f.prev n = ((f.at h).getD (i - 1) 0, 0) := by
      unfold Fld.prev; rw [if_neg (by omega), hp]; dsimp only; rw [if_neg (by omega), List.getElem?_eq_getElem (by omega), List.getD_eq_getElem?_getD, List.getElem?_eq_getElem (by omega)]; rfl
    rw [e]; exact ⟨rfl, rfl⟩
  · have e : f.prev n = (0, 9) := by
      unfold Fld.prev; rw [if_neg (by omega), hp]; dsimp only; rw [if_pos (by omega)]; rfl
    rw [e]; exact ⟨rfl, rfl⟩
end Go.Lk
