/- A new field with the greatest number of nodes, or of lists, and a few calls. Plain. -/
import Derived.Test.YtgmccdicncocdaaLkRen
open Go.Sl
namespace Go.Lk
theorem place_nil {N M n : Nat} : (⟨N, List.replicate M []⟩ : Fld).place n = none := Fld.place_none.2 fun k hk => by
  have hk' : k < M := by simpa using hk
  rw [Fld.at_getElem hk]; simp
/-- One node, then another one ahead of it, in the last list of a new field; two calls that are refused. -/
theorem many {N M n1 : Nat} {h1 h2 : Int} (hN : 2 ≤ N) (hN2 : N ≤ 4194304) (hM : 1 ≤ M) (hM2 : M ≤ 4096) (e1 : h1 = (M : Int) - 1) (e2 : h2 = (M : Int)) (e3 : n1 + 1 = N) :
    (⟨N, List.replicate M []⟩ : Fld).addE h1 n1 = 0 ∧ ((⟨N, List.replicate M []⟩ : Fld).addF h1 n1 false).addE h1 0 = 0 ∧
    (((⟨N, List.replicate M []⟩ : Fld).addF h1 n1 false).addF h1 0 true).addE h2 1 = 2 ∧
    ((((⟨N, List.replicate M []⟩ : Fld).addF h1 n1 false).addF h1 0 true).addF h2 1 false).addE 0 (n1 + 1) = 2 ∧
    (((((⟨N, List.replicate M []⟩ : Fld).addF h1 n1 false).addF h1 0 true).addF h2 1 false).addF 0 (n1 + 1) false).first h1 = (0, 0) ∧
    (((((⟨N, List.replicate M []⟩ : Fld).addF h1 n1 false).addF h1 0 true).addF h2 1 false).addF 0 (n1 + 1) false).next 0 = (n1, 0) ∧
    ((((((⟨N, List.replicate M []⟩ : Fld).addF h1 n1 false).addF h1 0 true).addF h2 1 false).addF 0 (n1 + 1) false).listOf h1).length = 2 := by
  obtain ⟨m, rfl⟩ : ∃ m : Nat, M = m + 1 := ⟨M - 1, by omega⟩
  obtain rfl : h1 = (m : Int) := by omega
  subst e2
  have w0 : Wf ⟨N, List.replicate (m + 1) []⟩ := Wf.new (by omega) hN2 (by omega) hM2
  generalize hf0 : (⟨N, List.replicate (m + 1) []⟩ : Fld) = f0 at w0 ⊢
  have hL : f0.L.length = m + 1 := by rw [← hf0]; simp
  have hNN : f0.N = N := by rw [← hf0]
  obtain ⟨a1, a2⟩ := Fld.addF_eq (f := f0) (b := m) (n := n1) (front := false) (by omega) (by omega) (by rw [← hf0]; exact place_nil)
  have hat : f0.at m = [] := by
    rw [Fld.at_getElem (by omega)]
    have : f0.L = List.replicate (m + 1) [] := by rw [← hf0]
    simp [this]
  rw [hat] at a2
  simp only [Bool.false_eq_true, if_false, List.nil_append] at a2
  have w1 := w0.addF m n1 false
  rw [a2] at w1 ⊢
  have hp : (f0.set m [n1]).place 0 = none := Fld.place_none.2 fun k hk => by
    rw [Fld.set_len] at hk
    rw [Fld.at_set (by omega)]
    split
    · simp; omega
    · have := Fld.place_none.1 (show f0.place 0 = none by rw [← hf0]; exact place_nil) k hk
      exact this
  obtain ⟨b1, b2⟩ := Fld.addF_eq (f := f0.set m [n1]) (b := m) (n := 0) (front := true) (by rw [Fld.set_len]; omega) (by rw [Fld.set_N]; omega) hp
  rw [Fld.at_set (by omega), if_pos rfl, Fld.set_set, if_pos rfl] at b2
  have w2 := w1.addF m 0 true
  rw [b2] at w2 ⊢
  have hL2 : (f0.set m [0, n1]).L.length = m + 1 := by rw [Fld.set_len, hL]
  have c1 : (f0.set m [0, n1]).addE ((m + 1 : Nat) : Int) 1 = 2 := by unfold Fld.addE Fld.head; rw [if_pos]; left; rw [decide_eq_false_iff_not, hL2]; omega
  have c2 : (f0.set m [0, n1]).addF ((m + 1 : Nat) : Int) 1 false = f0.set m [0, n1] := by unfold Fld.addF; rw [if_neg (by omega)]
  rw [c2]
  have d1 : (f0.set m [0, n1]).addE 0 (n1 + 1) = 2 := by unfold Fld.addE; rw [if_pos]; right; rw [Fld.set_N]; omega
  have d2 : (f0.set m [0, n1]).addF 0 (n1 + 1) false = f0.set m [0, n1] := by unfold Fld.addF; rw [if_neg (by omega)]
  rw [d2]
  have hat2 : (f0.set m [0, n1]).at m = [0, n1] := by rw [Fld.at_set (by omega), if_pos rfl]
  have hl : (f0.set m [0, n1]).listOf m = [0, n1] := by unfold Fld.listOf; rw [if_pos (by omega), Int.toNat_natCast, hat2]
  refine ⟨a1, b1, c1, d1, ?_, ?_, by rw [hl]; rfl⟩
  · unfold Fld.first Fld.head; rw [if_pos (by rw [decide_eq_true_iff, hL2]; omega), Int.toNat_natCast, hat2]; rfl
  · unfold Fld.next
    rw [if_neg (by rw [Fld.set_N]; omega), w2.place (h := m) (by omega) (by rw [hat2]; simp)]
    simp only [hat2]
    simp [Fld.res]
end Go.Lk
