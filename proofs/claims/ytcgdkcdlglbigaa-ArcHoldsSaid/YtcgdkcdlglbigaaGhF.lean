/- Ghost lists: what one says of itself; the bound. -/
import Derived.Test.YtcgdkcdlglbigaaGhW3
import Derived.Test.YtcgdkcdlglbigaaSlD
namespace Go.Gh
/-- One more key on a list that has been cut. -/
theorem add_cut {m k : Nat} {D : List Nat} (h : k ∉ D) : addL m (D.take m) k = (k :: D).take m ∧ (m ≤ D.length → addB m (D.take m) k = true ∧ ((k :: D).drop m).reverse = (D.drop m).reverse ++ [addV m (D.take m) k]) ∧ (D.length < m → addB m (D.take m) k = false ∧ (k :: D).drop m = [] ∧ D.drop m = []) := by
  have h' : k ∉ D.take m := fun x => h (List.mem_of_mem_take x)
  have hl := List.length_take (i := m) (l := D)
  unfold addL addB addV
  rw [if_neg h', if_neg h']
  refine ⟨?_, fun hm => ⟨?_, ?_⟩, fun hm => ⟨?_, ?_, ?_⟩⟩
  · by_cases hm : m ≤ D.length
    · rw [if_neg (by omega), List.dropLast_eq_take]
      rw [show (k :: D.take m).length - 1 = m by simp; omega, ← List.take_succ_cons (a := k), List.take_take, Nat.min_eq_left (by omega)]
    · rw [if_pos (by omega), List.take_of_length_le (by omega), List.take_of_length_le (by simp; omega)]
  · exact decide_eq_true ⟨h', by omega⟩
  · rw [if_neg (by omega), List.drop_eq_getElem_cons (by simp; omega), List.reverse_cons, List.drop_succ_cons]
    congr 2
    rw [List.getLastD_eq_getLast?, List.getLast?_eq_getElem?]
    rw [show (k :: D.take m).length - 1 = m by simp; omega, ← List.take_succ_cons (a := k), List.getElem?_take, if_pos (by omega), List.getElem?_eq_getElem (by simp; omega)]; rfl
  · exact decide_eq_false (by omega)
  · exact List.drop_eq_nil_of_le (by simp; omega)
  · exact List.drop_eq_nil_of_le (by omega)
theorem addL_len {m k : Nat} {L : List Nat} (h : L.length ≤ m) : (addL m L k).length ≤ m := by
  unfold addL
  split
  · rename_i hk
    have := List.length_pos_of_mem hk
    rw [List.length_cons, List.length_erase_of_mem hk]; omega
  · split
    · simpa using by assumption
    · simp; omega
end Go.Gh
namespace Go.Proofs.Ytcgdkcdlglbigaa
open Go.Lk Go.Sl Go.Gh
section
variable {base : World} {n : Nat} {ds : List Deferred} {env : Env} {l r : List HP} {KK : Act → World → Prop} {p most : Nat} {L : List Nat}
/-- What a ghost list says of itself. -/
theorem GhostAt.facts (h : L.Nodup → (∀ k ∈ L, k < 4294967296) → L.length ≤ most + 1 → most + 1 ≤ 4194304 → TK base n ds KK env l) (hr : Rem l (GhostAt p most L) r := by (repeat (first | (with_reducible exact Rem.here _ _) | (with_reducible apply Rem.there) | fail)); done) : TK base n ds KK env l := by
  refine TK.know (p := L.Nodup ∧ (∀ k ∈ L, k < 4294967296) ∧ L.length ≤ most + 1 ∧ most + 1 ≤ 4194304) (fun _ y => ?_) fun ⟨a, b, c, d⟩ => h a b c d
  unfold GhostAt at hr
  obtain ⟨q, y⟩ := exs_out hr y
  unfold parts at y
  have g := (lst_fact y).1
  have h1 := g.llen; have h2 := g.tot; have h3 := g.wf.bound; have h4 := g.N
  exact ⟨g.nd, g.llt, by omega, by omega⟩
theorem GhostAt.factsC {r0 : Option Nat} {P : Program} {c : Code} {Q : Exit → Act → World → Prop} (h : L.Nodup → (∀ k ∈ L, k < 4294967296) → L.length ≤ most + 1 → most + 1 ≤ 4194304 → TC r0 P base n ds c Q env l) (hr : Rem l (GhostAt p most L) r := by (repeat (first | (with_reducible exact Rem.here _ _) | (with_reducible apply Rem.there) | fail)); done) : TC r0 P base n ds c Q env l := GhostAt.facts h hr
end
end Go.Proofs.Ytcgdkcdlglbigaa
