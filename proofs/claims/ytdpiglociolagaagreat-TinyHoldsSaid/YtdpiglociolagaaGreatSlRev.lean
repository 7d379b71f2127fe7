/- Lists turned round; slices.Reverse; five results. -/
import Derived.Test.YtdpiglociolagaaGreatSlTypes
import Derived.Test.YtdpiglociolagaaGreatLkA
import Derived.Test.YtdpiglociolagaaGreatSlD
import Derived.Test.YtdpiglociolagaaGreatSlHq
import Derived.Test.YtdpiglociolagaaGreatSlMapN
namespace Go.Sl
open Go.Lk
def revI (L : List Nat) (i : Nat) : List Nat := (List.range L.length).map fun j => if j < i ∨ L.length ≤ j + i then L.getD (L.length - 1 - j) 0 else L.getD j 0
theorem revI_len {L : List Nat} {i : Nat} : (revI L i).length = L.length := by simp [revI]
theorem revI_at {L : List Nat} {i j : Nat} (h : j < L.length) : (revI L i).getD j 0 = if j < i ∨ L.length ≤ j + i then L.getD (L.length - 1 - j) 0 else L.getD j 0 := by
  unfold revI
  rw [List.getD_eq_getElem?_getD, List.getElem?_map, List.getElem?_range h]; rfl
theorem ext_getD {A B : List Nat} (hl : A.length = B.length) (h : ∀ j, j < A.length → A.getD j 0 = B.getD j 0) : A = B := by
  refine List.ext_getElem hl fun j h1 h2 => ?_
  have := h j h1
  rw [List.getD_eq_getElem?_getD, List.getD_eq_getElem?_getD, List.getElem?_eq_getElem h1, List.getElem?_eq_getElem h2] at this
  exact this
theorem revI_zero {L : List Nat} : revI L 0 = L := ext_getD revI_len fun j hj => by
  rw [revI_len] at hj
  rw [revI_at hj, if_neg (by omega)]
theorem revI_all {L : List Nat} {i : Nat} (h : L.length ≤ 2 * i + 1) : revI L i = L.reverse := ext_getD (by rw [revI_len, List.length_reverse]) fun j hj => by
  rw [revI_len] at hj
  rw [revI_at hj]
  have e : L.reverse.getD j 0 = L.getD (L.length - 1 - j) 0 := by
    rw [List.getD_eq_getElem?_getD, List.getD_eq_getElem?_getD, List.getElem?_reverse hj]
  rw [e]
  split
  · rfl
  · have : j = L.length - 1 - j := by omega
    rw [← this]
theorem revI_step {L : List Nat} {i : Nat} (h : 2 * i + 1 < L.length) : ((revI L i).set i ((revI L i).getD (L.length - 1 - i) 0)).set (L.length - 1 - i) ((revI L i).getD i 0) = revI L (i + 1) := by
  have h1 : (revI L i).getD (L.length - 1 - i) 0 = L.getD (L.length - 1 - i) 0 := by rw [revI_at (by omega), if_neg (by omega)]
  have h2 : (revI L i).getD i 0 = L.getD i 0 := by rw [revI_at (by omega), if_neg (by omega)]
  rw [h1, h2]
  refine ext_getD (by simp [revI_len]) fun j hj => ?_
  simp only [List.length_set, revI_len] at hj
  rw [revI_at hj, List.getD_eq_getElem?_getD, List.getElem?_set]
  by_cases e1 : L.length - 1 - i = j
  · rw [if_pos e1, if_pos (by simp [revI_len]; omega), if_pos (by omega), ← e1, show L.length - 1 - (L.length - 1 - i) = i by omega]; rfl
  · rw [if_neg e1, List.getElem?_set]
    by_cases e2 : i = j
    · subst e2
      rw [if_pos rfl, if_pos (by rw [revI_len]; exact hj), if_pos (by omega)]; rfl
    · rw [if_neg e2, ← List.getD_eq_getElem?_getD, revI_at hj]
      by_cases e3 : j < i ∨ L.length ≤ j + i
      · rw [if_pos e3, if_pos (by omega)]
      · rw [if_neg e3, if_neg (by omega)]
section
variable {P : Program} {base : World} {n : Nat} {env : Env} {l : List HP} {F : HP} {fn : Func} {α : Type} {val : α → Value} {post : α → List HP} {t1 t2 t3 t4 t5 : Nat} {v1 v2 v3 v4 v5 : Value}
end
end Go.Sl
namespace Go.Proofs.YtdpiglociolagaaGreat
open Go.Lk Go.Sl
attribute [local irreducible] TK TL TC Th Bk Nx fnPost WA TQ OpQ OpN SpecH Rd Ent IterH RoundH Rb Rp fnPostM
attribute [local irreducible] Sl.revI
set_option maxHeartbeats 4000000 in
instance reverse_spec : Known Tryz.prog 27 (∀ (a : Option Addr) (m cap : Nat) (L : List Nat), m = L.length → m ≤ 4194304 → SpecH Tryz.prog 27 #[.slice a m cap] [Vec 41 1 a m cap (u32s L)] (fun _ : Unit => .tuple #[]) (fun _ => [Vec 41 1 a m cap (u32s L.reverse)])) := ⟨fun a m cap L hm hx => by
  subst hm
  refine spec_of Tryz.func27 rfl Tryz.ntmps27 rfl [(0, _)] rfl ?_; intro base F l0 hl0; (try simp only [List.cons_append] at hl0); (try simp only [List.nil_append] at hl0); subst hl0
  repeat' (first | refine stp ?_ | refine And.intro ?_ ?_ | (intro e; exfalso; omega) | (intro e; subst e) | intro _)
  refine tc_lp (ι := {x : Nat × Int // x.1 ≤ L.length ∧ x.2 = (L.length : Nat) - 1 - (x.1 : Nat)}) [2, 3] (fun e x => (2, .int .i64 (x.1.1 : Nat)) :: (3, .int .i64 x.1.2) :: e)
    (fun x => [Vec 41 1 a L.length cap (u32s (revI L x.1.1)), F]) (fun x => L.length - x.1.1) ⟨(0, (L.length : Nat) - 1), by omega, by dsimp only; omega⟩ ?_ (hl := by dsimp only; rw [revI_zero]; exact en)
  rintro K ⟨⟨i, w⟩, hi, hw⟩ hK
  dsimp only at hi hw ⊢
  have hl := revI_len (L := L) (i := i)
  by_cases hc : 2 * i + 1 < L.length
  · obtain rfl : w = ((L.length - 1 - i : Nat) : Int) := by omega
    have e := revI_step hc
    have hl2 : ((revI L i).set i ((revI L i).getD (L.length - 1 - i) 0)).length = L.length := by rw [List.length_set]; exact hl
    refine TC.vecAt (a := a) (by (repeat (first | (with_reducible exact Rem.here _ _) | (with_reducible apply Rem.there) | fail)); done) (by omega) ?_
    rintro ⟨b, rfl⟩
    repeat' (first | ((fail_if_success (refine atD ?_)); refine stp ?_) | refine And.intro ?_ ?_ | (intro e; exfalso; omega) | (intro e; subst e) | intro _)
    refine drx [Vec 41 1 (some ⟨b, 0, none⟩) L.length cap (u32s (revI L i))] ?_
    refine tks [0, 1, 2, 3, 4, 5, 8, 9, 6, 10] 6 ?_; repeat' (first | refine stp ?_ | refine And.intro ?_ ?_ | (intro e; exfalso; omega) | (intro e; subst e) | intro _)
    refine hvqq 7 11 ?_
    refine tks [12] 3 ?_; repeat' (first | refine stp ?_ | refine And.intro ?_ ?_ | (intro e; exfalso; omega) | (intro e; subst e) | intro _)
    refine hv0 13 fun x13 => ?_
    refine tks [14] 1 ?_; repeat' (first | refine stp ?_ | refine And.intro ?_ ?_ | (intro e; exfalso; omega) | (intro e; subst e) | intro _)
    refine hv0 15 fun x15 => ?_
    rw [e]
    repeat' (first | refine stp ?_ | refine And.intro ?_ ?_ | (intro e; exfalso; omega) | (intro e; subst e) | intro _)
    exact again hK ⟨(i + 1, ((L.length - 1 - i : Nat) : Int) - 1), by omega, by dsimp only; omega⟩
  · rw [revI_all (by omega)]
    repeat' (first | refine stp ?_ | refine And.intro ?_ ?_ | (intro e; exfalso; omega) | (intro e; subst e) | intro _)
    exact re0 () rfl⟩
end Go.Proofs.YtdpiglociolagaaGreat
