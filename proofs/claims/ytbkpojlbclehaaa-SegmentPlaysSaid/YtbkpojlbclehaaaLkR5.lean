/- The reference of links, walked: joining; whether two lists are equal. -/
import Derived.Test.YtbkpojlbclehaaaLkR3
namespace Go.Proofs.Ytbkpojlbclehaaa
open Go.Sl Go.Lk
attribute [local irreducible] TK TL TC Th Bk Nx fnPost WA TQ OpQ OpN SpecH Rd Ent IterH RoundH Rb Rp fnPostM
theorem joinE_eq (f : Fld) (x y : Int) : f.joinE x y = if ¬ (0 ≤ x ∧ x < f.L.length) ∨ ¬ (0 ≤ y ∧ y < f.L.length) ∨ x = y then 2 else 0 := by
  unfold Fld.joinE Fld.head
  simp only [decide_eq_false_iff_not]
set_option maxHeartbeats 4000000 in
instance ref_same : Known Try.prog 64 (∀ (a a2 : Option Addr) (m m2 c c2 : Nat) (cs cs2 : List Value) (xs ys : List Nat), AsU cs xs → AsU cs2 ys → m = xs.length → m2 = ys.length → m ≤ 4194304 → m2 ≤ 4194304 → SpecH Try.prog 64 #[.slice a m c, .slice a2 m2 c2] [RoS 1 a m c cs, RoS 1 a2 m2 c2 cs2] (fun _ : Unit => .bool (decide (xs = ys))) (fun _ => [])) := ⟨fun a a2 m m2 c c2 cs cs2 xs ys hcs hcs2 hm hm2 hx hy => by
  subst hm; subst hm2
  rw [hcs.out, hcs2.out]
  refine spec_of Try.func64 rfl Try.ntmps64 rfl [(0, _), (1, _)] rfl ?_; intro base F l0 hl0; (try simp only [List.cons_append] at hl0); (try simp only [List.nil_append] at hl0); subst hl0
  repeat' (first | refine st ?_ | refine And.intro ?_ ?_ | (intro e; subst e) | intro _)
  · refine rt1 () ?_
    congr 1; symm; rw [decide_eq_false_iff_not]; rintro rfl; omega
  · have hlen : xs.length = ys.length := by omega
    refine tc_lp (ι := {i : Nat // i ≤ xs.length ∧ ∀ j, j < i → xs.getD j 0 = ys.getD j 0}) [5] (fun e i => (5, .int .i64 i.1) :: e) (fun _ => _) (fun i => xs.length - i.1) ⟨0, by omega, by omega⟩ ?_ (hl := Ent.refl _)
    rintro K ⟨i, hi, he⟩ hK
    dsimp only
    repeat' (first | refine st ?_ | refine And.intro ?_ ?_ | (intro e; subst e) | intro _)
    · refine rt1 () ?_
      congr 1; symm; rw [decide_eq_false_iff_not]; rintro rfl; omega
    · refine again hK ⟨i + 1, by omega, fun j hj => ?_⟩
      rcases Nat.lt_or_ge j i with x | x
      · exact he j x
      · obtain rfl : j = i := by omega
        omega
    · refine rt1 () ?_
      congr 1; symm; rw [decide_eq_true_iff]
      refine List.ext_getElem hlen fun j h1 h2 => ?_
      have := he j (by omega)
      rw [List.getD_eq_getElem?_getD, List.getD_eq_getElem?_getD, List.getElem?_eq_getElem h1, List.getElem?_eq_getElem h2] at this
      exact this⟩
end Go.Proofs.Ytbkpojlbclehaaa
