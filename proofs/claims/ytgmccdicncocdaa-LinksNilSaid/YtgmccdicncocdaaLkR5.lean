/- The reference of links, walked: joining; whether two lists are equal. -/
import Derived.Test.YtgmccdicncocdaaLkR3
namespace Go.Proofs.Ytgmccdicncocdaa
open Go.Sl Go.Lk
attribute [local irreducible] TK TL TC Th Bk Nx fnPost WA TQ OpQ OpN SpecH Rd Ent IterH RoundH Rb Rp fnPostM
theorem joinE_eq (f : Fld) (x y : Int) : f.joinE x y = if ¬ (0 ≤ x ∧ x < f.L.length) ∨ ¬ (0 ≤ y ∧ y < f.L.length) ∨ x = y then 2 else 0 := by
  unfold Fld.joinE Fld.head
  simp only [decide_eq_false_iff_not]
set_option maxHeartbeats 4000000 in
instance ref_join : Known Try.prog 53 (∀ (v : Value) (f : Fld) (x y : Int), Bnd f → SpecH Try.prog 53 #[v, .int .i64 x, .int .i64 y] [RF v f] (fun q : Option Addr × Nat => .tuple #[.agg #[.int .i64 f.N, .slice q.1 f.L.length q.2], .int .i64 (f.joinE x y)]) (fun q => [RF (.agg #[.int .i64 f.N, .slice q.1 f.L.length q.2]) (f.joinF x y)])) := ⟨fun v f x y B => by
  have b1 := B.N; have b2 := B.M; have b3 := B.len
  refine spec_of Try.func53 rfl Try.ntmps53 rfl [(0, _), (1, _), (2, _)] rfl ?_; intro base F l0 hl0; (try simp only [List.cons_append] at hl0); (try simp only [List.nil_append] at hl0); subst hl0
  refine RF.openC (by (repeat (first | (with_reducible exact Rem.here _ _) | (with_reducible apply Rem.there) | fail)); done) fun a c vs e hl => ?_
  subst e
  have eA := joinE_eq f x y
  have bad : f.joinE x y ≠ 0 → f.joinF x y = f := fun h => if_neg h
  repeat' (first | refine st ?_ | refine And.intro ?_ ?_ | (intro e; subst e) | intro _)
  iterate 3
    · rw [bad (by omega)]; rw [if_pos (by omega)] at eA; rw [eA]; exact ra2 (a, c) rfl
  obtain ⟨i, rfl⟩ : ∃ k : Nat, x = k := ⟨x.toNat, by omega⟩
  obtain ⟨j, rfl⟩ : ∃ k : Nat, y = k := ⟨y.toNat, by omega⟩
  have hi : i < f.L.length := by omega
  have hj : j < f.L.length := by omega
  have hlk := b3 i
  have hlk2 := b3 j
  have good : f.joinF i j = (f.set j (f.at j ++ f.at i)).set i [] := by unfold Fld.joinF; rw [if_pos (by omega)]; simp only [Int.toNat_natCast]
  rw [good, show f.joinE i j = 0 by omega]
  refine RF.rowC (by (repeat (first | (with_reducible exact Rem.here _ _) | (with_reducible apply Rem.there) | fail)); done) hi hl fun a3 c3 hva => ?_
  refine RF.rowC (by (repeat (first | (with_reducible exact Rem.here _ _) | (with_reducible apply Rem.there) | fail)); done) hj hl fun a4 c4 hvb => ?_
  refine drx [] ?_
  refine tks [0, 2, 6, 8, 1, 7, 3, 9, 4, 10] 3 ?_; repeat' (first | refine st ?_ | refine And.intro ?_ ?_ | (intro e; subst e) | intro _)
  refine hv 5 fun x5 => ?_
  refine hv 11 fun x11 => ?_
  refine tks [12] 0 ?_; repeat' (first | refine st ?_ | refine And.intro ?_ ?_ | (intro e; subst e) | intro _)
  refine TL.freeze (a := x11.1) (by (repeat (first | (with_reducible exact Rem.here _ _) | (with_reducible apply Rem.there) | fail)); done) ?_
  refine TL.ent (RU.mk (xs := f.at j ++ f.at i) (by simp [u32s]) (by simp)) ?_
  have hs1 : (f.set j (f.at j ++ f.at i)).L.length = f.L.length := Fld.set_len
  repeat' (first | refine st ?_ | refine And.intro ?_ ?_ | (intro e; subst e) | intro _)
  refine TL.ent (RU.nil) ?_
  repeat' (first | refine st ?_ | refine And.intro ?_ ?_ | (intro e; subst e) | intro _)
  simp only [Fld.set_len, Fld.set_N]
  rename_i a8 c8 a9 c9

  exact ra2 (a9, c9) rfl⟩
set_option maxHeartbeats 4000000 in
instance ref_same : Known Try.prog 28 (∀ (a a2 : Option Addr) (m m2 c c2 : Nat) (cs cs2 : List Value) (xs ys : List Nat), AsU cs xs → AsU cs2 ys → m = xs.length → m2 = ys.length → m ≤ 4194304 → m2 ≤ 4194304 → SpecH Try.prog 28 #[.slice a m c, .slice a2 m2 c2] [RoS 1 a m c cs, RoS 1 a2 m2 c2 cs2] (fun _ : Unit => .bool (decide (xs = ys))) (fun _ => [])) := ⟨fun a a2 m m2 c c2 cs cs2 xs ys hcs hcs2 hm hm2 hx hy => by
  subst hm; subst hm2
  rw [hcs.out, hcs2.out]
  refine spec_of Try.func28 rfl Try.ntmps28 rfl [(0, _), (1, _)] rfl ?_; intro base F l0 hl0; (try simp only [List.cons_append] at hl0); (try simp only [List.nil_append] at hl0); subst hl0
  repeat' (first | refine st ?_ | refine And.intro ?_ ?_ | (intro e; subst e) | intro _)
  · refine rt1 () ?_
    congr 1; symm; rw [decide_eq_false_iff_not]; rintro rfl; omega
  · have hlen : xs.length = ys.length := by omega
    refine tc_lp (ι := {i : Nat // i ≤ xs.length ∧ ∀ j, j < i → xs.getD j 0 = ys.getD j 0}) [5] (fun e i => (5, .int .i64 i.1) :: e) (fun _ => _) (fun i => xs.length - i.1) ⟨0, by omega, by omega⟩ ?_ (hl := Ent.refl _)
    rintro K ⟨i, hi, he⟩ hK
    dsimp only
    repeat' (first | refine st ?_ | refine And.intro ?_ ?_ | (intro e; subst e) | intro _)
    · refine rt1 () ?_
      congr 1; symm; rw [decide_eq_false_iff_not]; rintro rfl; omega
    · refine again hK ⟨i + 1, by omega, fun j hj => ?_⟩
      rcases Nat.lt_or_ge j i with x | x
      · exact he j x
      · obtain rfl : j = i := by omega
        omega
    · refine rt1 () ?_
      congr 1; symm; rw [decide_eq_true_iff]
      refine List.ext_getElem hlen fun j h1 h2 => ?_
      have := he j (by omega)
      rw [List.getD_eq_getElem?_getD, List.getD_eq_getElem?_getD, List.getElem?_eq_getElem h1, List.getElem?_eq_getElem h2] at this
      exact this⟩
end Go.Proofs.Ytgmccdicncocdaa
