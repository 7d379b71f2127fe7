/- links, walked: joining, other numbers. -/
import Derived.Test.YtgmccdicncocdaaLkW7
namespace Go.Proofs.Ytgmccdicncocdaa
open Go.Sl Go.Lk
attribute [local irreducible] TK TL TC Th Bk Nx fnPost WA TQ OpQ OpN SpecH Rd Ent IterH RoundH Rb Rp fnPostM
theorem listOf_nat (f : Fld) (k : Nat) : f.listOf k = f.at k := by unfold Fld.listOf; rw [if_pos (by omega), Int.toNat_natCast]
set_option maxHeartbeats 4000000 in
theorem join_good (p : Nat) (f : Fld) (x y : Nat) (hx : x < f.L.length) (hy : y < f.L.length) (hne : x ≠ y) : SpecH Try.prog 24 #[.pointer (some ⟨p, 0, none⟩), .int .i64 x, .int .i64 y] [FieldAt p f] (fun _ : Unit => .int .i64 0) (fun _ => [FieldAt p ((f.set y (f.at y ++ f.at x)).set x [])]) := by
  refine spec_of Try.func24 rfl Try.ntmps24 rfl [(0, _), (1, _), (2, _)] rfl ?_; intro base F l0 hl0; (try simp only [List.cons_append] at hl0); (try simp only [List.nil_append] at hl0); subst hl0
  refine TC.know (fun _ z => FieldAt.wf (Rem.here _ _) z) fun w => ?_
  have hlen := w.len_le x
  have hbd := w.bound
  refine FieldAt.openC fun s r => ?_
  have g1 := r.n1; have g2 := r.n2; have g3 := r.m1; have g4 := r.m2; have hM := r.M
  refine LinksAt.openC (by omega) (by omega) fun b cf b2 cl => ?_
  have eX : listE s.M x = if (x : Int) < 0 ∨ (s.M : Int) ≤ x then 2 else 0 := rfl
  have eY : listE s.M y = if (y : Int) < 0 ∨ (s.M : Int) ≤ y then 2 else 0 := rfl
  repeat' (first | refine st ?_ | refine And.intro ?_ ?_ | (intro e; subst e) | intro _)
  refine tc_lp (ι := {k : Nat // k ≤ 2}) [15] (fun e k => (15, .int .i64 k.1) :: e) (fun k => _) (fun k => 2 - k.1) ⟨0, by omega⟩ ?_ (hl := Ent.refl _)
  rintro K ⟨k, hk⟩ hK
  dsimp only
  obtain rfl | rfl | rfl : k = 0 ∨ k = 1 ∨ k = 2 := by omega
  · repeat' (first | refine st ?_ | refine And.intro ?_ ?_ | (intro e; subst e) | intro _)
    exact again hK ⟨1, by omega⟩
  · repeat' (first | refine st ?_ | refine And.intro ?_ ?_ | (intro e; subst e) | intro _)
    exact again hK ⟨2, by omega⟩
  · clear hK
    (repeat refine st ?_)
    refine TL.ent (LinksAt.shut.trans (FieldAt.shut r)) ?_
    (repeat refine st ?_)
    intro a cp
    simp only [listOf_nat]
    repeat' (first | refine st ?_ | refine And.intro ?_ ?_ | (intro e; subst e) | intro _)
    refine tc_lp (ι := {i : Nat // i ≤ (f.at x).length}) [32] (fun e i => (32, .int .i64 i.1) :: e) (fun i => [FieldAt p (joinG f x y i.1), Vec 35 1 a (f.at x).length cp (u32s (f.at x)), F]) (fun i => (f.at x).length - i.1) ⟨0, by omega⟩ ?_ (hl := by rw [joinG_zero hx hy]; (try simp only [List.cons_append, List.nil_append]); (repeat (first | (with_reducible exact Ent.refl _) | (with_reducible exact Ent.nil _) | (apply Ent.fact; (focus (first | assumption | omega | decide | exact rfl | fail))) | (apply Ent.keep; (focus ((repeat (first | (with_reducible exact Rem.here _ _) | (with_reducible apply Rem.there) | fail)); done)); (focus (infer_instance))) | (apply Ent.cons; (focus ((repeat (first | (with_reducible exact Rem.here _ _) | (with_reducible apply Rem.there) | fail)); done))) | exact Ent.refl _ | exact Ent.nil _ | apply Ent.vecNil | apply Ent.roNil | fail)); done)
    rintro K ⟨i, hi⟩ hK
    dsimp only
    refine TC.know (fun _ z => FieldAt.wf (Rem.here _ _) z) fun wg => ?_
    have hge : ∀ h : i < (f.at x).length, (f.at x).getD i 0 = (f.at x)[i] := fun h => by rw [List.getD_eq_getElem?_getD, List.getElem?_eq_getElem h]; rfl
    have hn : i < (f.at x).length → (f.at x).getD i 0 < 4194304 := fun h => by rw [hge h]; have := w.lt hx (List.getElem_mem h); omega
    repeat' (first | refine st ?_ | refine And.intro ?_ ?_ | (intro e; subst e) | intro _)
    · have hlt : i < (f.at x).length := by omega
      rw [hge hlt, joinG_step wg hx hy hne hlt]
      exact again hK ⟨i + 1, by omega⟩
    · obtain rfl : i = (f.at x).length := by omega
      rw [joinG_end]
      exact rt1 () rfl
instance fJoin : Known Try.prog 24 (∀ (p : Nat) (f : Fld) (x y : Int), SpecH Try.prog 24 #[.pointer (some ⟨p, 0, none⟩), .int .i64 x, .int .i64 y] [FieldAt p f] (fun _ : Unit => .int .i64 (f.joinE x y)) (fun _ => [FieldAt p (f.joinF x y)])) := ⟨fun p f x y => by
  by_cases hb : ¬ (0 ≤ x ∧ x < f.L.length) ∨ ¬ (0 ≤ y ∧ y < f.L.length) ∨ x = y
  · have e : f.joinE x y = 2 := by unfold Fld.joinE Fld.head; simp only [decide_eq_false_iff_not]; rw [if_pos hb]
    have e2 : f.joinF x y = f := by unfold Fld.joinF; rw [if_neg (by omega)]
    rw [e, e2]
    exact join_bad p f x y hb
  · have e : f.joinE x y = 0 := by unfold Fld.joinE Fld.head; simp only [decide_eq_false_iff_not]; rw [if_neg hb]
    obtain ⟨a, rfl⟩ : ∃ a : Nat, x = a := ⟨x.toNat, by omega⟩
    obtain ⟨b, rfl⟩ : ∃ b : Nat, y = b := ⟨y.toNat, by omega⟩
    have e2 : f.joinF a b = (f.set b (f.at b ++ f.at a)).set a [] := by unfold Fld.joinF; rw [if_pos e]; simp only [Int.toNat_natCast]
    rw [e, e2]
    exact join_good p f a b (by omega) (by omega) (by omega)⟩
end Go.Proofs.Ytgmccdicncocdaa
