/- The laws of lru, walked: any calls, and the list after each of them. -/
import Derived.Test.YtbdiabakcgafgaaLrL2
import Derived.Test.YtbdiabakcgafgaaLrL3
namespace Go.Proofs.Ytbdiabakcgafgaa
open Go.Lk Go.Sl Go.Lr
section
variable {r0 : Option Nat} {P : Program} {base : World} {n : Nat} {ds : List Deferred} {Q : Exit → Act → World → Prop} {env : Env} {l r : List HP} {c : Code}
theorem tc_allR' {α : Type} {g : Value → α → HP} {vs : List Value} {xs : List α} {i : Nat} {v : Value} {x : α} (hv : vs[i]? = some v) (hx : xs[i]? = some x) (h : TC r0 P base n ds c Q env (g v x :: l)) (hr : Rem l (AllR g vs xs) r := by (repeat (first | (with_reducible exact Rem.here _ _) | (with_reducible apply Rem.there) | fail)); done) : TC r0 P base n ds c Q env l := TC.ent (l' := g v x :: l) (fun _ y => allR_get hr hv hx y) h
theorem tc_to {As : Nat → Lr.RAct} {ta : Nat → Option Addr} {tc : Nat → Nat} {m i : Nat} (hi : i < m) (h : TC r0 P base n ds c Q env (RoS 1 (ta i) (As i).to.length (tc i) (u32s (As i).to) :: l)) (hr : Rem l (AllR RU ((List.range m).map fun i => .slice (ta i) (As i).to.length (tc i)) ((List.range m).map fun i => (As i).to)) r := by (repeat (first | (with_reducible exact Rem.here _ _) | (with_reducible apply Rem.there) | fail)); done) : TC r0 P base n ds c Q env l := by
  have hv1 : ((List.range m).map fun i => (.slice (ta i) (As i).to.length (tc i) : Value))[i]? = some (.slice (ta i) (As i).to.length (tc i)) := by simp [hi]
  have hx1 : ((List.range m).map fun i => (As i).to)[i]? = some (As i).to := by simp [hi]
  refine tc_allR' (g := RU) hv1 hx1 ?_ hr
  refine RU.openC (.here _ _) fun a q e => ?_
  obtain ⟨rfl, rfl⟩ : ta i = a ∧ tc i = q := by simp at e; exact e
  exact TC.ent (Ent.cons (.here _ _) (fun _ y => lst_drop y)) h
end
attribute [local irreducible] TK TL TC Th Bk Nx fnPost WA TQ OpQ OpN SpecH Rd Ent IterH RoundH Rb Rp fnPostM
instance (As : Nat → Lr.RAct) (ta : Nat → Option Addr) (tc : Nat → Nat) : Width (fun i => ([.int .i64 (As i).what, .int .u32 ((As i).slot : Nat), .slice (ta i) (As i).to.length (tc i)] : List Value)) 3 := ⟨fun _ => rfl⟩
set_option maxRecDepth 20000 in
set_option maxHeartbeats 4000000 in
instance lrl_few : Known Try.prog 45 (∀ (a : Option Addr) (n cap : Nat) (As : Nat → Lr.RAct) (ta : Nat → Option Addr) (tc : Nat → Nat), SpecH Try.prog 45 #[.slice a n cap] [RoS 3 a n cap (rows n fun i => [.int .i64 (As i).what, .int .u32 ((As i).slot : Nat), .slice (ta i) (As i).to.length (tc i)]), AllR RU ((List.range n).map fun i => .slice (ta i) (As i).to.length (tc i)) ((List.range n).map fun i => (As i).to)]
    (fun b : {b : Bool // b = true → n ≤ 40 ∧ ∀ i, i < n → (As i).to.length ≤ 200} => .bool b.1) (fun _ => [])) := ⟨fun a n cap As ta tc => by
  refine spec_of Try.func45 rfl Try.ntmps45 rfl [(0, _)] rfl ?_; intro base F l0 hl0; (try simp only [List.cons_append] at hl0); (try simp only [List.nil_append] at hl0); subst hl0
  repeat' (first | refine stx ?_ | refine And.intro ?_ ?_ | (intro e; exfalso; omega) | (intro e; subst e) | intro _)
  refine tc_lp (ι := {i : Nat // i ≤ n ∧ i ≤ 41 ∧ ∀ j, j < i → (As j).to.length ≤ 200}) [3] (fun e x => (3, .int .i64 (x.1 : Nat)) :: e) (fun _ => [RoS 3 a n cap (rows n fun i => [.int .i64 (As i).what, .int .u32 ((As i).slot : Nat), .slice (ta i) (As i).to.length (tc i)]), AllR RU ((List.range n).map fun i => .slice (ta i) (As i).to.length (tc i)) ((List.range n).map fun i => (As i).to), F]) (fun x => 41 - x.1) ⟨0, by omega, by omega, by omega⟩ ?_
  rintro K ⟨i, h1, h2, h3⟩ hK
  dsimp only at h1 h2 h3 ⊢
  by_cases hc : i < n ∧ i < 41
  · by_cases hl : (As i).to.length ≤ 200
    · refine tc_to (As := As) (ta := ta) (tc := tc) hc.1 ?_
      rcases Classical.em (((As i).slot : Int) < 4194304) with h6 | h6
      all_goals (repeat' (first | refine stx ?_ | refine And.intro ?_ ?_ | (intro e; exfalso; omega) | (intro e; subst e) | intro _))
      all_goals first
        | exact rt1 ⟨false, fun h => by cases h⟩ rfl
        | (refine tc_lp (ι := {k : Nat // k ≤ (As i).to.length}) [4] (fun e x => (4, .int .i64 (x.1 : Nat)) :: e) (fun _ => [RoS 1 (ta i) (As i).to.length (tc i) (u32s (As i).to), RoS 3 a n cap (rows n fun i => [.int .i64 (As i).what, .int .u32 ((As i).slot : Nat), .slice (ta i) (As i).to.length (tc i)]), AllR RU ((List.range n).map fun i => .slice (ta i) (As i).to.length (tc i)) ((List.range n).map fun i => (As i).to), F]) (fun x => (As i).to.length - x.1) ⟨0, by omega⟩ ?_
           rintro K2 ⟨k, hk⟩ hK2
           dsimp only at hk ⊢
           by_cases hkl : k < (As i).to.length
           · rcases Classical.em ((((As i).to.getD k 0 : Nat) : Int) < 4194304) with h7 | h7
             all_goals (repeat' (first | refine stx ?_ | refine And.intro ?_ ?_ | (intro e; exfalso; omega) | (intro e; subst e) | intro _))
             all_goals first
               | exact rt1 ⟨false, fun h => by cases h⟩ rfl
               | exact again hK2 ⟨k + 1, by omega⟩
           · repeat' (first | refine stx ?_ | refine And.intro ?_ ?_ | (intro e; exfalso; omega) | (intro e; subst e) | intro _)
             exact again hK ⟨i + 1, by omega, by omega, fun j hj => by
               rcases Nat.lt_or_ge j i with h | h
               · exact h3 j h
               · obtain rfl : j = i := by omega
                 exact hl⟩)
    · repeat' (first | refine stx ?_ | refine And.intro ?_ ?_ | (intro e; exfalso; omega) | (intro e; subst e) | intro _)
      exact rt1 ⟨false, fun h => by cases h⟩ rfl
  · repeat' (first | refine stx ?_ | refine And.intro ?_ ?_ | (intro e; exfalso; omega) | (intro e; subst e) | intro _)
    all_goals first
      | exact rt1 ⟨false, fun h => by cases h⟩ rfl
      | exact rt1 ⟨true, fun _ => ⟨by omega, fun j hj => h3 j (by omega)⟩⟩ rfl
      | exact rt1 ⟨decide ((n : Int) ≤ 40), fun h => by
          have h4 : (n : Int) ≤ 40 := of_decide_eq_true h
          exact ⟨by omega, fun j hj => h3 j (by omega)⟩⟩ rfl⟩
set_option maxHeartbeats 8000000 in
theorem lplays_spec (a : Option Addr) (n cap : Nat) (As : Nat → Lr.RAct) (ta : Nat → Option Addr) (tc : Nat → Nat) (hA : ∀ i, i < n → (As i).slot < 4294967296 ∧ ∀ x ∈ (As i).to, x < 4294967296) :
    SpecH Try.prog 11 #[.slice a n cap] [RoS 3 a n cap (rows n fun i => [.int .i64 (As i).what, .int .u32 ((As i).slot : Nat), .slice (ta i) (As i).to.length (tc i)]), AllR RU ((List.range n).map fun i => .slice (ta i) (As i).to.length (tc i)) ((List.range n).map fun i => (As i).to)] (fun _ : Unit => .bool true) (fun _ => []) := by
  refine spec_of Try.func11 rfl Try.ntmps11 rfl [(0, _)] rfl ?_; intro base F l0 hl0; (try simp only [List.cons_append] at hl0); (try simp only [List.nil_append] at hl0); subst hl0
  repeat' (first | refine stx ?_ | refine And.intro ?_ ?_ | (intro e; exfalso; omega) | (intro e; subst e) | intro _)
  · exact rt1 () rfl
  · rename_i x hx p
    obtain ⟨hn, hlen⟩ := x.2 (by simpa using hx)
    refine tc_lp (ι := {x : Nat × Nat × List Nat × Option Addr × Nat // x.1 ≤ n ∧ x.2.2.1.length ≤ x.1}) [3, 4, 5] (fun e x => (3, .pointer (some ⟨x.1.2.1, 0, none⟩)) :: (4, .slice x.1.2.2.2.1 x.1.2.2.1.length x.1.2.2.2.2) :: (5, .int .i64 (x.1.1 : Nat)) :: e)
      (fun x => [LruAt x.1.2.1 x.1.2.2.1, RoS 1 x.1.2.2.2.1 x.1.2.2.1.length x.1.2.2.2.2 (u32s x.1.2.2.1), RoS 3 a n cap (rows n fun i => [.int .i64 (As i).what, .int .u32 ((As i).slot : Nat), .slice (ta i) (As i).to.length (tc i)]), AllR RU ((List.range n).map fun i => .slice (ta i) (As i).to.length (tc i)) ((List.range n).map fun i => (As i).to), F]) (fun x => n - x.1.1) ⟨(0, p, [], none, 0), by simp⟩ ?_
    rintro K ⟨⟨i, p, L, qa, qc⟩, hi, hL⟩ hK
    dsimp only at hi hL ⊢
    by_cases hc : i < n
    · obtain ⟨hA1, hA2⟩ := hA i hc
      have hA4 := hlen i hc
      have hsl := Lr.stepR_len (L := L) (a := As i)
      refine tc_to (As := As) (ta := ta) (tc := tc) hc ?_
      repeat' (first | refine stx ?_ | refine And.intro ?_ ?_ | (intro e; exfalso; omega) | (intro e; subst e) | intro _)
      rename_i p2 q2
      exact again hK ⟨(i + 1, p2, Lr.stepR L (As i), q2.1, q2.2), by omega, by dsimp only; omega⟩
    · repeat' (first | refine stx ?_ | refine And.intro ?_ ?_ | (intro e; exfalso; omega) | (intro e; subst e) | intro _)
      exact rt1 () rfl
end Go.Proofs.Ytbdiabakcgafgaa
