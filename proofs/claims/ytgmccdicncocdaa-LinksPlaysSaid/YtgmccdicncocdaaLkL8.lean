/- The laws of links, walked: any calls, and all lists and nodes after each of them. -/
import Derived.Test.YtgmccdicncocdaaLkL5
import Derived.Test.YtgmccdicncocdaaLkL6
import Derived.Test.YtgmccdicncocdaaLkWfs
namespace Go.Proofs.Ytgmccdicncocdaa
open Go.Sl Go.Lk
section
variable {r0 : Option Nat} {P : Program} {base : World} {n : Nat} {ds : List Deferred} {Q : Exit → Act → World → Prop} {env : Env} {l r : List HP} {c : Code}
theorem tc_allR {α : Type} {g : Value → α → HP} {vs : List Value} {xs : List α} {i : Nat} {v : Value} {x : α} (hv : vs[i]? = some v) (hx : xs[i]? = some x) (h : TC r0 P base n ds c Q env (g v x :: l)) (hr : Rem l (AllR g vs xs) r := by (repeat (first | (with_reducible exact Rem.here _ _) | (with_reducible apply Rem.there) | fail)); done) : TC r0 P base n ds c Q env l := TC.ent (l' := g v x :: l) (fun _ y => allR_get hr hv hx y) h
end
attribute [local irreducible] TK TL TC Th Bk Nx fnPost WA TQ OpQ OpN SpecH Rd Ent IterH RoundH Rb Rp fnPostM
attribute [local irreducible] Fld.addE Fld.addF Fld.befE Fld.befF Fld.inE Fld.remF Fld.first Fld.last Fld.next Fld.prev Fld.ofR Fld.listOf Fld.joinE Fld.joinF renE renG Fld.at Fld.set Fld.place
attribute [local irreducible] stepF
instance (As : Nat → LAct) (ta : Nat → Option Addr) (tc : Nat → Nat) : Width (fun i => ([.int .i64 (As i).what, .int .i64 (As i).head, .int .i64 (As i).other, .int .u32 (As i).node, .int .u32 (As i).beside, .slice (ta i) (As i).to.length (tc i)] : List Value)) 6 := ⟨fun _ => rfl⟩
instance few_spec : Known Try.prog 31 (∀ (a : Option Addr) (n cap : Nat) (As : Nat → LAct) (ta : Nat → Option Addr) (tc : Nat → Nat), SpecH Try.prog 31 #[.slice a n cap] [RoS 6 a n cap (rows n fun i => [.int .i64 (As i).what, .int .i64 (As i).head, .int .i64 (As i).other, .int .u32 (As i).node, .int .u32 (As i).beside, .slice (ta i) (As i).to.length (tc i)])]
    (fun b : {b : Bool // b = true → n ≤ 30 ∧ ∀ i, i < n → (As i).to.length ≤ 200} => .bool b.1) (fun _ => [])) := ⟨fun a n cap As ta tc => by
  refine spec_of Try.func31 rfl Try.ntmps31 rfl [(0, _)] rfl ?_; intro base F l0 hl0; (try simp only [List.cons_append] at hl0); (try simp only [List.nil_append] at hl0); subst hl0
  repeat' (first | refine st ?_ | refine And.intro ?_ ?_ | (intro e; exfalso; omega) | (intro e; subst e) | intro _)
  refine tc_lp (ι := {i : Nat // i ≤ n ∧ i ≤ 31 ∧ ∀ j, j < i → (As j).to.length ≤ 200}) [3] (fun e x => (3, .int .i64 (x.1 : Nat)) :: e) (fun _ => [RoS 6 a n cap (rows n fun i => [.int .i64 (As i).what, .int .i64 (As i).head, .int .i64 (As i).other, .int .u32 (As i).node, .int .u32 (As i).beside, .slice (ta i) (As i).to.length (tc i)]), F]) (fun x => 31 - x.1) ⟨0, by omega, by omega, by omega⟩ ?_
  rintro K ⟨i, h1, h2, h3⟩ hK
  dsimp only at h1 h2 h3 ⊢
  by_cases hc : i < n ∧ i < 31
  · by_cases hl : (As i).to.length ≤ 200
    · repeat' (first | refine st ?_ | refine And.intro ?_ ?_ | (intro e; exfalso; omega) | (intro e; subst e) | intro _)
      exact again hK ⟨i + 1, by omega, by omega, fun j hj => by
        rcases Nat.lt_or_ge j i with h | h
        · exact h3 j h
        · obtain rfl : j = i := by omega
          exact hl⟩
    · repeat' (first | refine st ?_ | refine And.intro ?_ ?_ | (intro e; exfalso; omega) | (intro e; subst e) | intro _)
      exact rt1 ⟨false, fun h => by cases h⟩ rfl
  · repeat' (first | refine st ?_ | refine And.intro ?_ ?_ | (intro e; exfalso; omega) | (intro e; subst e) | intro _)
    all_goals first
      | exact rt1 ⟨false, fun h => by cases h⟩ rfl
      | exact rt1 ⟨true, fun _ => ⟨by omega, fun j hj => h3 j (by omega)⟩⟩ rfl
      | exact rt1 ⟨decide ((n : Int) ≤ 30), fun h => by
          have h4 : (n : Int) ≤ 30 := of_decide_eq_true h
          exact ⟨by omega, fun j hj => h3 j (by omega)⟩⟩ rfl⟩
instance step_k : Known Try.prog 32 (∀ (p : Nat) (f : Fld) (a : Option Addr) (c : Nat) (A : LAct) (ta : Option Addr) (tc : Nat), Wf f → A.node < 4294967296 → A.beside < 4294967296 → (∀ x ∈ A.to, x < 4294967296) → A.to.length ≤ 200 →
    SpecH Try.prog 32 #[.pointer (some ⟨p, 0, none⟩), .agg #[.int .i64 f.N, .slice a f.L.length c], .agg #[.int .i64 A.what, .int .i64 A.head, .int .i64 A.other, .int .u32 A.node, .int .u32 A.beside, .slice ta A.to.length tc]] [FieldAt p f, RF (.agg #[.int .i64 f.N, .slice a f.L.length c]) f, RU (.slice ta A.to.length tc) A.to]
      (fun q : Nat × Option Addr × Nat => .tuple #[.pointer (some ⟨q.1, 0, none⟩), .agg #[.int .i64 (stepF f A).N, .slice q.2.1 (stepF f A).L.length q.2.2], .bool true]) (fun q => [FieldAt q.1 (stepF f A), RF (.agg #[.int .i64 (stepF f A).N, .slice q.2.1 (stepF f A).L.length q.2.2]) (stepF f A)])) := ⟨step_spec⟩
set_option maxRecDepth 20000 in
set_option maxHeartbeats 8000000 in
theorem plays_spec (nodes heads : Int) (a : Option Addr) (n cap : Nat) (As : Nat → LAct) (ta : Nat → Option Addr) (tc : Nat → Nat) (hA : ∀ i, i < n → (As i).node < 4294967296 ∧ (As i).beside < 4294967296 ∧ ∀ x ∈ (As i).to, x < 4294967296) :
    SpecH Try.prog 7 #[.int .i64 nodes, .int .i64 heads, .slice a n cap] [RoS 6 a n cap (rows n fun i => [.int .i64 (As i).what, .int .i64 (As i).head, .int .i64 (As i).other, .int .u32 (As i).node, .int .u32 (As i).beside, .slice (ta i) (As i).to.length (tc i)]), AllR RU ((List.range n).map fun i => .slice (ta i) (As i).to.length (tc i)) ((List.range n).map fun i => (As i).to)] (fun _ : Unit => .bool true) (fun _ => []) := by
  by_cases hb : nodes < 1 ∨ 60 < nodes ∨ heads < 1 ∨ 8 < heads
  · refine spec_of Try.func7 rfl Try.ntmps7 rfl [(0, _), (1, _), (2, _)] rfl ?_; intro base F l0 hl0; (try simp only [List.cons_append] at hl0); (try simp only [List.nil_append] at hl0); subst hl0
    repeat' (first | refine st ?_ | refine And.intro ?_ ?_ | (intro e; exfalso; omega) | (intro e; subst e) | intro _)
    all_goals exact rt1 () rfl
  · obtain ⟨N, rfl⟩ : ∃ N : Nat, nodes = N := ⟨nodes.toNat, by omega⟩
    obtain ⟨M, rfl⟩ : ∃ M : Nat, heads = M := ⟨heads.toNat, by omega⟩
    have hw : Wf ⟨N, List.replicate M []⟩ := Wf.new (by omega) (by omega) (by omega) (by omega)
    have hl : (⟨N, List.replicate M []⟩ : Fld).L.length = M := by simp
    refine spec_of Try.func7 rfl Try.ntmps7 rfl [(0, _), (1, _), (2, _)] rfl ?_; intro base F l0 hl0; (try simp only [List.cons_append] at hl0); (try simp only [List.nil_append] at hl0); subst hl0
    repeat' (first | refine st ?_ | refine And.intro ?_ ?_ | (intro e; exfalso; omega) | (intro e; subst e) | intro _)
    · exact rt1 () rfl
    · rename_i x hx p qa qc b9
      obtain ⟨hn30, hlen⟩ := x.2 (by simpa using hx)
      refine tc_lp (ι := {x : Nat × Nat × Fld × Option Addr × Nat // x.1 ≤ n ∧ Wf x.2.2.1 ∧ x.2.2.1.N ≤ 300}) [7, 11] (fun e x => (7, .pointer (some ⟨x.1.2.1, 0, none⟩)) :: (11, .int .i64 (x.1.1 : Nat)) :: e)
        (fun x => [obj b9 30 [.int .i64 x.1.2.2.1.N, .slice x.1.2.2.2.1 x.1.2.2.1.L.length x.1.2.2.2.2], RF (.agg #[.int .i64 x.1.2.2.1.N, .slice x.1.2.2.2.1 x.1.2.2.1.L.length x.1.2.2.2.2]) x.1.2.2.1, FieldAt x.1.2.1 x.1.2.2.1, RoS 6 a n cap (rows n fun i => [.int .i64 (As i).what, .int .i64 (As i).head, .int .i64 (As i).other, .int .u32 (As i).node, .int .u32 (As i).beside, .slice (ta i) (As i).to.length (tc i)]), AllR RU ((List.range n).map fun i => .slice (ta i) (As i).to.length (tc i)) ((List.range n).map fun i => (As i).to), F])
        (fun x => n - x.1.1) ⟨(0, p, ⟨N, List.replicate M []⟩, qa, qc), by omega, hw, by show N ≤ 300; omega⟩ ?_ (hl := by dsimp only; rw [hl]; exact en)
      rintro K ⟨⟨i, p, f, qa, qc⟩, hi, w, hN⟩ hK
      dsimp only at hi w hN ⊢
      by_cases hc : i < n
      · obtain ⟨hA1, hA2, hA3⟩ := hA i hc
        have hA4 := hlen i hc
        have w' := w.stepF (As i)
        have hN' : (stepF f (As i)).N ≤ 5000 := by have := (stepF_keeps (f := f) (a := As i)).2 hN; omega
        have hv1 : ((List.range n).map fun i => (.slice (ta i) (As i).to.length (tc i) : Value))[i]? = some (.slice (ta i) (As i).to.length (tc i)) := by simp [hc]
        have hx1 : ((List.range n).map fun i => (As i).to)[i]? = some (As i).to := by simp [hc]
        refine tc_allR (g := RU) hv1 hx1 ?_
        repeat' (first | ((fail_if_success (refine atD ?_)); refine st ?_) | refine And.intro ?_ ?_ | (intro e; exfalso; omega) | (intro e; subst e) | intro _)
        refine drx [FieldAt p f] ?_
        refine tks [0, 1, 2, 3, 4, 5] 9 ?_; repeat' (first | refine st ?_ | refine And.intro ?_ ?_ | (intro e; subst e) | intro _)
        refine hv2 6 11 (fun q => ?_) (fun b13 => ?_)
        · refine tks [7, 8, 9, 10] 4 ?_; repeat' (first | refine st ?_ | refine And.intro ?_ ?_ | (intro e; subst e) | intro _)
          refine hv 11 fun b13 => ?_
          refine tks [12] 2 ?_; repeat' (first | refine st ?_ | refine And.intro ?_ ?_ | (intro e; subst e) | intro _)
          refine hv0 13 fun _ => ?_
          refine tks [14] 0 ?_; repeat' (first | refine st ?_ | refine And.intro ?_ ?_ | (intro e; exfalso; omega) | (intro e; subst e) | intro _)
          refine drx [obj b9 30 [.int .i64 f.N, .slice qa f.L.length qc]] ?_
          refine tks [0, 1, 2] 1 ?_; repeat' (first | refine st ?_ | refine And.intro ?_ ?_ | (intro e; subst e) | intro _)
          refine hv0 3 fun _ => ?_
          repeat' (first | refine st ?_ | refine And.intro ?_ ?_ | (intro e; exfalso; omega) | (intro e; subst e) | intro _)
          exact again hK ⟨(i + 1, q.1, stepF f (As i), q.2.1, q.2.2), by omega, w', by have := (stepF_keeps (f := f) (a := As i)).2 (by omega); omega⟩
        · refine hv 6 fun q => ?_
          refine tks [7, 8, 9, 10, 12] 2 ?_; repeat' (first | refine st ?_ | refine And.intro ?_ ?_ | (intro e; subst e) | intro _)
          skip
          refine hv0 13 fun _ => ?_
          refine tks [14] 0 ?_; repeat' (first | refine st ?_ | refine And.intro ?_ ?_ | (intro e; exfalso; omega) | (intro e; subst e) | intro _)
          refine drx [obj b9 30 [.int .i64 f.N, .slice qa f.L.length qc]] ?_
          refine tks [0, 1, 2] 1 ?_; repeat' (first | refine st ?_ | refine And.intro ?_ ?_ | (intro e; subst e) | intro _)
          refine hv0 3 fun _ => ?_
          repeat' (first | refine st ?_ | refine And.intro ?_ ?_ | (intro e; exfalso; omega) | (intro e; subst e) | intro _)
          exact again hK ⟨(i + 1, q.1, stepF f (As i), q.2.1, q.2.2), by omega, w', by have := (stepF_keeps (f := f) (a := As i)).2 (by omega); omega⟩
      · repeat' (first | refine st ?_ | refine And.intro ?_ ?_ | (intro e; exfalso; omega) | (intro e; subst e) | intro _)
        all_goals exact rt1 () rfl
end Go.Proofs.Ytgmccdicncocdaa
