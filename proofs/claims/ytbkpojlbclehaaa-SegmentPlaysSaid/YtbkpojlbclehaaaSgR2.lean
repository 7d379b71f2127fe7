/- The reference of segment, walked: Find, Cost. -/
import Derived.Test.YtbkpojlbclehaaaSgR1
import Derived.Test.YtbkpojlbclehaaaSlD
namespace Go.Sg
/-- Where a slot is, and at which place. -/
structure FindR (P T : List It) (k : Nat) (g i : Int) : Prop where
  out : (g = -1 ∧ i = -1 ∧ k ∉ sl P ∧ k ∉ sl T) ∨ (g = 0 ∧ ∃ m : Nat, i = m ∧ m < P.length ∧ (P.getD m (0, 0)).1 = k ∧ ∀ j, j < m → (P.getD j (0, 0)).1 ≠ k) ∨ (g = 1 ∧ k ∉ sl P ∧ ∃ m : Nat, i = m ∧ m < T.length ∧ (T.getD m (0, 0)).1 = k ∧ ∀ j, j < m → (T.getD j (0, 0)).1 ≠ k)
theorem not_at {X : List It} {k i : Nat} (h : k ∉ sl X) (hi : i < X.length) : (X.getD i (0, 0)).1 ≠ k := fun e => h (e ▸ mem_sl.2 ⟨_, getD_inS hi⟩)
theorem not_all {X : List It} {k : Nat} (h : ∀ j, j < X.length → (X.getD j (0, 0)).1 ≠ k) : k ∉ sl X := fun hm => by
  obtain ⟨c, hc⟩ := mem_sl.1 hm
  obtain ⟨j, hj, e⟩ := List.mem_iff_getElem.1 hc
  refine h j hj ?_
  rw [List.getD_eq_getElem?_getD, List.getElem?_eq_getElem hj, Option.getD_some, e]
/-- One of both segments. -/
structure OneG (g : Int) (P T X : List It) : Prop where
  out : (g = 0 ∧ X = P) ∨ (g = 1 ∧ X = T)
namespace FindR
variable {P T : List It} {k u : Nat} {g i : Int}
theorem no (h : FindR P T k g i) (h1 : k ∉ sl P) (h2 : k ∉ sl T) : g = -1 ∧ i = -1 := by
  rcases h.out with ⟨a, b, _⟩ | ⟨_, m, _, hm, e, _⟩ | ⟨_, _, m, _, hm, e, _⟩
  · exact ⟨a, b⟩
  · exact absurd e (not_at h1 hm)
  · exact absurd e (not_at h2 hm)
theorem atP (h : FindR P T k g i) (hu : u < P.length) (he : (P.getD u (0, 0)).1 = k) (hv : ∀ j, j < u → (P.getD j (0, 0)).1 ≠ k) : g = 0 ∧ i = (u : Int) := by
  rcases h.out with ⟨_, _, n, _⟩ | ⟨a, m, b, hm, e, w⟩ | ⟨_, n, _⟩
  · exact absurd he (not_at n hu)
  · refine ⟨a, ?_⟩
    rcases Nat.lt_trichotomy m u with x | x | x
    · exact absurd e (hv m x)
    · subst x; exact b
    · exact absurd he (w u x)
  · exact absurd he (not_at n hu)
theorem atT (h : FindR P T k g i) (hu : u < T.length) (he : (T.getD u (0, 0)).1 = k) (hv : ∀ j, j < u → (T.getD j (0, 0)).1 ≠ k) (hp : k ∉ sl P) : g = 1 ∧ i = (u : Int) := by
  rcases h.out with ⟨_, _, _, n⟩ | ⟨_, m, _, hm, e, _⟩ | ⟨a, _, m, b, hm, e, w⟩
  · exact absurd he (not_at n hu)
  · exact absurd e (not_at hp hm)
  · refine ⟨a, ?_⟩
    rcases Nat.lt_trichotomy m u with x | x | x
    · exact absurd e (hv m x)
    · subst x; exact b
    · exact absurd he (w u x)
end FindR
theorem sm_snoc {X : List It} {i : Nat} (h : i < X.length) : sm (X.take (i + 1)) = sm (X.take i) + (X.getD i (0, 0)).2 := by
  rw [take_snocS h, sm_append, sm_one]
end Go.Sg
namespace Go.Proofs.Ytbkpojlbclehaaa
open Go.Lk Go.Sl Go.Lr Go.Sg
attribute [local irreducible] TK TL TC Th Bk Nx fnPost WA TQ OpQ OpN SpecH Rd Ent IterH RoundH Rb Rp fnPostM
attribute [local irreducible] Sg.sm Sg.sl
set_option maxHeartbeats 4000000 in
instance sgr_find : Known Try.prog 53 (∀ (a0 a1 : Option Addr) (c0 c1 : Nat) (P T : List It) (L : Int) (xk : Int) (k : Nat) [NatI xk k] (g i : Int), FindR P T k g i → P.length ≤ 4194304 → T.length ≤ 4194304 → SpecH Try.prog 53 #[.agg #[.slice a0 P.length c0, .slice a1 T.length c1, .int .i64 L], .int .u32 xk] [RoS 2 a0 P.length c0 (wc P), RoS 2 a1 T.length c1 (wc T)] (fun _ : Unit => .tuple #[.int .i64 g, .int .i64 i]) (fun _ => [])) := ⟨fun a0 a1 c0 c1 P T L xk k _ g i hf hp ht => by
  obtain rfl : xk = (k : Int) := NatI.out
  refine spec_of Try.func53 rfl Try.ntmps53 rfl [(0, _), (1, _)] rfl ?_; intro base F l0 hl0; (try simp only [List.cons_append] at hl0); (try simp only [List.nil_append] at hl0); subst hl0
  repeat' (first | refine stw ?_ | refine And.intro ?_ ?_ | (intro e; exfalso; omega) | (intro e; subst e) | intro _)
  refine tc_lp (ι := {v : Nat // v ≤ 2 ∧ (1 ≤ v → k ∉ sl P) ∧ (2 ≤ v → k ∉ sl T)}) [6] (fun e v => (6, .int .i64 (v.1 : Nat)) :: e) (fun _ => _) (fun v => 2 - v.1) ⟨0, by omega, by omega, by omega⟩ ?_ (hl := Ent.refl _)
  rintro K ⟨v, hv2, hg, hg2⟩ hK
  dsimp only at hv2 hg hg2 ⊢
  rcases v with _ | _ | v
  · skip
    repeat' (first | refine stw ?_ | refine And.intro ?_ ?_ | (intro e; exfalso; omega) | (intro e; subst e) | intro _)
    focus
      refine tc_lp (ι := {i : Nat // i ≤ P.length ∧ ∀ j, j < i → (P.getD j (0, 0)).1 ≠ k}) [7] (fun e i => (7, .int .i64 (i.1 : Nat)) :: e) (fun _ => _) (fun i => P.length - i.1) ⟨0, by omega, by omega⟩ ?_ (hl := Ent.refl _)
      rintro K2 ⟨u, hu, hv⟩ hK2
      dsimp only at hu hv ⊢
      by_cases hcu : u < P.length
      · by_cases he : (P.getD u (0, 0)).1 = k
        · obtain ⟨rfl, rfl⟩ := hf.atP hcu he hv 
          repeat' (first | refine stw ?_ | refine And.intro ?_ ?_ | (intro e; exfalso; omega) | (intro e; subst e) | intro _)
          exact rt2 () rfl
        · repeat' (first | refine stw ?_ | refine And.intro ?_ ?_ | (intro e; exfalso; omega) | (intro e; subst e) | intro _)
          exact again hK2 ⟨u + 1, by omega, fun j hj => by
            rcases Nat.lt_or_ge j u with h | h
            · exact hv j h
            · obtain rfl : j = u := by omega
              exact he⟩ (by dsimp only; omega)
      · repeat' (first | refine stw ?_ | refine And.intro ?_ ?_ | (intro e; exfalso; omega) | (intro e; subst e) | intro _)
        exact again hK ⟨1, by omega, by
          first
          | (intro _; exact not_all (fun j hj => hv j (by omega)))
          | exact hg, by
          first
          | (intro _; exact not_all (fun j hj => hv j (by omega)))
          | omega⟩ (by dsimp only; omega)
  · have hg := hg (by omega)
    repeat' (first | refine stw ?_ | refine And.intro ?_ ?_ | (intro e; exfalso; omega) | (intro e; subst e) | intro _)
    focus
      refine tc_lp (ι := {i : Nat // i ≤ T.length ∧ ∀ j, j < i → (T.getD j (0, 0)).1 ≠ k}) [7] (fun e i => (7, .int .i64 (i.1 : Nat)) :: e) (fun _ => _) (fun i => T.length - i.1) ⟨0, by omega, by omega⟩ ?_ (hl := Ent.refl _)
      rintro K2 ⟨u, hu, hv⟩ hK2
      dsimp only at hu hv ⊢
      by_cases hcu : u < T.length
      · by_cases he : (T.getD u (0, 0)).1 = k
        · obtain ⟨rfl, rfl⟩ := hf.atT hcu he hv hg
          repeat' (first | refine stw ?_ | refine And.intro ?_ ?_ | (intro e; exfalso; omega) | (intro e; subst e) | intro _)
          exact rt2 () rfl
        · repeat' (first | refine stw ?_ | refine And.intro ?_ ?_ | (intro e; exfalso; omega) | (intro e; subst e) | intro _)
          exact again hK2 ⟨u + 1, by omega, fun j hj => by
            rcases Nat.lt_or_ge j u with h | h
            · exact hv j h
            · obtain rfl : j = u := by omega
              exact he⟩ (by dsimp only; omega)
      · repeat' (first | refine stw ?_ | refine And.intro ?_ ?_ | (intro e; exfalso; omega) | (intro e; subst e) | intro _)
        exact again hK ⟨2, by omega, by
          first
          | (intro _; exact not_all (fun j hj => hv j (by omega)))
          | (intro _; exact hg), by
          first
          | (intro _; exact not_all (fun j hj => hv j (by omega)))
          | omega⟩ (by dsimp only; omega)
  · obtain rfl : v = 0 := by omega
    obtain ⟨rfl, rfl⟩ := hf.no (hg (by omega)) (hg2 (by omega))
    repeat' (first | refine stw ?_ | refine And.intro ?_ ?_ | (intro e; exfalso; omega) | (intro e; subst e) | intro _)
    exact rt2 () rfl⟩
set_option maxHeartbeats 4000000 in
instance sgr_cost : Known Try.prog 52 (∀ (a0 a1 : Option Addr) (c0 c1 : Nat) (P T : List It) (L g : Int) (X : List It), OneG g P T X → P.length ≤ 4194304 → T.length ≤ 4194304 → (∀ x, x ∈ P ∨ x ∈ T → x.2 ≤ 1099511627776) → SpecH Try.prog 52 #[.agg #[.slice a0 P.length c0, .slice a1 T.length c1, .int .i64 L], .int .i64 g] [RoS 2 a0 P.length c0 (wc P), RoS 2 a1 T.length c1 (wc T)] (fun _ : Unit => .int .i64 (sm X : Nat)) (fun _ => [])) := ⟨fun a0 a1 c0 c1 P T L g X hg hp ht hc => by
  refine spec_of Try.func52 rfl Try.ntmps52 rfl [(0, _), (1, _)] rfl ?_; intro base F l0 hl0; (try simp only [List.cons_append] at hl0); (try simp only [List.nil_append] at hl0); subst hl0
  have hX : ∀ Y : List It, (∀ x ∈ Y, x.2 ≤ 1099511627776) → Y.length ≤ 4194304 → sm Y ≤ 4611686018427387904 := fun Y h1 h2 => by
    have := sm_le h1
    omega
  rcases hg.out with ⟨rfl, rfl⟩ | ⟨rfl, rfl⟩
  · skip
    repeat' (first | refine stw ?_ | refine And.intro ?_ ?_ | (intro e; exfalso; omega) | (intro e; subst e) | intro _)
    refine tc_lp (ι := {q : Nat × Int // q.1 ≤ X.length ∧ q.2 = ((sm (X.take q.1) : Nat) : Int)}) [5, 6] (fun e q => (5, .int .i64 q.1.2) :: (6, .int .i64 (q.1.1 : Nat)) :: e) (fun _ => _) (fun q => X.length - q.1.1) ⟨(0, 0), by omega, by rw [List.take_zero, sm_nil]; rfl⟩ ?_ (hl := Ent.refl _)
    rintro K ⟨⟨u, s⟩, hu, hs⟩ hK
    dsimp only at hu hs ⊢
    by_cases hcu : u < X.length
    · have e := sm_snoc hcu
      have hb := hX (X.take (u + 1)) (fun x hx => hc x (by first | exact .inl (List.mem_of_mem_take hx) | exact .inr (List.mem_of_mem_take hx))) (by rw [List.length_take]; omega)
      repeat' (first | refine stw ?_ | refine And.intro ?_ ?_ | (intro e; exfalso; omega) | (intro e; subst e) | intro _)
      exact again hK ⟨(u + 1, s + (((X.getD u (0, 0)).2 : Nat) : Int)), by omega, by dsimp only; omega⟩ (by dsimp only; omega)
    · obtain rfl : u = X.length := by omega
      rw [List.take_length] at hs
      subst hs
      repeat' (first | refine stw ?_ | refine And.intro ?_ ?_ | (intro e; exfalso; omega) | (intro e; subst e) | intro _)
      exact rt1 () rfl
  · skip
    repeat' (first | refine stw ?_ | refine And.intro ?_ ?_ | (intro e; exfalso; omega) | (intro e; subst e) | intro _)
    refine tc_lp (ι := {q : Nat × Int // q.1 ≤ X.length ∧ q.2 = ((sm (X.take q.1) : Nat) : Int)}) [5, 6] (fun e q => (5, .int .i64 q.1.2) :: (6, .int .i64 (q.1.1 : Nat)) :: e) (fun _ => _) (fun q => X.length - q.1.1) ⟨(0, 0), by omega, by rw [List.take_zero, sm_nil]; rfl⟩ ?_ (hl := Ent.refl _)
    rintro K ⟨⟨u, s⟩, hu, hs⟩ hK
    dsimp only at hu hs ⊢
    by_cases hcu : u < X.length
    · have e := sm_snoc hcu
      have hb := hX (X.take (u + 1)) (fun x hx => hc x (by first | exact .inl (List.mem_of_mem_take hx) | exact .inr (List.mem_of_mem_take hx))) (by rw [List.length_take]; omega)
      repeat' (first | refine stw ?_ | refine And.intro ?_ ?_ | (intro e; exfalso; omega) | (intro e; subst e) | intro _)
      exact again hK ⟨(u + 1, s + (((X.getD u (0, 0)).2 : Nat) : Int)), by omega, by dsimp only; omega⟩ (by dsimp only; omega)
    · obtain rfl : u = X.length := by omega
      rw [List.take_length] at hs
      subst hs
      repeat' (first | refine stw ?_ | refine And.intro ?_ ?_ | (intro e; exfalso; omega) | (intro e; subst e) | intro _)
      exact rt1 () rfl⟩
end Go.Proofs.Ytbkpojlbclehaaa
