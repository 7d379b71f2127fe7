/- The laws of wheel, walked: what calls return; the examples of the chapter. -/
import Derived.Test.YtmiblmoppdgnjaaDoorWhW7
import Derived.Test.YtmiblmoppdgnjaaDoorWhR3
namespace Go.Wh
open Go.Lk Go.Sl Go.Lf
theorem lstM_le {m : List It} {b : Int} (h : ∃ N, MO N m ∧ N ≤ 4194304) : (lstM m b).length ≤ 4194304 := by
  obtain ⟨N, o, hN⟩ := h
  have h1 := o.len
  have h3 : (ks m).length = m.length := List.length_map _
  unfold lstM
  split
  · simp
  · have := (grp_sub (l := m) (n := b.toNat)).length_le; omega
end Go.Wh
namespace Go.Proofs.YtmiblmoppdgnjaaDoor
open Go.Lk Go.Sl Go.Lf Go.Wh
attribute [local irreducible] TK TL TC Th Bk Nx fnPost WA TQ OpQ OpN SpecH Rd Ent IterH RoundH Rb Rp fnPostM
attribute [local irreducible] Lf.wo Lf.cntOf Wh.wob Wh.lstM Wh.takM Lf.grp Wh.nxO Wh.nxE Wh.slotE Wh.lstE
instance whl_removes : Known Tryd.prog 18 (∀ (p : Nat) (m : List It) (xs : Int) (s : Nat) [NatI xs s] (wa e : Int), s < 4294967296 → SpecH Tryd.prog 18 #[.pointer (some ⟨p, 0, none⟩), .int .u32 xs, .int .i64 wa, .int .i64 e] [WheelAt p m] (fun _ : Unit => .bool (decide ((cntOf m s : Int) = wa ∧ slotE m s = e))) (fun _ => [WheelAt p (wo m s)])) := ⟨fun p m xs s _ wa e hs => by
  obtain rfl : xs = (s : Int) := NatI.out
  refine spec_of Tryd.func18 rfl Tryd.ntmps18 rfl [(0, _), (1, _), (2, _), (3, _)] rfl ?_; intro base F l0 hl0; (try simp only [List.cons_append] at hl0); (try simp only [List.nil_append] at hl0); subst hl0
  by_cases h : (cntOf m s : Int) = wa ∧ slotE m s = e
  · rw [decide_eq_true h]
    obtain ⟨h1, h2⟩ := h
    repeat' (first | refine stz ?_ | refine And.intro ?_ ?_ | (intro e; exfalso; omega) | (intro e; subst e) | intro _)
    exact rt1 () rfl
  · rw [decide_eq_false h]
    repeat' (first | refine stz ?_ | refine And.intro ?_ ?_ | (intro e; exfalso; omega) | (intro e; subst e) | intro _)
    all_goals exact rt1 () rfl⟩
instance whl_stands : Known Tryd.prog 26 (∀ (p : Nat) (m : List It) (xs : Int) (s : Nat) [NatI xs s] (wa e : Int), s < 4294967296 → SpecH Tryd.prog 26 #[.pointer (some ⟨p, 0, none⟩), .int .u32 xs, .int .i64 wa, .int .i64 e] [WheelAt p m] (fun _ : Unit => .bool (decide ((cntOf m s : Int) = wa ∧ slotE m s = e))) (fun _ => [WheelAt p m])) := ⟨fun p m xs s _ wa e hs => by
  obtain rfl : xs = (s : Int) := NatI.out
  refine spec_of Tryd.func26 rfl Tryd.ntmps26 rfl [(0, _), (1, _), (2, _), (3, _)] rfl ?_; intro base F l0 hl0; (try simp only [List.cons_append] at hl0); (try simp only [List.nil_append] at hl0); subst hl0
  by_cases h : (cntOf m s : Int) = wa ∧ slotE m s = e
  · rw [decide_eq_true h]
    obtain ⟨h1, h2⟩ := h
    repeat' (first | refine stz ?_ | refine And.intro ?_ ?_ | (intro e; exfalso; omega) | (intro e; subst e) | intro _)
    exact rt1 () rfl
  · rw [decide_eq_false h]
    repeat' (first | refine stz ?_ | refine And.intro ?_ ?_ | (intro e; exfalso; omega) | (intro e; subst e) | intro _)
    all_goals exact rt1 () rfl⟩
instance whl_next : Known Tryd.prog 13 (∀ (p : Nat) (m : List It) (b wa e : Int), SpecH Tryd.prog 13 #[.pointer (some ⟨p, 0, none⟩), .int .i64 b, .int .i64 wa, .int .i64 e] [WheelAt p m, Tab64] (fun _ : Unit => .bool (decide (((nxO m b).getD 0 : Nat) = wa ∧ nxE m b = e))) (fun _ => [WheelAt p m])) := ⟨fun p m b wa e => by
  refine spec_of Tryd.func13 rfl Tryd.ntmps13 rfl [(0, _), (1, _), (2, _), (3, _)] rfl ?_; intro base F l0 hl0; (try simp only [List.cons_append] at hl0); (try simp only [List.nil_append] at hl0); subst hl0
  by_cases h : ((nxO m b).getD 0 : Nat) = wa ∧ nxE m b = e
  · rw [decide_eq_true h]
    obtain ⟨h1, h2⟩ := h
    repeat' (first | refine stz ?_ | refine And.intro ?_ ?_ | (intro e; exfalso; omega) | (intro e; subst e) | intro _)
    exact rt1 () rfl
  · rw [decide_eq_false h]
    repeat' (first | refine stz ?_ | refine And.intro ?_ ?_ | (intro e; exfalso; omega) | (intro e; subst e) | intro _)
    all_goals exact rt1 () rfl⟩
set_option maxHeartbeats 4000000 in
instance whl_takes : Known Tryd.prog 15 (∀ (p : Nat) (m : List It) (b : Int) (a2 : Option Addr) (m2 c2 : Nat) (cs2 : List Value) (ys : List Nat) (e : Int), AsU cs2 ys → m2 = ys.length → m2 ≤ 4194304 → SpecH Tryd.prog 15 #[.pointer (some ⟨p, 0, none⟩), .int .i64 b, .slice a2 m2 c2, .int .i64 e] [WheelAt p m, RoS 1 a2 m2 c2 cs2] (fun _ : Unit => .bool (decide (lstM m b = ys ∧ lstE b = e))) (fun _ => [WheelAt p (takM m b)])) := ⟨fun p m b a2 m2 c2 cs2 ys e hcs hm2 hx => by
  refine spec_of Tryd.func15 rfl Tryd.ntmps15 rfl [(0, _), (1, _), (2, _), (3, _)] rfl ?_; intro base F l0 hl0; (try simp only [List.cons_append] at hl0); (try simp only [List.nil_append] at hl0); subst hl0
  refine WheelAt.factsC (p := p) (m := m) (fun h0 => ?_) (by (repeat (first | (with_reducible exact Rem.here _ _) | (with_reducible apply Rem.there) | fail)); done)
  have hll := lstM_le (m := m) (b := b) h0
  by_cases h1 : lstM m b = ys
  · haveI : Known Tryd.prog 37 (∀ (a : Option Addr) (c : Nat), SpecH Tryd.prog 37 #[.slice a (lstM m b).length c, .slice a2 m2 c2] [RoS 1 a (lstM m b).length c (u32s (lstM m b)), RoS 1 a2 m2 c2 cs2] (fun _ : Unit => .bool true) (fun _ => [])) := ⟨fun a c => by
      have h := whr_same.out a a2 (lstM m b).length m2 c c2 (u32s (lstM m b)) cs2 (lstM m b) ys ⟨rfl⟩ hcs rfl hm2 hll hx
      rwa [decide_eq_true h1] at h⟩
    by_cases h2 : lstE b = e
    · rw [decide_eq_true ⟨h1, h2⟩]
      clear h1
      repeat' (first | refine stz ?_ | refine And.intro ?_ ?_ | (intro e; exfalso; omega) | (intro e; subst e) | intro _)
      exact rt1 () rfl
    · rw [decide_eq_false fun h => h2 h.2]
      clear h1
      repeat' (first | refine stz ?_ | refine And.intro ?_ ?_ | (intro e; exfalso; omega) | (intro e; subst e) | intro _)
      exact rt1 () rfl
  · haveI : Known Tryd.prog 37 (∀ (a : Option Addr) (c : Nat), SpecH Tryd.prog 37 #[.slice a (lstM m b).length c, .slice a2 m2 c2] [RoS 1 a (lstM m b).length c (u32s (lstM m b)), RoS 1 a2 m2 c2 cs2] (fun _ : Unit => .bool false) (fun _ => [])) := ⟨fun a c => by
      have h := whr_same.out a a2 (lstM m b).length m2 c c2 (u32s (lstM m b)) cs2 (lstM m b) ys ⟨rfl⟩ hcs rfl hm2 hll hx
      rwa [decide_eq_false h1] at h⟩
    rw [decide_eq_false fun h => h1 h.1]
    clear h1
    repeat' (first | refine stz ?_ | refine And.intro ?_ ?_ | (intro e; exfalso; omega) | (intro e; subst e) | intro _)
    exact rt1 () rfl⟩
set_option maxHeartbeats 4000000 in
instance whl_lists : Known Tryd.prog 21 (∀ (p : Nat) (m : List It) (b : Int) (a2 : Option Addr) (m2 c2 : Nat) (cs2 : List Value) (ys : List Nat) (e : Int), AsU cs2 ys → m2 = ys.length → m2 ≤ 4194304 → SpecH Tryd.prog 21 #[.pointer (some ⟨p, 0, none⟩), .int .i64 b, .slice a2 m2 c2, .int .i64 e] [WheelAt p m, RoS 1 a2 m2 c2 cs2] (fun _ : Unit => .bool (decide (lstM m b = ys ∧ lstE b = e))) (fun _ => [WheelAt p m])) := ⟨fun p m b a2 m2 c2 cs2 ys e hcs hm2 hx => by
  refine spec_of Tryd.func21 rfl Tryd.ntmps21 rfl [(0, _), (1, _), (2, _), (3, _)] rfl ?_; intro base F l0 hl0; (try simp only [List.cons_append] at hl0); (try simp only [List.nil_append] at hl0); subst hl0
  refine WheelAt.factsC (p := p) (m := m) (fun h0 => ?_) (by (repeat (first | (with_reducible exact Rem.here _ _) | (with_reducible apply Rem.there) | fail)); done)
  have hll := lstM_le (m := m) (b := b) h0
  by_cases h1 : lstM m b = ys
  · haveI : Known Tryd.prog 37 (∀ (a : Option Addr) (c : Nat), SpecH Tryd.prog 37 #[.slice a (lstM m b).length c, .slice a2 m2 c2] [RoS 1 a (lstM m b).length c (u32s (lstM m b)), RoS 1 a2 m2 c2 cs2] (fun _ : Unit => .bool true) (fun _ => [])) := ⟨fun a c => by
      have h := whr_same.out a a2 (lstM m b).length m2 c c2 (u32s (lstM m b)) cs2 (lstM m b) ys ⟨rfl⟩ hcs rfl hm2 hll hx
      rwa [decide_eq_true h1] at h⟩
    by_cases h2 : lstE b = e
    · rw [decide_eq_true ⟨h1, h2⟩]
      clear h1
      repeat' (first | refine stz ?_ | refine And.intro ?_ ?_ | (intro e; exfalso; omega) | (intro e; subst e) | intro _)
      exact rt1 () rfl
    · rw [decide_eq_false fun h => h2 h.2]
      clear h1
      repeat' (first | refine stz ?_ | refine And.intro ?_ ?_ | (intro e; exfalso; omega) | (intro e; subst e) | intro _)
      exact rt1 () rfl
  · haveI : Known Tryd.prog 37 (∀ (a : Option Addr) (c : Nat), SpecH Tryd.prog 37 #[.slice a (lstM m b).length c, .slice a2 m2 c2] [RoS 1 a (lstM m b).length c (u32s (lstM m b)), RoS 1 a2 m2 c2 cs2] (fun _ : Unit => .bool false) (fun _ => [])) := ⟨fun a c => by
      have h := whr_same.out a a2 (lstM m b).length m2 c c2 (u32s (lstM m b)) cs2 (lstM m b) ys ⟨rfl⟩ hcs rfl hm2 hll hx
      rwa [decide_eq_false h1] at h⟩
    rw [decide_eq_false fun h => h1 h.1]
    clear h1
    repeat' (first | refine stz ?_ | refine And.intro ?_ ?_ | (intro e; exfalso; omega) | (intro e; subst e) | intro _)
    exact rt1 () rfl⟩
end Go.Proofs.YtmiblmoppdgnjaaDoor
