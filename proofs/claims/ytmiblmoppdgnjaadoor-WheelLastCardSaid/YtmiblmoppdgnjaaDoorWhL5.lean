/- The laws of wheel, walked: any calls; the last slots. -/
import Derived.Test.YtmiblmoppdgnjaaDoorWhL2
import Derived.Test.YtmiblmoppdgnjaaDoorWhL4
namespace Go.Wh
open Go.Lk Go.Sl Go.Lf
def fewB (n : Nat) (Q : Nat → Int × Nat × Int) : Prop := n ≤ 60 ∧ ∀ i, i < n → ¬ (5000 ≤ (Q i).2.1 ∧ (Q i).2.1 < 4194304)
theorem actM_len {m : List It} {k b : Int} {s : Nat} : (actM m k s b).length ≤ m.length + 1 := by
  unfold actM
  split
  · exact whM_len
  split
  · have : (Lf.wo m s).length ≤ m.length := by unfold Lf.wo; exact List.length_filter_le _ _
    omega
  split
  · unfold takM; split
    · omega
    · have : (wob m b.toNat).length ≤ m.length := wob_le
      omega
  · omega
end Go.Wh
namespace Go.Proofs.YtmiblmoppdgnjaaDoor
open Go.Lk Go.Sl Go.Lf Go.Wh
attribute [local irreducible] TK TL TC Th Bk Nx fnPost WA TQ OpQ OpN SpecH Rd Ent IterH RoundH Rb Rp fnPostM
attribute [local irreducible] Lf.wo Lf.cntOf Wh.wob Wh.lstM Wh.takM Lf.grp Wh.nxO Wh.nxE Wh.slotE Wh.lstE Wh.whE Wh.whM Wh.fullM Wh.actM
instance (Q : Nat → Int × Nat × Int) : Width (fun i => ([.int .i64 (Q i).1, .int .u32 ((Q i).2.1 : Nat), .int .i64 (Q i).2.2] : List Value)) 3 := ⟨fun _ => rfl⟩
set_option maxHeartbeats 4000000 in
theorem whl_few (a : Option Addr) (n cap : Nat) (Q : Nat → Int × Nat × Int) (B : Bool) (hB : B = true ↔ fewB n Q) : Known Tryd.prog 24 (SpecH Tryd.prog 24 #[.slice a n cap] [RoS 3 a n cap (rows n fun i => [.int .i64 (Q i).1, .int .u32 ((Q i).2.1 : Nat), .int .i64 (Q i).2.2])] (fun _ : Unit => .bool B) (fun _ => [])) := ⟨by
  refine spec_of Tryd.func24 rfl Tryd.ntmps24 rfl [(0, _)] rfl ?_; intro base F l0 hl0; (try simp only [List.cons_append] at hl0); (try simp only [List.nil_append] at hl0); subst hl0
  repeat' (first | refine stz ?_ | refine And.intro ?_ ?_ | (intro e; exfalso; omega) | (intro e; subst e) | intro _)
  refine tc_lp (ι := {i : Nat // i ≤ n ∧ i ≤ 61 ∧ ∀ j, j < i → ¬ (5000 ≤ (Q j).2.1 ∧ (Q j).2.1 < 4194304)}) [3] (fun e i => (3, .int .i64 (i.1 : Nat)) :: e) (fun _ => _) (fun i => n - i.1) ⟨0, by omega, by omega, by omega⟩ ?_ (hl := Ent.refl _)
  rintro K ⟨i, hi, hi2, hno⟩ hK
  dsimp only
  by_cases hc : i < n
  · by_cases hc2 : i < 61
    · by_cases hbad : 5000 ≤ (Q i).2.1 ∧ (Q i).2.1 < 4194304
      · have e : B = false := by
          cases B with
          | false => rfl
          | true => exact absurd hbad ((hB.1 rfl).2 i hc)
        rw [e]
        have h5 : (5000 : Int) ≤ ((Q i).2.1 : Nat) := by omega
        have h6 : (((Q i).2.1 : Nat) : Int) < 4194304 := by omega
        clear hbad hK hno hB
        repeat' (first | refine stz ?_ | refine And.intro ?_ ?_ | (intro e; exfalso; omega) | (intro e; subst e) | intro _)
        exact rt1 () rfl
      · have hno2 : ∀ j, j < i + 1 → ¬ (5000 ≤ (Q j).2.1 ∧ (Q j).2.1 < 4194304) := fun j hj => by
          rcases Nat.lt_or_ge j i with h | h
          · exact hno j h
          · obtain rfl : j = i := by omega
            exact hbad
        rcases Nat.lt_or_ge (Q i).2.1 5000 with h | h
        · have h5 : (((Q i).2.1 : Nat) : Int) < 5000 := by omega
          clear hbad
          repeat' (first | refine stz ?_ | refine And.intro ?_ ?_ | (intro e; exfalso; omega) | (intro e; subst e) | intro _)
          exact again hK ⟨i + 1, by omega, by omega, hno2⟩
        · have h5 : (5000 : Int) ≤ ((Q i).2.1 : Nat) := by omega
          have h6 : (4194304 : Int) ≤ ((Q i).2.1 : Nat) := by omega
          clear hbad
          repeat' (first | refine stz ?_ | refine And.intro ?_ ?_ | (intro e; exfalso; omega) | (intro e; subst e) | intro _)
          exact again hK ⟨i + 1, by omega, by omega, hno2⟩
    · have e : B = false := by
        cases B with
        | false => rfl
        | true => have := (hB.1 rfl).1; omega
      rw [e]
      clear hK hno hB
      repeat' (first | refine stz ?_ | refine And.intro ?_ ?_ | (intro e; exfalso; omega) | (intro e; subst e) | intro _)
      exact rt1 () rfl
  · obtain rfl : i = n := by omega
    by_cases h60 : i ≤ 60
    · have e : B = true := hB.2 ⟨h60, hno⟩
      rw [e]
      clear hK hno hB
      repeat' (first | refine stz ?_ | refine And.intro ?_ ?_ | (intro e; exfalso; omega) | (intro e; subst e) | intro _)
      exact rt1 () rfl
    · have e : B = false := by
        cases B with
        | false => rfl
        | true => have := (hB.1 rfl).1; omega
      rw [e]
      clear hK hno hB
      repeat' (first | refine stz ?_ | refine And.intro ?_ ?_ | (intro e; exfalso; omega) | (intro e; subst e) | intro _)
      exact rt1 () rfl⟩
set_option maxHeartbeats 4000000 in
theorem whl_plays (a : Option Addr) (n cap : Nat) (Q : Nat → Int × Nat × Int) (hQ : ∀ i, i < n → (Q i).2.1 < 4294967296) : SpecH Tryd.prog 6 #[.slice a n cap] [RoS 3 a n cap (rows n fun i => [.int .i64 (Q i).1, .int .u32 ((Q i).2.1 : Nat), .int .i64 (Q i).2.2]), Tab64] (fun _ : Unit => .bool true) (fun _ => []) := by
  by_cases hf : fewB n Q
  · haveI := whl_few a n cap Q true ⟨fun _ => hf, fun _ => rfl⟩
    have hn : n ≤ 60 := hf.1
    clear hf
    refine spec_of Tryd.func6 rfl Tryd.ntmps6 rfl [(0, _)] rfl ?_; intro base F l0 hl0; (try simp only [List.cons_append] at hl0); (try simp only [List.nil_append] at hl0); subst hl0
    repeat' (first | refine stz ?_ | refine And.intro ?_ ?_ | (intro e; exfalso; omega) | (intro e; subst e) | intro _)
    rename_i p0
    refine tc_lp (ι := {x : Nat × Nat × List It × Option Addr × Nat // x.1 ≤ n ∧ x.2.2.1.length ≤ x.1}) [3, 4, 5] (fun e x => (3, .pointer (some ⟨x.1.2.1, 0, none⟩)) :: (4, .slice x.1.2.2.2.1 x.1.2.2.1.length x.1.2.2.2.2) :: (5, .int .i64 (x.1.1 : Nat)) :: e)
      (fun x => [WheelAt x.1.2.1 x.1.2.2.1, RoS 2 x.1.2.2.2.1 x.1.2.2.1.length x.1.2.2.2.2 (itv x.1.2.2.1), RoS 3 a n cap (rows n fun i => [.int .i64 (Q i).1, .int .u32 ((Q i).2.1 : Nat), .int .i64 (Q i).2.2]), Tab64, F]) (fun x => n - x.1.1) ⟨(0, p0, [], none, 0), by omega, by simp⟩ ?_
      (hl := by show Ent _ [WheelAt p0 [], RoS 2 none 0 0 [], RoS 3 a n cap (rows n fun i => [.int .i64 (Q i).1, .int .u32 ((Q i).2.1 : Nat), .int .i64 (Q i).2.2]), Tab64, F]; exact en)
    rintro K ⟨⟨i, p, m, ra, rc⟩, hi, hm⟩ hK
    dsimp only at hi hm ⊢
    by_cases hc : i < n
    · have hk := hQ i hc
      have hml := actM_len (m := m) (k := (Q i).1) (s := (Q i).2.1) (b := (Q i).2.2)
      repeat' (first | refine stz ?_ | refine And.intro ?_ ?_ | (intro e; exfalso; omega) | (intro e; subst e) | intro _)
      rename_i x q
      exact again hK ⟨(i + 1, x, actM m (Q i).1 (Q i).2.1 (Q i).2.2, q.1, q.2), by omega, by dsimp only; omega⟩
    · repeat' (first | refine stz ?_ | refine And.intro ?_ ?_ | (intro e; exfalso; omega) | (intro e; subst e) | intro _)
      exact rt1 () rfl
  · haveI := whl_few a n cap Q false ⟨fun h => (by cases h), fun h => absurd h hf⟩
    clear hf
    refine spec_of Tryd.func6 rfl Tryd.ntmps6 rfl [(0, _)] rfl ?_; intro base F l0 hl0; (try simp only [List.cons_append] at hl0); (try simp only [List.nil_append] at hl0); subst hl0
    repeat' (first | refine stz ?_ | refine And.intro ?_ ?_ | (intro e; exfalso; omega) | (intro e; subst e) | intro _)
    exact rt1 () rfl
set_option maxHeartbeats 4000000 in
theorem whl_last (less : Int) (kb : Nat) (hb : kb < 256) : SpecH Tryd.prog 4 #[.int .i64 less, .int .u8 (kb : Nat)] [Tab64] (fun _ : Unit => .bool true) (fun _ => []) := by
  by_cases hbad : less < -3 ∨ 3 < less
  · refine spec_of Tryd.func4 rfl Tryd.ntmps4 rfl [(0, _), (1, _)] rfl ?_; intro base F l0 hl0; (try simp only [List.cons_append] at hl0); (try simp only [List.nil_append] at hl0); subst hl0
    repeat' (first | refine stz ?_ | refine And.intro ?_ ?_ | (intro e; exfalso; omega) | (intro e; subst e) | intro _)
    all_goals exact rt1 () rfl
  · obtain ⟨S, hS⟩ : ∃ S : Nat, (4194304 : Int) - less = S := ⟨(4194304 - less).toNat, by omega⟩
    have hS2 : S < 4294967296 := by omega
    haveI : NatI (4194304 - less) S := ⟨hS⟩
    haveI := whl_removesT
    have hl1 := whM_len (l := []) (s := S) (b := (kb : Nat))
    rw [List.length_nil] at hl1
    have o1 : MO 4194304 (whM [] S (kb : Nat)) := MO.put mo_nil
    have hl2 : (wo (whM [] S (kb : Nat)) S).length ≤ 1 := by
      have : (Lf.wo (whM [] S (kb : Nat)) S).length ≤ (whM [] S (kb : Nat)).length := by unfold Lf.wo; exact List.length_filter_le _ _
      omega
    haveI : Known Tryd.prog 10 (SpecH Tryd.prog 10 #[.slice none 0 0, .int .u32 (4194304 - less), .int .i64 (kb : Nat)] [RoS 2 none 0 0 []] (fun q : Option Addr × Nat => .tuple #[.slice q.1 (whM [] S (kb : Nat)).length q.2, .int .i64 (whE [] S (kb : Nat))]) (fun q => [RoS 2 q.1 (whM [] S (kb : Nat)).length q.2 (itv (whM [] S (kb : Nat)))])) := ⟨whr_put.out none 0 0 [] (4194304 - less) S (kb : Nat) rfl (by omega)⟩
    refine spec_of Tryd.func4 rfl Tryd.ntmps4 rfl [(0, _), (1, _)] rfl ?_; intro base F l0 hl0; (try simp only [List.cons_append] at hl0); (try simp only [List.nil_append] at hl0); subst hl0
    repeat' (first | refine stz ?_ | refine And.intro ?_ ?_ | (intro e; exfalso; omega) | (intro e; subst e) | intro _)
    all_goals exact rt1 () rfl
end Go.Proofs.YtmiblmoppdgnjaaDoor
