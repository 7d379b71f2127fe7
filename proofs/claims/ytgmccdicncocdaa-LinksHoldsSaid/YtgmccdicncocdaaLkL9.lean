/- The laws of links, walked: Prev and Next invert each other, and each node with a list is in the order of just that one. -/
import Derived.Test.YtgmccdicncocdaaLkL2
import Derived.Test.YtgmccdicncocdaaLkHold
import Derived.Test.YtgmccdicncocdaaSlFrame
namespace Go.Proofs.Ytgmccdicncocdaa
open Go.Sl Go.Lk
theorem sumL_le {f : Fld} (w : Wf f) : ∀ h, h ≤ f.L.length → sumL f h ≤ h * f.N
  | 0, _ => by rw [sumL_zero]; omega
  | h + 1, hh => by
    rw [sumL_succ (by omega), Nat.succ_mul]
    have := sumL_le w h (by omega)
    have := w.len_le h
    omega
attribute [local irreducible] TK TL TC Th Bk Nx fnPost WA TQ OpQ OpN SpecH Rd Ent IterH RoundH Rb Rp fnPostM
attribute [local irreducible] Fld.addE Fld.addF Fld.befE Fld.befF Fld.inE Fld.remF Fld.first Fld.last Fld.next Fld.prev Fld.ofR Fld.listOf Fld.joinE Fld.joinF renE renG Fld.at Fld.set Fld.place
attribute [local irreducible] sumL cnt
set_option maxRecDepth 20000 in
set_option maxHeartbeats 8000000 in
instance sound_spec : Known Try.prog 25 (∀ (p : Nat) (f : Fld) (xN xM : Int), Wf f → f.N ≤ 5000 → xN = (f.N : Int) → xM = (f.L.length : Int) → SpecH Try.prog 25 #[.pointer (some ⟨p, 0, none⟩), .int .i64 xN, .int .i64 xM] [FieldAt p f] (fun _ : Unit => .bool true) (fun _ => [FieldAt p f])) := ⟨fun p f xN xM w hN eN eM => by
  subst eN; subst eM
  refine spec_of Try.func25 rfl Try.ntmps25 rfl [(0, _), (1, _), (2, _)] rfl ?_; intro base F l0 hl0; (try simp only [List.cons_append] at hl0); (try simp only [List.nil_append] at hl0); subst hl0
  have hw := w.bound
  have hsc := sum_cnt w
  repeat' (first | refine st ?_ | refine And.intro ?_ ?_ | (intro e; exfalso; omega) | (intro e; subst e) | intro _)
  refine tc_lp (ι := {x : Nat × Int // x.1 ≤ f.L.length ∧ x.2 = sumL f x.1}) [7, 9] (fun e x => (7, .int .i64 x.1.2) :: (9, .int .i64 (x.1.1 : Nat)) :: e) (fun _ => [FieldAt p f, F]) (fun x => f.L.length - x.1.1) ⟨(0, 0), by omega, by rw [sumL_zero]; rfl⟩ ?_
  rintro K ⟨⟨h, sm⟩, hh, hsm⟩ hK
  dsimp only at hh hsm ⊢
  have hsb := sumL_le w h hh
  have hsb2 : sumL f h ≤ 4096 * 5000 := Nat.le_trans hsb (Nat.mul_le_mul (by omega) hN)
  by_cases hc : h < f.L.length
  · have hlen := w.len_le h
    have hl5 : (f.listOf h).length ≤ 5000 := by rw [listOf_nat]; omega
    have hll : (f.listOf h).length = (f.at h).length := by rw [listOf_nat]
    have hs1 := sumL_succ hc
    repeat' (first | refine st ?_ | refine And.intro ?_ ?_ | (intro e; exfalso; omega) | (intro e; subst e) | intro _)
    rename_i q1 q2
    simp only [listOf_nat]
    refine tc_lp (ι := {i : Nat // i ≤ (f.at h).length}) [11] (fun e x => (11, .int .i64 (x.1 : Nat)) :: e) (fun _ => [Vec 35 1 q1 (f.at h).length q2 (u32s (f.at h)), FieldAt p f, F]) (fun x => (f.at h).length - x.1) ⟨0, by omega⟩ ?_
    rintro K2 ⟨i, hi⟩ hK2
    dsimp only at hi ⊢
    by_cases hci : i < (f.at h).length
    · obtain ⟨g1, g2⟩ := place_at w hc hci
      obtain ⟨n1, n2, n3, n4, n5, n6, n7, n8, n9, n10, n11⟩ := node_some g1 g2
      by_cases h0 : 0 < i
      · obtain ⟨g3, g4⟩ := place_at w hc (i := i - 1) (by omega)
        obtain ⟨m1, m2, m3, m4, m5, m6, m7, m8, m9, m10, m11⟩ := node_some g3 g4
        obtain ⟨a1, a2⟩ := m8 (by omega)
        rw [show i - 1 + 1 = i by omega] at a1
        obtain ⟨a3, a4⟩ := n10 h0
        have i1 : AsNat ((i : Int) - 1) (i - 1) := ⟨fun _ => by omega⟩
        repeat' (first | refine st ?_ | refine And.intro ?_ ?_ | (intro e; exfalso; omega) | (intro e; subst e) | intro _)
        all_goals exact again hK2 ⟨i + 1, by omega⟩
      · repeat' (first | refine st ?_ | refine And.intro ?_ ?_ | (intro e; exfalso; omega) | (intro e; subst e) | intro _)
        all_goals exact again hK2 ⟨i + 1, by omega⟩
    · repeat' (first | refine st ?_ | refine And.intro ?_ ?_ | (intro e; exfalso; omega) | (intro e; subst e) | intro _)
      exact again hK ⟨(h + 1, sm + (f.at h).length), by omega, by rw [hs1, hsm, Int.natCast_add]⟩
  · obtain rfl : h = f.L.length := by omega
    repeat' (first | refine st ?_ | refine And.intro ?_ ?_ | (intro e; exfalso; omega) | (intro e; subst e) | intro _)
    refine tc_lp (ι := {x : Nat × Int // x.1 ≤ f.N ∧ x.2 = cnt f x.1}) [8, 18] (fun e x => (8, .int .i64 x.1.2) :: (18, .int .i64 (x.1.1 : Nat)) :: e) (fun _ => [FieldAt p f, F]) (fun x => f.N - x.1.1) ⟨(0, 0), by omega, by rw [cnt_zero]; rfl⟩ ?_
    rintro K2 ⟨⟨n, ct⟩, hn, hct⟩ hK2
    dsimp only at hn hct ⊢
    have hcl := cnt_le (f := f) (n := n)
    by_cases hcn : n < f.N
    · have hcs := cnt_succ (f := f) (n := n)
      cases hp : f.place n with
      | none =>
        obtain ⟨e1, e2, e3, e4, e5, e6, e7⟩ := node_none hcn hp
        rw [if_pos hp] at hcs
        repeat' (first | refine st ?_ | refine And.intro ?_ ?_ | (intro e; exfalso; omega) | (intro e; subst e) | intro _)
        all_goals exact again hK2 ⟨(n + 1, ct), by omega, by rw [hcs, hct]; rfl⟩
      | some q =>
        obtain ⟨h, i⟩ := q
        obtain ⟨g1, g2, g3, g4, g5, g6, g7, g8, g9, g10, g11⟩ := node_some hcn hp
        rw [if_neg (by rw [hp]; simp)] at hcs
        repeat' (first | refine st ?_ | refine And.intro ?_ ?_ | (intro e; exfalso; omega) | (intro e; subst e) | intro _)
        all_goals exact again hK2 ⟨(n + 1, ct + 1), by omega, by rw [hcs, hct]; rfl⟩
    · obtain rfl : n = f.N := by omega
      repeat' (first | refine st ?_ | refine And.intro ?_ ?_ | (intro e; exfalso; omega) | (intro e; subst e) | intro _)
      all_goals exact rt1 () rfl⟩
end Go.Proofs.Ytgmccdicncocdaa
