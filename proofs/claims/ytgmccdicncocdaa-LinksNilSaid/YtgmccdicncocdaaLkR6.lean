/- The reference of links, walked: other numbers. -/
import Derived.Test.YtgmccdicncocdaaLkR3
import Derived.Test.YtgmccdicncocdaaLkRen
namespace Go.Proofs.Ytgmccdicncocdaa
open Go.Sl Go.Lk
attribute [local irreducible] TK TL TC Th Bk Nx fnPost WA TQ OpQ OpN SpecH Rd Ent IterH RoundH Rb Rp fnPostM
theorem _root_.Go.Lk.Wf.bnd {f : Fld} (w : Wf f) : Bnd f := by
  have h := w.bound
  exact ⟨by omega, by omega, fun k => by have := w.len_le k; omega⟩
theorem Fld.addF_N {f : Fld} {h : Int} {n : Nat} {b : Bool} : (f.addF h n b).N = f.N := by unfold Fld.addF; split <;> rfl
theorem Fld.addF_len {f : Fld} {h : Int} {n : Nat} {b : Bool} : (f.addF h n b).L.length = f.L.length := by unfold Fld.addF; split <;> simp [Fld.set_len]
set_option maxHeartbeats 4000000 in
instance ref_renumber : Known Try.prog 54 (∀ (v t : Value) (f : Fld) (to : List Nat) (nodes : Int), Wf f → to.length ≤ 4194304 → (∀ x ∈ to, x < 4294967296) → SpecH Try.prog 54 #[v, t, .int .i64 nodes] [RF v f, RU t to] (fun q : Option Addr × Nat => .tuple #[.agg #[.int .i64 (renG f to nodes).N, .slice q.1 f.L.length q.2], .int .i64 (renE f to nodes)]) (fun q => [RF (.agg #[.int .i64 (renG f to nodes).N, .slice q.1 f.L.length q.2]) (renG f to nodes)])) := ⟨fun v t f to nodes w ht hto => by
  have b1 := w.bnd.N; have b2 := w.bnd.M; have b3 := w.bnd.len; have b4 := w.bound
  refine spec_of Try.func54 rfl Try.ntmps54 rfl [(0, _), (1, _), (2, _)] rfl ?_; intro base F l0 hl0; (try simp only [List.cons_append] at hl0); (try simp only [List.nil_append] at hl0); subst hl0
  refine RF.openC (by (repeat (first | (with_reducible exact Rem.here _ _) | (with_reducible apply Rem.there) | fail)); done) fun a c vs e hl => ?_
  refine RU.openC (v := t) (by (repeat (first | (with_reducible exact Rem.here _ _) | (with_reducible apply Rem.there) | fail)); done) fun a2 c2 e2 => ?_
  subst e; subst e2
  by_cases hb : nodes < 1 ∨ 4194304 < nodes
  · have h1 : f.renF to nodes = none := by unfold Fld.renF; rw [if_pos (by omega)]
    have h2 : renG f to nodes = f := by unfold renG; rw [h1]; rfl
    have h3 : renE f to nodes = 2 := by unfold renE; rw [if_pos h1]
    rw [h2, h3]
    repeat' (first | refine st ?_ | refine And.intro ?_ ?_ | (intro e; subst e) | intro _)
    refine call (ref_new_bad.out nodes f.L.length (by omega)) ?_
    repeat' (first | refine st ?_ | refine And.intro ?_ ?_ | (intro e; subst e) | intro _)
    exact ra2 (a, c) rfl
  · obtain ⟨N, rfl⟩ : ∃ N : Nat, nodes = N := ⟨nodes.toNat, by omega⟩
    repeat' (first | refine st ?_ | refine And.intro ?_ ?_ | (intro e; subst e) | intro _)
    · have h1 : f.renF to N = none := by unfold Fld.renF; rw [if_pos (by omega)]
      have h2 : renG f to N = f := by unfold renG; rw [h1]; rfl
      have h3 : renE f to N = 2 := by unfold renE; rw [if_pos h1]
      rw [h2, h3]
      exact ra2 (a, c) rfl
    · have hR : f.renF to N = renLists to 0 f.L ⟨N, List.replicate f.L.length []⟩ := by unfold Fld.renF; rw [if_neg (by omega), Int.toNat_natCast]
      rename_i bf br ao co bo hlt0
      refine tc_lp (ι := {x : Nat × Fld × Option Addr × Nat // x.1 ≤ f.L.length ∧ Wf x.2.1 ∧ x.2.1.N = N ∧ x.2.1.L.length = f.L.length ∧ renLists to x.1 (f.L.drop x.1) x.2.1 = f.renF to N}) [10] (fun e x => (10, .int .i64 x.1.1) :: e)
        (fun x => [obj bo 30 [.int .i64 N, .slice x.1.2.2.1 f.L.length x.1.2.2.2], RF (.agg #[.int .i64 N, .slice x.1.2.2.1 f.L.length x.1.2.2.2]) x.1.2.1, obj br 30 [.int .i64 0, .slice none 0 0], obj bf 30 [.int .i64 f.N, .slice a f.L.length c], RoS 1 a2 to.length c2 (u32s to), RoS 1 a f.L.length c vs, AllR RU vs f.L, RF (.agg #[.int .i64 f.N, .slice a f.L.length c]) f, F])
        (fun x => f.L.length - x.1.1) ⟨(0, ⟨N, List.replicate f.L.length []⟩, ao, co), by omega, Wf.new (by omega) (by omega) (by omega) (by omega), rfl, by simp, hR.symm⟩ ?_
      rintro K ⟨⟨h, o, a3, c3⟩, hh, wo, hN, hL, hr⟩ hK
      dsimp only at hh wo hN hL hr ⊢
      repeat' (first | refine st ?_ | refine And.intro ?_ ?_ | (intro e; subst e) | intro _)
      · have hlt : h < f.L.length := by omega
        refine tc_lp (ι := {x : Nat × Fld × Option Addr × Nat // x.1 ≤ (f.at h).length ∧ Wf x.2.1 ∧ x.2.1.N = N ∧ x.2.1.L.length = f.L.length ∧ (renList to h ((f.at h).drop x.1) x.2.1).bind (renLists to (h + 1) (f.L.drop (h + 1))) = f.renF to N}) [11] (fun e x => (11, .int .i64 x.1.1) :: e)
          (fun x => [obj bo 30 [.int .i64 N, .slice x.1.2.2.1 f.L.length x.1.2.2.2], RF (.agg #[.int .i64 N, .slice x.1.2.2.1 f.L.length x.1.2.2.2]) x.1.2.1, obj br 30 [.int .i64 0, .slice none 0 0], obj bf 30 [.int .i64 f.N, .slice a f.L.length c], RoS 1 a2 to.length c2 (u32s to), RoS 1 a f.L.length c vs, AllR RU vs f.L, RF (.agg #[.int .i64 f.N, .slice a f.L.length c]) f, F])
          (fun x => (f.at h).length - x.1.1) ⟨(0, o, a3, c3), by omega, wo, hN, hL, by rw [List.drop_zero, ← renLists_step hlt]; exact hr⟩ ?_
        rintro K2 ⟨⟨i, o2, a4, c4⟩, hi, wo2, hN2, hL2, hr2⟩ hK2
        dsimp only at hi wo2 hN2 hL2 hr2 ⊢
        refine RF.rowC (vs := vs) (f := f) (by (repeat (first | (with_reducible exact Rem.here _ _) | (with_reducible apply Rem.there) | fail)); done) hlt hl fun a5 c5 hva => ?_
        repeat' (first | refine st ?_ | refine And.intro ?_ ?_ | (intro e; subst e) | intro _)
        · have hli : i < (f.at h).length := by omega
          have hge : (f.at h).getD i 0 = (f.at h)[i] := by rw [List.getD_eq_getElem?_getD, List.getElem?_eq_getElem hli]; rfl
          have hg : (f.at h).getD i 0 < f.N := by rw [hge]; exact w.lt hlt (List.getElem_mem _)
          have hg2 : to.getD ((f.at h).getD i 0) 0 < 4294967296 := by
            rw [List.getD_eq_getElem?_getD, List.getElem?_eq_getElem (by omega)]; exact hto _ (List.getElem_mem _)
          have B2 := wo2.bnd
          have hlh := b3 h
          refine drx [] ?_
          refine tks [0, 1, 2, 3, 5, 8, 4, 6, 7, 9, 10, 11, 12] 7 ?_; repeat' (first | refine st ?_ | refine And.intro ?_ ?_ | (intro e; subst e) | intro _)
          refine hv2 13 17 (fun x13 => ?_) (fun b12 => ?_)
          · refine tks [14, 15, 16] 3 ?_; repeat' (first | refine st ?_ | refine And.intro ?_ ?_ | (intro e; subst e) | intro _)
            refine hv 17 fun b12 => ?_
            refine hv0 18 fun _ => ?_
            refine tks [19] 0 ?_; repeat' (first | refine st ?_ | refine And.intro ?_ ?_ | (intro e; subst e) | intro _)
            · have hn : f.renF to N = none := by rw [← hr2, renList_step hli, ← hge, if_neg (by assumption)]; rfl
              have h2 : renG f to N = f := by unfold renG; rw [hn]; rfl
              have h3 : renE f to N = 2 := by unfold renE; rw [if_pos hn]
              rw [h2, h3]
              exact ra2 (a, c) rfl
            · rw [renList_step hli, ← hge, if_pos (by omega)] at hr2
              simp only [hN2, hL2]
              exact again hK2 ⟨(i + 1, o2.addF h (to.getD ((f.at h).getD i 0) 0) false, x13.1, x13.2), by omega, wo2.addF _ _ _, Fld.addF_N.trans hN2, Fld.addF_len.trans hL2, hr2⟩
          · refine hv 13 fun x13 => ?_
            refine tks [14, 15, 16] 2 ?_; repeat' (first | refine st ?_ | refine And.intro ?_ ?_ | (intro e; subst e) | intro _)
            refine hv0 18 fun _ => ?_
            refine tks [19] 0 ?_; repeat' (first | refine st ?_ | refine And.intro ?_ ?_ | (intro e; subst e) | intro _)
            · have hn : f.renF to N = none := by rw [← hr2, renList_step hli, ← hge, if_neg (by assumption)]; rfl
              have h2 : renG f to N = f := by unfold renG; rw [hn]; rfl
              have h3 : renE f to N = 2 := by unfold renE; rw [if_pos hn]
              rw [h2, h3]
              exact ra2 (a, c) rfl
            · rw [renList_step hli, ← hge, if_pos (by omega)] at hr2
              simp only [hN2, hL2]
              exact again hK2 ⟨(i + 1, o2.addF h (to.getD ((f.at h).getD i 0) 0) false, x13.1, x13.2), by omega, wo2.addF _ _ _, Fld.addF_N.trans hN2, Fld.addF_len.trans hL2, hr2⟩
        · obtain rfl : i = (f.at h).length := by omega
          rw [List.drop_length] at hr2
          exact again hK ⟨(h + 1, o2, a4, c4), by omega, wo2, hN2, hL2, hr2⟩
      · obtain rfl : h = f.L.length := by omega
        rw [List.drop_length] at hr
        have hr3 : f.renF to N = some o := hr.symm
        have h2 : renG f to N = o := by unfold renG; rw [hr3]; rfl
        have h3 : renE f to N = 0 := by unfold renE; rw [hr3, if_neg (by simp)]
        rw [h2, h3, hN]
        exact ra2 (a3, c3) rfl⟩
end Go.Proofs.Ytgmccdicncocdaa
