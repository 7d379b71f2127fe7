/- links, walked: other numbers. -/
import Derived.Test.YtgmccdicncocdaaLkW7
import Derived.Test.YtgmccdicncocdaaLkRen
namespace Go.Proofs.Ytgmccdicncocdaa
open Go.Sl Go.Lk
attribute [local irreducible] TK TL TC Th Bk Nx fnPost WA TQ OpQ OpN SpecH Rd Ent IterH RoundH Rb Rp fnPostM
theorem listOf_nat' (f : Fld) (k : Nat) : f.listOf k = f.at k := by unfold Fld.listOf; rw [if_pos (by omega), Int.toNat_natCast]
set_option maxHeartbeats 4000000 in
instance fRenumber : Known Try.prog 27 (∀ (p : Nat) (f : Fld) (a : Option Addr) (cap : Nat) (to : List Nat) (nodes : Int), (∀ n ∈ to, n < 4294967296) → to.length ≤ 4194304 → SpecH Try.prog 27 #[.pointer (some ⟨p, 0, none⟩), .slice a to.length cap, .int .i64 nodes] [FieldAt p f, Vec 35 1 a to.length cap (u32s to)] (fun _ : Unit => .int .i64 (renE f to nodes)) (fun _ => [FieldAt p (renG f to nodes), Vec 35 1 a to.length cap (u32s to)])) := ⟨fun p f a cap to nodes hto htl => by
  refine spec_of Try.func27 rfl Try.ntmps27 rfl [(0, _), (1, _), (2, _)] rfl ?_; intro base F l0 hl0; (try simp only [List.cons_append] at hl0); (try simp only [List.nil_append] at hl0); subst hl0
  refine TC.know (fun _ z => FieldAt.wf (Rem.here _ _) z) fun w => ?_
  have hbd := w.bound
  refine FieldAt.openC fun s r => ?_
  have g1 := r.n1; have g2 := r.n2; have g3 := r.m1; have g4 := r.m2; have hM := r.M; have hN := r.N
  refine LinksAt.openC (by omega) (by omega) fun b cf b2 cl => ?_
  by_cases hb : nodes < 1 ∨ 4194304 < nodes
  · obtain ⟨h1, h2⟩ := ren_none (f := f) (to := to) (nodes := nodes) (by unfold Fld.renF; rw [if_pos (by omega)])
    rw [h1, h2]
    repeat' (first | refine st ?_ | refine And.intro ?_ ?_ | (intro e; subst e) | intro _)
    refine call (new_bad.out nodes s.M (by omega)) ?_
    repeat' (first | refine st ?_ | refine And.intro ?_ ?_ | (intro e; subst e) | intro _)
    exact rt1 () rfl ((LinksAt.shut.trans (FieldAt.shut r)).trans en)
  · obtain ⟨N, rfl⟩ : ∃ N : Nat, nodes = N := ⟨nodes.toNat, by omega⟩
    repeat' (first | refine st ?_ | refine And.intro ?_ ?_ | (intro e; subst e) | intro _)
    · obtain ⟨h1, h2⟩ := ren_none (f := f) (to := to) (nodes := N) (by unfold Fld.renF; rw [if_pos (by omega)])
      rw [h1, h2]
      exact rt1 () rfl (en2 (LinksAt.shut.trans (FieldAt.shut r)))
    · rename_i q hlen
      have hR : f.renF to N = renLists to 0 f.L ⟨N, List.replicate f.L.length []⟩ := by unfold Fld.renF; rw [if_neg (by omega), Int.toNat_natCast]
      refine TC.ent (l' := [FieldAt p f, FieldAt q ⟨N, List.replicate s.M []⟩, Vec 35 1 a to.length cap (u32s to), F]) (en2 (LinksAt.shut.trans (FieldAt.shut r))) ?_
      rw [hM]
      refine tc_lp (ι := {x : Nat × Fld // x.1 ≤ f.L.length ∧ renLists to x.1 (f.L.drop x.1) x.2 = f.renF to N}) [40] (fun e x => (40, .int .i64 x.1.1) :: e)
        (fun x => [FieldAt p f, FieldAt q x.1.2, Vec 35 1 a to.length cap (u32s to), F]) (fun x => f.L.length - x.1.1) ⟨(0, ⟨N, List.replicate f.L.length []⟩), by omega, hR.symm⟩ ?_
      rintro K ⟨⟨h, o⟩, hh, hr⟩ hK
      dsimp only at hh hr ⊢
      have hlh := w.len_le h
      (repeat refine st ?_)
      constructor
      · intro hc
        have hlt : h < f.L.length := by omega
        (repeat refine st ?_)
        intro a5 c5
        simp only [listOf_nat']
        repeat' (first | refine st ?_ | refine And.intro ?_ ?_ | (intro e; subst e) | intro _)
        refine tc_lp (ι := {x : Nat × Fld // x.1 ≤ (f.at h).length ∧ (renList to h ((f.at h).drop x.1) x.2).bind (renLists to (h + 1) (f.L.drop (h + 1))) = f.renF to N}) [47] (fun e x => (47, .int .i64 x.1.1) :: e)
          (fun x => [FieldAt p f, FieldAt q x.1.2, Vec 35 1 a to.length cap (u32s to), Vec 35 1 a5 (f.at h).length c5 (u32s (f.at h)), F]) (fun x => (f.at h).length - x.1.1) ⟨(0, o), by omega, by rw [List.drop_zero, ← renLists_step hlt]; exact hr⟩ ?_
        rintro K2 ⟨⟨i, o2⟩, hi, hr2⟩ hK2
        dsimp only at hi hr2 ⊢
        have hge : ∀ h0 : i < (f.at h).length, (f.at h).getD i 0 = (f.at h)[i] := fun h0 => by rw [List.getD_eq_getElem?_getD, List.getElem?_eq_getElem h0]; rfl
        have hg : i < (f.at h).length → (f.at h).getD i 0 < to.length := fun h0 => by rw [hge h0]; have := w.lt hlt (List.getElem_mem h0); omega
        have hg2 : i < (f.at h).length → to.getD ((f.at h).getD i 0) 0 < 4294967296 := fun h0 => by
          rw [List.getD_eq_getElem?_getD, List.getElem?_eq_getElem (hg h0)]; exact hto _ (List.getElem_mem _)
        repeat' (first | refine st ?_ | refine And.intro ?_ ?_ | (intro e; subst e) | intro _)
        · have hli : i < (f.at h).length := by omega
          rw [renList_step hli, ← hge hli, if_neg (by assumption)] at hr2
          obtain ⟨h1, h2⟩ := ren_none (f := f) (to := to) (nodes := N) hr2.symm
          rw [h1, h2]
          exact rt1 () rfl
        · have hli : i < (f.at h).length := by omega
          rw [renList_step hli, ← hge hli, if_pos (by omega)] at hr2
          exact again hK2 ⟨(i + 1, o2.addF h (to.getD ((f.at h).getD i 0) 0) false), by omega, hr2⟩
        · obtain rfl : i = (f.at h).length := by omega
          rw [List.drop_length] at hr2
          exact again hK ⟨(h + 1, o2), by omega, hr2⟩
      · intro hc
        obtain rfl : h = f.L.length := by omega
        rw [List.drop_length] at hr
        obtain ⟨h1, h2⟩ := ren_some (f := f) (to := to) (nodes := N) hr.symm
        rw [h1, h2]
        (repeat refine st ?_)
        refine FieldAt.pick (p := q) (by (repeat (first | (with_reducible exact Rem.here _ _) | (with_reducible apply Rem.there) | fail)); done) fun s2 r2 => ?_
        have k1 := r2.n1; have k2 := r2.n2; have k3 := r2.m1; have k4 := r2.m2
        refine LinksAt.openL (by omega) (by omega) fun c cf3 c2 cl3 => ?_
        refine FieldAt.pick (p := p) (by (repeat (first | (with_reducible exact Rem.here _ _) | (with_reducible apply Rem.there) | fail)); done) fun s3 r3 => ?_
        have j1 := r3.n1; have j2 := r3.n2; have j3 := r3.m1; have j4 := r3.m2
        refine LinksAt.openL (by omega) (by omega) fun d cf4 d2 cl4 => ?_
        repeat' (first | refine st ?_ | refine And.intro ?_ ?_ | (intro e; subst e) | intro _)
        exact rt1 () rfl (en2 ((LinksAt.shut (s := s2)).trans (FieldAt.shut r2)))⟩
end Go.Proofs.Ytgmccdicncocdaa
