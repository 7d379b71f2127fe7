/- LkC: LkW7, LkW8, LkW9. -/
import Derived.Test.YtdpiglociolagaaGreatLkB
import Derived.Test.YtdpiglociolagaaGreatLkA
import Derived.Test.YtdpiglociolagaaGreatSlD
/- links, walked: an iterator over a list, joining, other numbers. -/
namespace Go.Proofs.YtdpiglociolagaaGreat
open Go.Sl Go.Lk
section
variable {r : Option Nat} {P : Program} {base : World} {n : Nat} {ds : List Deferred} {Q : Exit → Act → World → Prop} {env : Env} {l rest : List HP} {all : Array Oper} {c : Code} {ro : List Oper} {K : Act → World → Prop} {p : Nat} {f : Fld}
theorem FieldAt.openK (h : ∀ s, Repr s f → TK base n ds K env (LinksAt p s :: l)) : TK base n ds K env (FieldAt p f :: l) := by
  refine TK.open (f := fun q : {s : LS // Repr s f} => LinksAt p q.1 :: l) (fun h x => ?_) fun q => h q.1 q.2
  obtain ⟨a, b, hd, rfl, ⟨s, r, hs⟩, hb⟩ := x
  exact ⟨⟨s, r⟩, a, b, hd, rfl, hs, hb⟩
theorem FieldAt.wf {h : Hp} (hr : Rem l (FieldAt p f) rest) (x : lst l h) : Wf f := by
  obtain ⟨a, b, hd, rfl, ⟨s, r, hs⟩, hb⟩ := hr.out x
  exact ⟨s, r⟩
theorem FieldAt.openC (h : ∀ s, Repr s f → TC r P base n ds c Q env (LinksAt p s :: l)) : TC r P base n ds c Q env (FieldAt p f :: l) := by
  unfold TC at *; exact FieldAt.openK h
theorem FieldAt.pick (hr : Rem l (FieldAt p f) rest) (h : ∀ s, Repr s f → TL r P base n ds all ro Q env (LinksAt p s :: rest)) : TL r P base n ds all ro Q env l := by
  unfold TL at *; exact TK.ent (fun _ y => hr.out y) (FieldAt.openK h)
end
def SeqC (c : Nat) (ns : List Nat) : HP := Exs (ι := Option Addr × Nat) fun q => [cobj c 27 [.slice q.1 ns.length q.2], RoS 1 q.1 ns.length q.2 (u32s ns), fact (ns.length ≤ 4194304)]
instance (c : Nat) (ns : List Nat) : Pers (SeqC c ns) := by unfold SeqC; infer_instance
theorem seq_iter (c : Nat) (ns : List Nat) : IterH Tryz.prog 104 #[.pointer (some ⟨c, 0, none⟩)] (u32a ns) [SeqC c ns] := by
  unfold IterH
  intro lp rec I B hst hpe hlen hround
  refine spec_open (α := Option (Nat × Code)) (ι := {q : Option Addr × Nat // ns.length ≤ 4194304}) (pre' := fun q => [blk lp (.loop rec), I 0, cobj c 27 [.slice q.1.1 ns.length q.1.2], RoS 1 q.1.1 ns.length q.1.2 (u32s ns)]) (fun h x => ?_) fun q => ?_
  · obtain ⟨q, y⟩ := exs_out (f := fun q : Option Addr × Nat => [cobj c 27 [.slice q.1 ns.length q.2], RoS 1 q.1 ns.length q.2 (u32s ns), fact (ns.length ≤ 4194304)]) (r := [blk lp (.loop rec), I 0]) (by unfold SeqC at x; exact .there _ (.there _ (.here _ _))) x
    have hn : ns.length ≤ 4194304 := (lst_fact (lst_drop (lst_drop y))).1
    refine ⟨⟨q, hn⟩, ?_⟩
    have e : Ent (cobj c 27 [.slice q.1 ns.length q.2] :: RoS 1 q.1 ns.length q.2 (u32s ns) :: fact (ns.length ≤ 4194304) :: [blk lp (.loop rec), I 0]) [blk lp (.loop rec), I 0, cobj c 27 [.slice q.1 ns.length q.2], RoS 1 q.1 ns.length q.2 (u32s ns)] := en
    exact e _ y
  · have h1 := iter_spec c q.1.1 q.1.2 ns q.2
    unfold IterH at h1
    refine ⟨_, _, h1 lp rec I B hst hpe hlen hround, fun o => ⟨o, rfl, ?_⟩⟩
    cases o with
    | none =>
      show Ent [blk lp (.loop rec), I (u32a ns).length, cobj c 27 [.slice q.1.1 ns.length q.1.2], RoS 1 q.1.1 ns.length q.1.2 (u32s ns)] [blk lp (.loop rec), I (u32a ns).length, SeqC c ns]
      unfold SeqC
      refine Ent.cons (.here _ _) (Ent.cons (.here _ _) (Ent.exs q.1 ?_))
      exact Ent.cons (.here _ _) (Ent.cons (.here _ _) (Ent.fact q.2 (Ent.refl _)))
    | some x =>
      show Ent [blk lp (.loop (doneL rec x.2)), B x.1 x.2, cobj c 27 [.slice q.1.1 ns.length q.1.2], RoS 1 q.1.1 ns.length q.1.2 (u32s ns)] [blk lp (.loop (doneL rec x.2)), B x.1 x.2, SeqC c ns]
      unfold SeqC
      refine Ent.cons (.here _ _) (Ent.cons (.here _ _) (Ent.exs q.1 ?_))
      exact Ent.cons (.here _ _) (Ent.cons (.here _ _) (Ent.fact q.2 (Ent.refl _)))
attribute [local irreducible] TK TL TC Th Bk Nx fnPost WA TQ OpQ OpN SpecH Rd Ent IterH RoundH Rb Rp fnPostM
set_option maxHeartbeats 2000000 in
instance fAll : Known Tryz.prog 62 (∀ (p : Nat) (f : Fld) (h : Int), SpecH Tryz.prog 62 #[.pointer (some ⟨p, 0, none⟩), .int .i64 h] [FieldAt p f] (fun c : Nat => .func (.func 104) #[] #[.pointer (some ⟨c, 0, none⟩)]) (fun c => [FieldAt p f, SeqC c (f.listOf h)])) := ⟨fun p f h => by
  refine spec_of Tryz.func62 rfl Tryz.ntmps62 rfl [(0, _), (1, _)] rfl ?_; intro base F l0 hl0; (try simp only [List.cons_append] at hl0); (try simp only [List.nil_append] at hl0); subst hl0
  refine TC.know (fun _ x => FieldAt.wf (Rem.here _ _) x) fun w => ?_
  have hlen : (f.listOf h).length ≤ 4194304 := by
    unfold Fld.listOf; have := w.bound; split
    · have := w.len_le h.toNat; omega
    · simp
  repeat' (first | refine st ?_ | refine And.intro ?_ ?_ | (intro e; subst e) | intro _)
  rename_i a0 c0 a1 c1 b
  refine frz a1 ?_
  refine shr b ?_
  refine rt1 b rfl ?_
  unfold SeqC
  refine Ent.trans (b := cobj b 27 [.slice a1 (f.listOf h).length c1] :: RoS 1 a1 (f.listOf h).length c1 (u32s (f.listOf h)) :: [FieldAt p f, F]) en ?_
  refine Ent.cons (by (repeat (first | (with_reducible exact Rem.here _ _) | (with_reducible apply Rem.there) | fail)); done) (Ent.exs (a1, c1) ?_)
  exact Ent.cons (.here _ _) (Ent.cons (.here _ _) (Ent.fact hlen en))⟩
end Go.Proofs.YtdpiglociolagaaGreat

/- links, walked: joining, other numbers. -/
namespace Go.Proofs.YtdpiglociolagaaGreat
open Go.Sl Go.Lk
attribute [local irreducible] TK TL TC Th Bk Nx fnPost WA TQ OpQ OpN SpecH Rd Ent IterH RoundH Rb Rp fnPostM
end Go.Proofs.YtdpiglociolagaaGreat

/- links, walked: other numbers. -/
namespace Go.Proofs.YtdpiglociolagaaGreat
open Go.Sl Go.Lk
attribute [local irreducible] TK TL TC Th Bk Nx fnPost WA TQ OpQ OpN SpecH Rd Ent IterH RoundH Rb Rp fnPostM
theorem listOf_nat' (f : Fld) (k : Nat) : f.listOf k = f.at k := by unfold Fld.listOf; rw [if_pos (by omega), Int.toNat_natCast]
set_option maxHeartbeats 4000000 in
instance fRenumber : Known Tryz.prog 117 (∀ (p : Nat) (f : Fld) (a : Option Addr) (cap : Nat) (to : List Nat) (nodes : Int), (∀ n ∈ to, n < 4294967296) → to.length ≤ 4194304 → SpecH Tryz.prog 117 #[.pointer (some ⟨p, 0, none⟩), .slice a to.length cap, .int .i64 nodes] [FieldAt p f, Vec 41 1 a to.length cap (u32s to)] (fun _ : Unit => .int .i64 (renE f to nodes)) (fun _ => [FieldAt p (renG f to nodes), Vec 41 1 a to.length cap (u32s to)])) := ⟨fun p f a cap to nodes hto htl => by
  refine spec_of Tryz.func117 rfl Tryz.ntmps117 rfl [(0, _), (1, _), (2, _)] rfl ?_; intro base F l0 hl0; (try simp only [List.cons_append] at hl0); (try simp only [List.nil_append] at hl0); subst hl0
  refine TC.know (fun _ z => FieldAt.wf (Rem.here _ _) z) fun w => ?_
  have hbd := w.bound
  refine FieldAt.openC fun s r => ?_
  have g1 := r.n1; have g2 := r.n2; have g3 := r.m1; have g4 := r.m2; have hM := r.M; have hN := r.N
  refine LinksAt.openC (by omega) (by omega) fun b cf b2 cl => ?_
  by_cases hb : nodes < 1 ∨ 4194304 < nodes
  · obtain ⟨h1, h2⟩ := ren_none (f := f) (to := to) (nodes := nodes) (by unfold Fld.renF; rw [if_pos (by omega)])
    rw [h1, h2]
    repeat' (first | refine st ?_ | refine And.intro ?_ ?_ | (intro e; subst e) | intro _)
    refine call (new_bad.out nodes s.M (by omega)) ?_
    repeat' (first | refine st ?_ | refine And.intro ?_ ?_ | (intro e; subst e) | intro _)
    exact rt1 () rfl ((LinksAt.shut.trans (FieldAt.shut r)).trans en)
  · obtain ⟨N, rfl⟩ : ∃ N : Nat, nodes = N := ⟨nodes.toNat, by omega⟩
    repeat' (first | refine st ?_ | refine And.intro ?_ ?_ | (intro e; subst e) | intro _)
    · obtain ⟨h1, h2⟩ := ren_none (f := f) (to := to) (nodes := N) (by unfold Fld.renF; rw [if_pos (by omega)])
      rw [h1, h2]
      exact rt1 () rfl (en2 (LinksAt.shut.trans (FieldAt.shut r)))
    · rename_i q hlen
      have hR : f.renF to N = renLists to 0 f.L ⟨N, List.replicate f.L.length []⟩ := by unfold Fld.renF; rw [if_neg (by omega), Int.toNat_natCast]
      refine TC.ent (l' := [FieldAt p f, FieldAt q ⟨N, List.replicate s.M []⟩, Vec 41 1 a to.length cap (u32s to), F]) (en2 (LinksAt.shut.trans (FieldAt.shut r))) ?_
      rw [hM]
      refine tc_lp (ι := {x : Nat × Fld // x.1 ≤ f.L.length ∧ renLists to x.1 (f.L.drop x.1) x.2 = f.renF to N}) [40] (fun e x => (40, .int .i64 x.1.1) :: e)
        (fun x => [FieldAt p f, FieldAt q x.1.2, Vec 41 1 a to.length cap (u32s to), F]) (fun x => f.L.length - x.1.1) ⟨(0, ⟨N, List.replicate f.L.length []⟩), by omega, hR.symm⟩ ?_
      rintro K ⟨⟨h, o⟩, hh, hr⟩ hK
      dsimp only at hh hr ⊢
      have hlh := w.len_le h
      (repeat refine st ?_)
      constructor
      · intro hc
        have hlt : h < f.L.length := by omega
        (repeat refine st ?_)
        intro a5 c5
        simp only [listOf_nat']
        repeat' (first | refine st ?_ | refine And.intro ?_ ?_ | (intro e; subst e) | intro _)
        refine tc_lp (ι := {x : Nat × Fld // x.1 ≤ (f.at h).length ∧ (renList to h ((f.at h).drop x.1) x.2).bind (renLists to (h + 1) (f.L.drop (h + 1))) = f.renF to N}) [47] (fun e x => (47, .int .i64 x.1.1) :: e)
          (fun x => [FieldAt p f, FieldAt q x.1.2, Vec 41 1 a to.length cap (u32s to), Vec 41 1 a5 (f.at h).length c5 (u32s (f.at h)), F]) (fun x => (f.at h).length - x.1.1) ⟨(0, o), by omega, by rw [List.drop_zero, ← renLists_step hlt]; exact hr⟩ ?_
        rintro K2 ⟨⟨i, o2⟩, hi, hr2⟩ hK2
        dsimp only at hi hr2 ⊢
        have hge : ∀ h0 : i < (f.at h).length, (f.at h).getD i 0 = (f.at h)[i] := fun h0 => by rw [List.getD_eq_getElem?_getD, List.getElem?_eq_getElem h0]; rfl
        have hg : i < (f.at h).length → (f.at h).getD i 0 < to.length := fun h0 => by rw [hge h0]; have := w.lt hlt (List.getElem_mem h0); omega
        have hg2 : i < (f.at h).length → to.getD ((f.at h).getD i 0) 0 < 4294967296 := fun h0 => by
          rw [List.getD_eq_getElem?_getD, List.getElem?_eq_getElem (hg h0)]; exact hto _ (List.getElem_mem _)
        repeat' (first | refine st ?_ | refine And.intro ?_ ?_ | (intro e; subst e) | intro _)
        · have hli : i < (f.at h).length := by omega
          rw [renList_step hli, ← hge hli, if_neg (by assumption)] at hr2
          obtain ⟨h1, h2⟩ := ren_none (f := f) (to := to) (nodes := N) hr2.symm
          rw [h1, h2]
          exact rt1 () rfl
        · have hli : i < (f.at h).length := by omega
          rw [renList_step hli, ← hge hli, if_pos (by omega)] at hr2
          exact again hK2 ⟨(i + 1, o2.addF h (to.getD ((f.at h).getD i 0) 0) false), by omega, hr2⟩
        · obtain rfl : i = (f.at h).length := by omega
          rw [List.drop_length] at hr2
          exact again hK ⟨(h + 1, o2), by omega, hr2⟩
      · intro hc
        obtain rfl : h = f.L.length := by omega
        rw [List.drop_length] at hr
        obtain ⟨h1, h2⟩ := ren_some (f := f) (to := to) (nodes := N) hr.symm
        rw [h1, h2]
        (repeat refine st ?_)
        refine FieldAt.pick (p := q) (by (repeat (first | (with_reducible exact Rem.here _ _) | (with_reducible apply Rem.there) | fail)); done) fun s2 r2 => ?_
        have k1 := r2.n1; have k2 := r2.n2; have k3 := r2.m1; have k4 := r2.m2
        refine LinksAt.openL (by omega) (by omega) fun c cf3 c2 cl3 => ?_
        refine FieldAt.pick (p := p) (by (repeat (first | (with_reducible exact Rem.here _ _) | (with_reducible apply Rem.there) | fail)); done) fun s3 r3 => ?_
        have j1 := r3.n1; have j2 := r3.n2; have j3 := r3.m1; have j4 := r3.m2
        refine LinksAt.openL (by omega) (by omega) fun d cf4 d2 cl4 => ?_
        repeat' (first | refine st ?_ | refine And.intro ?_ ?_ | (intro e; subst e) | intro _)
        exact rt1 () rfl (en2 ((LinksAt.shut (s := s2)).trans (FieldAt.shut r2)))⟩
end Go.Proofs.YtdpiglociolagaaGreat
