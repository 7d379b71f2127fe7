/- links, walked: an iterator over a list, joining, other numbers. -/
import Derived.Test.YtgmccdicncocdaaLkField
import Derived.Test.YtgmccdicncocdaaLkTheory4
import Derived.Test.YtgmccdicncocdaaSlData
namespace Go.Proofs.Ytgmccdicncocdaa
open Go.Sl Go.Lk
section
variable {r : Option Nat} {P : Program} {base : World} {n : Nat} {ds : List Deferred} {Q : Exit → Act → World → Prop} {env : Env} {l rest : List HP} {all : Array Oper} {c : Code} {ro : List Oper} {K : Act → World → Prop} {p : Nat} {f : Fld}
theorem FieldAt.openK (h : ∀ s, Repr s f → TK base n ds K env (LinksAt p s :: l)) : TK base n ds K env (FieldAt p f :: l) := by
  refine TK.open (f := fun q : {s : LS // Repr s f} => LinksAt p q.1 :: l) (fun h x => ?_) fun q => h q.1 q.2
  obtain ⟨a, b, hd, rfl, ⟨s, r, hs⟩, hb⟩ := x
  exact ⟨⟨s, r⟩, a, b, hd, rfl, hs, hb⟩
theorem FieldAt.wf {h : Hp} (hr : Rem l (FieldAt p f) rest) (x : lst l h) : Wf f := by
  obtain ⟨a, b, hd, rfl, ⟨s, r, hs⟩, hb⟩ := hr.out x
  exact ⟨s, r⟩
theorem FieldAt.openC (h : ∀ s, Repr s f → TC r P base n ds c Q env (LinksAt p s :: l)) : TC r P base n ds c Q env (FieldAt p f :: l) := by
  unfold TC at *; exact FieldAt.openK h
theorem FieldAt.pick (hr : Rem l (FieldAt p f) rest) (h : ∀ s, Repr s f → TL r P base n ds all ro Q env (LinksAt p s :: rest)) : TL r P base n ds all ro Q env l := by
  unfold TL at *; exact TK.ent (fun _ y => hr.out y) (FieldAt.openK h)
end
theorem _root_.Go.Lk.Repr.listE_t {s : LS} {f : Fld} (r : Repr s f) {x : Int} (h : f.head x = true) : listE s.M x = 0 := by unfold listE; rw [if_neg]; have := r.headM.1 h; omega
theorem _root_.Go.Lk.Repr.listE_f {s : LS} {f : Fld} (r : Repr s f) {x : Int} (h : f.head x = false) : listE s.M x = 2 := by unfold listE; rw [if_pos]; exact r.headF.1 h
/-- The captured list of an iterator over numbers. -/
def SeqC (c : Nat) (ns : List Nat) : HP := Exs (ι := Option Addr × Nat) fun q => [cobj c 22 [.slice q.1 ns.length q.2], RoS 1 q.1 ns.length q.2 (u32s ns), fact (ns.length ≤ 4194304)]
instance (c : Nat) (ns : List Nat) : Pers (SeqC c ns) := by unfold SeqC; infer_instance
theorem seq_iter (c : Nat) (ns : List Nat) : IterH Try.prog 44 #[.pointer (some ⟨c, 0, none⟩)] (u32a ns) [SeqC c ns] := by
  unfold IterH
  intro lp rec I B hst hpe hlen hround
  refine spec_open (α := Option (Nat × Code)) (ι := {q : Option Addr × Nat // ns.length ≤ 4194304}) (pre' := fun q => [blk lp (.loop rec), I 0, cobj c 22 [.slice q.1.1 ns.length q.1.2], RoS 1 q.1.1 ns.length q.1.2 (u32s ns)]) (fun h x => ?_) fun q => ?_
  · obtain ⟨q, y⟩ := exs_out (f := fun q : Option Addr × Nat => [cobj c 22 [.slice q.1 ns.length q.2], RoS 1 q.1 ns.length q.2 (u32s ns), fact (ns.length ≤ 4194304)]) (r := [blk lp (.loop rec), I 0]) (by unfold SeqC at x; exact .there _ (.there _ (.here _ _))) x
    have hn : ns.length ≤ 4194304 := (lst_fact (lst_drop (lst_drop y))).1
    refine ⟨⟨q, hn⟩, ?_⟩
    have e : Ent (cobj c 22 [.slice q.1 ns.length q.2] :: RoS 1 q.1 ns.length q.2 (u32s ns) :: fact (ns.length ≤ 4194304) :: [blk lp (.loop rec), I 0]) [blk lp (.loop rec), I 0, cobj c 22 [.slice q.1 ns.length q.2], RoS 1 q.1 ns.length q.2 (u32s ns)] := en
    exact e _ y
  · have h1 := iter_spec c q.1.1 q.1.2 ns q.2
    unfold IterH at h1
    refine ⟨_, _, h1 lp rec I B hst hpe hlen hround, fun o => ⟨o, rfl, ?_⟩⟩
    cases o with
    | none =>
      show Ent [blk lp (.loop rec), I (u32a ns).length, cobj c 22 [.slice q.1.1 ns.length q.1.2], RoS 1 q.1.1 ns.length q.1.2 (u32s ns)] [blk lp (.loop rec), I (u32a ns).length, SeqC c ns]
      unfold SeqC
      refine Ent.cons (.here _ _) (Ent.cons (.here _ _) (Ent.exs q.1 ?_))
      exact Ent.cons (.here _ _) (Ent.cons (.here _ _) (Ent.fact q.2 (Ent.refl _)))
    | some x =>
      show Ent [blk lp (.loop (doneL rec x.2)), B x.1 x.2, cobj c 22 [.slice q.1.1 ns.length q.1.2], RoS 1 q.1.1 ns.length q.1.2 (u32s ns)] [blk lp (.loop (doneL rec x.2)), B x.1 x.2, SeqC c ns]
      unfold SeqC
      refine Ent.cons (.here _ _) (Ent.cons (.here _ _) (Ent.exs q.1 ?_))
      exact Ent.cons (.here _ _) (Ent.cons (.here _ _) (Ent.fact q.2 (Ent.refl _)))
attribute [local irreducible] TK TL TC Th Bk Nx fnPost WA TQ OpQ OpN SpecH Rd Ent IterH RoundH Rb Rp fnPostM
set_option maxHeartbeats 2000000 in
instance fAll : Known Try.prog 14 (∀ (p : Nat) (f : Fld) (h : Int), SpecH Try.prog 14 #[.pointer (some ⟨p, 0, none⟩), .int .i64 h] [FieldAt p f] (fun c : Nat => .func (.func 44) #[] #[.pointer (some ⟨c, 0, none⟩)]) (fun c => [FieldAt p f, SeqC c (f.listOf h)])) := ⟨fun p f h => by
  refine spec_of Try.func14 rfl Try.ntmps14 rfl [(0, _), (1, _)] rfl ?_; intro base F l0 hl0; (try simp only [List.cons_append] at hl0); (try simp only [List.nil_append] at hl0); subst hl0
  refine TC.know (fun _ x => FieldAt.wf (Rem.here _ _) x) fun w => ?_
  have hlen : (f.listOf h).length ≤ 4194304 := by
    unfold Fld.listOf; have := w.bound; split
    · have := w.len_le h.toNat; omega
    · simp
  repeat' (first | refine st ?_ | refine And.intro ?_ ?_ | (intro e; subst e) | intro _)
  rename_i a0 c0 a1 c1 b
  refine frz a1 ?_
  refine shr b ?_
  refine rt1 b rfl ?_
  unfold SeqC
  refine Ent.trans (b := cobj b 22 [.slice a1 (f.listOf h).length c1] :: RoS 1 a1 (f.listOf h).length c1 (u32s (f.listOf h)) :: [FieldAt p f, F]) en ?_
  refine Ent.cons (by (repeat (first | (with_reducible exact Rem.here _ _) | (with_reducible apply Rem.there) | fail)); done) (Ent.exs (a1, c1) ?_)
  exact Ent.cons (.here _ _) (Ent.cons (.here _ _) (Ent.fact hlen en))⟩
theorem joinE_fld (f : Fld) (x y : Int) : f.joinE x y = if f.head x = false ∨ f.head y = false ∨ x = y then 2 else 0 := rfl
set_option maxHeartbeats 4000000 in
theorem join_bad (p : Nat) (f : Fld) (x y : Int) (hb : ¬ (0 ≤ x ∧ x < f.L.length) ∨ ¬ (0 ≤ y ∧ y < f.L.length) ∨ x = y) : SpecH Try.prog 24 #[.pointer (some ⟨p, 0, none⟩), .int .i64 x, .int .i64 y] [FieldAt p f] (fun _ : Unit => .int .i64 2) (fun _ => [FieldAt p f]) := by
  refine spec_of Try.func24 rfl Try.ntmps24 rfl [(0, _), (1, _), (2, _)] rfl ?_; intro base F l0 hl0; (try simp only [List.cons_append] at hl0); (try simp only [List.nil_append] at hl0); subst hl0
  refine FieldAt.openC fun s r => ?_
  have g1 := r.n1; have g2 := r.n2; have g3 := r.m1; have g4 := r.m2; have hM := r.M
  refine LinksAt.openC (by omega) (by omega) fun b cf b2 cl => ?_
  have eX : listE s.M x = if x < 0 ∨ (s.M : Int) ≤ x then 2 else 0 := rfl
  have eY : listE s.M y = if y < 0 ∨ (s.M : Int) ≤ y then 2 else 0 := rfl
  repeat' (first | refine st ?_ | refine And.intro ?_ ?_ | (intro e; subst e) | intro _)
  refine tc_lp (ι := {k : Nat // k ≤ 2 ∧ (1 ≤ k → 0 ≤ x ∧ x < f.L.length) ∧ (2 ≤ k → 0 ≤ y ∧ y < f.L.length)}) [15] (fun e k => (15, .int .i64 k.1) :: e)
    (fun k => _) (fun k => 2 - k.1) ⟨0, by omega, by omega, by omega⟩ ?_ (hl := Ent.refl _)
  rintro K ⟨k, hk, hx, hy⟩ hK
  dsimp only
  obtain rfl | rfl | rfl : k = 0 ∨ k = 1 ∨ k = 2 := by omega
  · repeat' (first | refine st ?_ | refine And.intro ?_ ?_ | (intro e; subst e) | intro _)
    · refine rz1 () ?_
      exact LinksAt.shut.trans (FieldAt.shut r)
    · exact again hK ⟨1, by omega, fun _ => by omega, fun h => by omega⟩
  · repeat' (first | refine st ?_ | refine And.intro ?_ ?_ | (intro e; subst e) | intro _)
    · refine rz1 () ?_
      exact LinksAt.shut.trans (FieldAt.shut r)
    · exact again hK ⟨2, by omega, fun _ => by omega, fun _ => by omega⟩
  · obtain rfl : x = y := by omega
    repeat' (first | refine st ?_ | refine And.intro ?_ ?_ | (intro e; subst e) | intro _)
    refine rz1 () ?_
    exact LinksAt.shut.trans (FieldAt.shut r)
end Go.Proofs.Ytgmccdicncocdaa
