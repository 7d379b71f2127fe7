/- LkC: LkW7, LkW8, LkW9. -/
import Derived.Test.YtmiblmoppdgnjaaLkB
import Derived.Test.YtmiblmoppdgnjaaLkA
import Derived.Test.YtmiblmoppdgnjaaSlD
/- links, walked: an iterator over a list, joining, other numbers. -/
namespace Go.Proofs.Ytmiblmoppdgnjaa
open Go.Sl Go.Lk
section
variable {r : Option Nat} {P : Program} {base : World} {n : Nat} {ds : List Deferred} {Q : Exit → Act → World → Prop} {env : Env} {l rest : List HP} {all : Array Oper} {c : Code} {ro : List Oper} {K : Act → World → Prop} {p : Nat} {f : Fld}
theorem FieldAt.openK (h : ∀ s, Repr s f → TK base n ds K env (LinksAt p s :: l)) : TK base n ds K env (FieldAt p f :: l) := by
  refine TK.open (f := fun q : {s : LS // Repr s f} => LinksAt p q.1 :: l) (fun h x => ?_) fun q => h q.1 q.2
  obtain ⟨a, b, hd, rfl, ⟨s, r, hs⟩, hb⟩ := x
  exact ⟨⟨s, r⟩, a, b, hd, rfl, hs, hb⟩
theorem FieldAt.wf {h : Hp} (hr : Rem l (FieldAt p f) rest) (x : lst l h) : Wf f := by
  obtain ⟨a, b, hd, rfl, ⟨s, r, hs⟩, hb⟩ := hr.out x
  exact ⟨s, r⟩
theorem FieldAt.openC (h : ∀ s, Repr s f → TC r P base n ds c Q env (LinksAt p s :: l)) : TC r P base n ds c Q env (FieldAt p f :: l) := by
  unfold TC at *; exact FieldAt.openK h
theorem FieldAt.pick (hr : Rem l (FieldAt p f) rest) (h : ∀ s, Repr s f → TL r P base n ds all ro Q env (LinksAt p s :: rest)) : TL r P base n ds all ro Q env l := by
  unfold TL at *; exact TK.ent (fun _ y => hr.out y) (FieldAt.openK h)
end
theorem _root_.Go.Lk.Repr.listE_t {s : LS} {f : Fld} (r : Repr s f) {x : Int} (h : f.head x = true) : listE s.M x = 0 := by unfold listE; rw [if_neg]; have := r.headM.1 h; omega
theorem _root_.Go.Lk.Repr.listE_f {s : LS} {f : Fld} (r : Repr s f) {x : Int} (h : f.head x = false) : listE s.M x = 2 := by unfold listE; rw [if_pos]; exact r.headF.1 h
/-- The captured list of an iterator over numbers. -/
def SeqC (c : Nat) (ns : List Nat) : HP := Exs (ι := Option Addr × Nat) fun q => [cobj c 41 [.slice q.1 ns.length q.2], RoS 1 q.1 ns.length q.2 (u32s ns), fact (ns.length ≤ 4194304)]
instance (c : Nat) (ns : List Nat) : Pers (SeqC c ns) := by unfold SeqC; infer_instance
theorem seq_iter (c : Nat) (ns : List Nat) : IterH Try.prog 57 #[.pointer (some ⟨c, 0, none⟩)] (u32a ns) [SeqC c ns] := by
  unfold IterH
  intro lp rec I B hst hpe hlen hround
  refine spec_open (α := Option (Nat × Code)) (ι := {q : Option Addr × Nat // ns.length ≤ 4194304}) (pre' := fun q => [blk lp (.loop rec), I 0, cobj c 41 [.slice q.1.1 ns.length q.1.2], RoS 1 q.1.1 ns.length q.1.2 (u32s ns)]) (fun h x => ?_) fun q => ?_
  · obtain ⟨q, y⟩ := exs_out (f := fun q : Option Addr × Nat => [cobj c 41 [.slice q.1 ns.length q.2], RoS 1 q.1 ns.length q.2 (u32s ns), fact (ns.length ≤ 4194304)]) (r := [blk lp (.loop rec), I 0]) (by unfold SeqC at x; exact .there _ (.there _ (.here _ _))) x
    have hn : ns.length ≤ 4194304 := (lst_fact (lst_drop (lst_drop y))).1
    refine ⟨⟨q, hn⟩, ?_⟩
    have e : Ent (cobj c 41 [.slice q.1 ns.length q.2] :: RoS 1 q.1 ns.length q.2 (u32s ns) :: fact (ns.length ≤ 4194304) :: [blk lp (.loop rec), I 0]) [blk lp (.loop rec), I 0, cobj c 41 [.slice q.1 ns.length q.2], RoS 1 q.1 ns.length q.2 (u32s ns)] := en
    exact e _ y
  · have h1 := iter_spec c q.1.1 q.1.2 ns q.2
    unfold IterH at h1
    refine ⟨_, _, h1 lp rec I B hst hpe hlen hround, fun o => ⟨o, rfl, ?_⟩⟩
    cases o with
    | none =>
      show Ent [blk lp (.loop rec), I (u32a ns).length, cobj c 41 [.slice q.1.1 ns.length q.1.2], RoS 1 q.1.1 ns.length q.1.2 (u32s ns)] [blk lp (.loop rec), I (u32a ns).length, SeqC c ns]
      unfold SeqC
      refine Ent.cons (.here _ _) (Ent.cons (.here _ _) (Ent.exs q.1 ?_))
      exact Ent.cons (.here _ _) (Ent.cons (.here _ _) (Ent.fact q.2 (Ent.refl _)))
    | some x =>
      show Ent [blk lp (.loop (doneL rec x.2)), B x.1 x.2, cobj c 41 [.slice q.1.1 ns.length q.1.2], RoS 1 q.1.1 ns.length q.1.2 (u32s ns)] [blk lp (.loop (doneL rec x.2)), B x.1 x.2, SeqC c ns]
      unfold SeqC
      refine Ent.cons (.here _ _) (Ent.cons (.here _ _) (Ent.exs q.1 ?_))
      exact Ent.cons (.here _ _) (Ent.cons (.here _ _) (Ent.fact q.2 (Ent.refl _)))
attribute [local irreducible] TK TL TC Th Bk Nx fnPost WA TQ OpQ OpN SpecH Rd Ent IterH RoundH Rb Rp fnPostM
set_option maxHeartbeats 2000000 in
instance fAll : Known Try.prog 48 (∀ (p : Nat) (f : Fld) (h : Int), SpecH Try.prog 48 #[.pointer (some ⟨p, 0, none⟩), .int .i64 h] [FieldAt p f] (fun c : Nat => .func (.func 57) #[] #[.pointer (some ⟨c, 0, none⟩)]) (fun c => [FieldAt p f, SeqC c (f.listOf h)])) := ⟨fun p f h => by
  refine spec_of Try.func48 rfl Try.ntmps48 rfl [(0, _), (1, _)] rfl ?_; intro base F l0 hl0; (try simp only [List.cons_append] at hl0); (try simp only [List.nil_append] at hl0); subst hl0
  refine TC.know (fun _ x => FieldAt.wf (Rem.here _ _) x) fun w => ?_
  have hlen : (f.listOf h).length ≤ 4194304 := by
    unfold Fld.listOf; have := w.bound; split
    · have := w.len_le h.toNat; omega
    · simp
  repeat' (first | refine st ?_ | refine And.intro ?_ ?_ | (intro e; subst e) | intro _)
  rename_i a0 c0 a1 c1 b
  refine frz a1 ?_
  refine shr b ?_
  refine rt1 b rfl ?_
  unfold SeqC
  refine Ent.trans (b := cobj b 41 [.slice a1 (f.listOf h).length c1] :: RoS 1 a1 (f.listOf h).length c1 (u32s (f.listOf h)) :: [FieldAt p f, F]) en ?_
  refine Ent.cons (by (repeat (first | (with_reducible exact Rem.here _ _) | (with_reducible apply Rem.there) | fail)); done) (Ent.exs (a1, c1) ?_)
  exact Ent.cons (.here _ _) (Ent.cons (.here _ _) (Ent.fact hlen en))⟩
theorem joinE_fld (f : Fld) (x y : Int) : f.joinE x y = if f.head x = false ∨ f.head y = false ∨ x = y then 2 else 0 := rfl
set_option maxHeartbeats 4000000 in
theorem join_bad (p : Nat) (f : Fld) (x y : Int) (hb : ¬ (0 ≤ x ∧ x < f.L.length) ∨ ¬ (0 ≤ y ∧ y < f.L.length) ∨ x = y) : SpecH Try.prog 55 #[.pointer (some ⟨p, 0, none⟩), .int .i64 x, .int .i64 y] [FieldAt p f] (fun _ : Unit => .int .i64 2) (fun _ => [FieldAt p f]) := by
  refine spec_of Try.func55 rfl Try.ntmps55 rfl [(0, _), (1, _), (2, _)] rfl ?_; intro base F l0 hl0; (try simp only [List.cons_append] at hl0); (try simp only [List.nil_append] at hl0); subst hl0
  refine FieldAt.openC fun s r => ?_
  have g1 := r.n1; have g2 := r.n2; have g3 := r.m1; have g4 := r.m2; have hM := r.M
  refine LinksAt.openC (by omega) (by omega) fun b cf b2 cl => ?_
  have eX : listE s.M x = if x < 0 ∨ (s.M : Int) ≤ x then 2 else 0 := rfl
  have eY : listE s.M y = if y < 0 ∨ (s.M : Int) ≤ y then 2 else 0 := rfl
  repeat' (first | refine st ?_ | refine And.intro ?_ ?_ | (intro e; subst e) | intro _)
  refine tc_lp (ι := {k : Nat // k ≤ 2 ∧ (1 ≤ k → 0 ≤ x ∧ x < f.L.length) ∧ (2 ≤ k → 0 ≤ y ∧ y < f.L.length)}) [15] (fun e k => (15, .int .i64 k.1) :: e)
    (fun k => _) (fun k => 2 - k.1) ⟨0, by omega, by omega, by omega⟩ ?_ (hl := Ent.refl _)
  rintro K ⟨k, hk, hx, hy⟩ hK
  dsimp only
  obtain rfl | rfl | rfl : k = 0 ∨ k = 1 ∨ k = 2 := by omega
  · repeat' (first | refine st ?_ | refine And.intro ?_ ?_ | (intro e; subst e) | intro _)
    · refine rz1 () ?_
      exact LinksAt.shut.trans (FieldAt.shut r)
    · exact again hK ⟨1, by omega, fun _ => by omega, fun h => by omega⟩
  · repeat' (first | refine st ?_ | refine And.intro ?_ ?_ | (intro e; subst e) | intro _)
    · refine rz1 () ?_
      exact LinksAt.shut.trans (FieldAt.shut r)
    · exact again hK ⟨2, by omega, fun _ => by omega, fun _ => by omega⟩
  · obtain rfl : x = y := by omega
    repeat' (first | refine st ?_ | refine And.intro ?_ ?_ | (intro e; subst e) | intro _)
    refine rz1 () ?_
    exact LinksAt.shut.trans (FieldAt.shut r)
end Go.Proofs.Ytmiblmoppdgnjaa

/- links, walked: joining, other numbers. -/
namespace Go.Proofs.Ytmiblmoppdgnjaa
open Go.Sl Go.Lk
attribute [local irreducible] TK TL TC Th Bk Nx fnPost WA TQ OpQ OpN SpecH Rd Ent IterH RoundH Rb Rp fnPostM
theorem listOf_nat (f : Fld) (k : Nat) : f.listOf k = f.at k := by unfold Fld.listOf; rw [if_pos (by omega), Int.toNat_natCast]
set_option maxHeartbeats 4000000 in
theorem join_good (p : Nat) (f : Fld) (x y : Nat) (hx : x < f.L.length) (hy : y < f.L.length) (hne : x ≠ y) : SpecH Try.prog 55 #[.pointer (some ⟨p, 0, none⟩), .int .i64 x, .int .i64 y] [FieldAt p f] (fun _ : Unit => .int .i64 0) (fun _ => [FieldAt p ((f.set y (f.at y ++ f.at x)).set x [])]) := by
  refine spec_of Try.func55 rfl Try.ntmps55 rfl [(0, _), (1, _), (2, _)] rfl ?_; intro base F l0 hl0; (try simp only [List.cons_append] at hl0); (try simp only [List.nil_append] at hl0); subst hl0
  refine TC.know (fun _ z => FieldAt.wf (Rem.here _ _) z) fun w => ?_
  have hlen := w.len_le x
  have hbd := w.bound
  refine FieldAt.openC fun s r => ?_
  have g1 := r.n1; have g2 := r.n2; have g3 := r.m1; have g4 := r.m2; have hM := r.M
  refine LinksAt.openC (by omega) (by omega) fun b cf b2 cl => ?_
  have eX : listE s.M x = if (x : Int) < 0 ∨ (s.M : Int) ≤ x then 2 else 0 := rfl
  have eY : listE s.M y = if (y : Int) < 0 ∨ (s.M : Int) ≤ y then 2 else 0 := rfl
  repeat' (first | refine st ?_ | refine And.intro ?_ ?_ | (intro e; subst e) | intro _)
  refine tc_lp (ι := {k : Nat // k ≤ 2}) [15] (fun e k => (15, .int .i64 k.1) :: e) (fun k => _) (fun k => 2 - k.1) ⟨0, by omega⟩ ?_ (hl := Ent.refl _)
  rintro K ⟨k, hk⟩ hK
  dsimp only
  obtain rfl | rfl | rfl : k = 0 ∨ k = 1 ∨ k = 2 := by omega
  · repeat' (first | refine st ?_ | refine And.intro ?_ ?_ | (intro e; subst e) | intro _)
    exact again hK ⟨1, by omega⟩
  · repeat' (first | refine st ?_ | refine And.intro ?_ ?_ | (intro e; subst e) | intro _)
    exact again hK ⟨2, by omega⟩
  · clear hK
    (repeat refine st ?_)
    refine TL.ent (LinksAt.shut.trans (FieldAt.shut r)) ?_
    (repeat refine st ?_)
    intro a cp
    simp only [listOf_nat]
    repeat' (first | refine st ?_ | refine And.intro ?_ ?_ | (intro e; subst e) | intro _)
    refine tc_lp (ι := {i : Nat // i ≤ (f.at x).length}) [32] (fun e i => (32, .int .i64 i.1) :: e) (fun i => [FieldAt p (joinG f x y i.1), Vec 28 1 a (f.at x).length cp (u32s (f.at x)), F]) (fun i => (f.at x).length - i.1) ⟨0, by omega⟩ ?_ (hl := by rw [joinG_zero hx hy]; (try simp only [List.cons_append, List.nil_append]); (repeat (first | (with_reducible exact Ent.refl _) | (with_reducible exact Ent.nil _) | (apply Ent.fact; (focus (first | assumption | omega | decide | exact rfl | fail))) | (apply Ent.keep; (focus ((repeat (first | (with_reducible exact Rem.here _ _) | (with_reducible apply Rem.there) | fail)); done)); (focus (infer_instance))) | (apply Ent.cons; (focus ((repeat (first | (with_reducible exact Rem.here _ _) | (with_reducible apply Rem.there) | fail)); done))) | exact Ent.refl _ | exact Ent.nil _ | apply Ent.vecNil | apply Ent.roNil | fail)); done)
    rintro K ⟨i, hi⟩ hK
    dsimp only
    refine TC.know (fun _ z => FieldAt.wf (Rem.here _ _) z) fun wg => ?_
    have hge : ∀ h : i < (f.at x).length, (f.at x).getD i 0 = (f.at x)[i] := fun h => by rw [List.getD_eq_getElem?_getD, List.getElem?_eq_getElem h]; rfl
    have hn : i < (f.at x).length → (f.at x).getD i 0 < 4194304 := fun h => by rw [hge h]; have := w.lt hx (List.getElem_mem h); omega
    repeat' (first | refine st ?_ | refine And.intro ?_ ?_ | (intro e; subst e) | intro _)
    · have hlt : i < (f.at x).length := by omega
      rw [hge hlt, joinG_step wg hx hy hne hlt]
      exact again hK ⟨i + 1, by omega⟩
    · obtain rfl : i = (f.at x).length := by omega
      rw [joinG_end]
      exact rt1 () rfl
instance fJoin : Known Try.prog 55 (∀ (p : Nat) (f : Fld) (x y : Int), SpecH Try.prog 55 #[.pointer (some ⟨p, 0, none⟩), .int .i64 x, .int .i64 y] [FieldAt p f] (fun _ : Unit => .int .i64 (f.joinE x y)) (fun _ => [FieldAt p (f.joinF x y)])) := ⟨fun p f x y => by
  by_cases hb : ¬ (0 ≤ x ∧ x < f.L.length) ∨ ¬ (0 ≤ y ∧ y < f.L.length) ∨ x = y
  · have e : f.joinE x y = 2 := by unfold Fld.joinE Fld.head; simp only [decide_eq_false_iff_not]; rw [if_pos hb]
    have e2 : f.joinF x y = f := by unfold Fld.joinF; rw [if_neg (by omega)]
    rw [e, e2]
    exact join_bad p f x y hb
  · have e : f.joinE x y = 0 := by unfold Fld.joinE Fld.head; simp only [decide_eq_false_iff_not]; rw [if_neg hb]
    obtain ⟨a, rfl⟩ : ∃ a : Nat, x = a := ⟨x.toNat, by omega⟩
    obtain ⟨b, rfl⟩ : ∃ b : Nat, y = b := ⟨y.toNat, by omega⟩
    have e2 : f.joinF a b = (f.set b (f.at b ++ f.at a)).set a [] := by unfold Fld.joinF; rw [if_pos e]; simp only [Int.toNat_natCast]
    rw [e, e2]
    exact join_good p f a b (by omega) (by omega) (by omega)⟩
end Go.Proofs.Ytmiblmoppdgnjaa

/- links, walked: other numbers. -/
namespace Go.Proofs.Ytmiblmoppdgnjaa
open Go.Sl Go.Lk
attribute [local irreducible] TK TL TC Th Bk Nx fnPost WA TQ OpQ OpN SpecH Rd Ent IterH RoundH Rb Rp fnPostM
theorem listOf_nat' (f : Fld) (k : Nat) : f.listOf k = f.at k := by unfold Fld.listOf; rw [if_pos (by omega), Int.toNat_natCast]
end Go.Proofs.Ytmiblmoppdgnjaa
