/- links, walked: a field that is nil, or zero. -/
import Derived.Test.YtgmccdicncocdaaLkL2
import Derived.Test.YtgmccdicncocdaaSlFrame
namespace Go.Proofs.Ytgmccdicncocdaa
open Go.Sl Go.Lk
/-- A field that is nil, or zero. -/
def ZL (v : Value) : HP := fun h => (v = .pointer none ∧ h = fun _ => none) ∨ ∃ (p : Nat) (T : TypeId), v = .pointer (some ⟨p, 0, none⟩) ∧ cobj p T [.slice none 0 0, .int .i64 0, .slice none 0 0] h
instance (v : Value) : Pers (ZL v) := ⟨by
  rintro h (⟨_, rfl⟩ | ⟨p, T, _, hc⟩) k x hk
  · cases hk
  · exact (inferInstance : Pers (cobj p T [.slice none 0 0, .int .i64 0, .slice none 0 0])).out h hc k x hk⟩
section
variable {r0 : Option Nat} {P : Program} {base : World} {n : Nat} {ds : List Deferred} {Q : Exit → Act → World → Prop} {env : Env} {l r : List HP} {K : Act → World → Prop} {c : Code} {v : Value}
theorem ZL.caseK (hr : Rem l (ZL v) r) (h1 : v = .pointer none → TK base n ds K env l) (h2 : ∀ (p : Nat) (T : TypeId), v = .pointer (some ⟨p, 0, none⟩) → TK base n ds K env (cobj p T [.slice none 0 0, .int .i64 0, .slice none 0 0] :: l)) : TK base n ds K env l := fun a w ha hw => by
  obtain ⟨hh, hf, hl⟩ := hw.heap
  obtain ⟨x, y, hd, e, hx, hy⟩ := hr.keep hl
  rcases hx with ⟨e1, e2⟩ | ⟨p, T, e1, e2⟩
  · exact h1 e1 a w ha hw
  · exact h2 p T e1 a w ha ⟨hw.os, hw.tape, hw.output, hh, hf, x, y, hd, e, e2, hy⟩
theorem tc_zl (hr : Rem l (ZL v) r) (h1 : v = .pointer none → TC r0 P base n ds c Q env l) (h2 : ∀ (p : Nat) (T : TypeId), v = .pointer (some ⟨p, 0, none⟩) → TC r0 P base n ds c Q env (cobj p T [.slice none 0 0, .int .i64 0, .slice none 0 0] :: l)) : TC r0 P base n ds c Q env l := by unfold TC at *; exact ZL.caseK hr h1 h2
theorem tc_zlNil (h : TC r0 P base n ds c Q env (ZL (.pointer none) :: l)) : TC r0 P base n ds c Q env l := by
  unfold TC at *
  exact TK.ent (l' := ZL (.pointer none) :: l) (fun x y => ⟨fun _ => none, x, fun _ => .inl rfl, by funext k; rfl, .inl ⟨rfl, rfl⟩, y⟩) h
theorem tc_zlMk {p : Nat} {T : TypeId} (h : TC r0 P base n ds c Q env (ZL (.pointer (some ⟨p, 0, none⟩)) :: r)) (hr : Rem l (obj p T [.slice none 0 0, .int .i64 0, .slice none 0 0]) r := by (repeat (first | (with_reducible exact Rem.here _ _) | (with_reducible apply Rem.there) | fail)); done) : TC r0 P base n ds c Q env l := by
  unfold TC at *
  refine TK.share hr ?_
  exact TK.ent (l' := ZL (.pointer (some ⟨p, 0, none⟩)) :: r) (fun x y => lst_cons_mono (fun _ z => .inr ⟨p, T, rfl, z⟩) (fun _ z => z) y) h
end
attribute [local irreducible] TK TL TC Th Bk Nx fnPost WA TQ OpQ OpN SpecH Rd Ent IterH RoundH Rb Rp fnPostM
instance (priority := high + 5) zNone : Known Try.prog 46 (∀ (v : Value), SpecH Try.prog 46 #[v] [ZL v] (fun _ : Unit => .bool true) (fun _ => [])) := ⟨fun v => by
  refine spec_of Try.func46 rfl Try.ntmps46 rfl [(0, _)] rfl ?_; intro base F l0 hl0; (try simp only [List.cons_append] at hl0); (try simp only [List.nil_append] at hl0); subst hl0
  refine tc_zl (by (repeat (first | (with_reducible exact Rem.here _ _) | (with_reducible apply Rem.there) | fail)); done) (fun e => ?_) (fun p T e => ?_)
  all_goals (subst e)
  all_goals (repeat' (first | refine st ?_ | refine And.intro ?_ ?_ | (intro e; exfalso; omega) | (intro e; subst e) | intro _))
  all_goals exact rt1 () rfl⟩
instance (priority := high + 5) zList : Known Try.prog 47 (∀ (v : Value) (h : Int), SpecH Try.prog 47 #[v, .int .i64 h] [ZL v] (fun _ : Unit => .int .i64 1) (fun _ => [])) := ⟨fun v h => by
  refine spec_of Try.func47 rfl Try.ntmps47 rfl [(0, _), (1, _)] rfl ?_; intro base F l0 hl0; (try simp only [List.cons_append] at hl0); (try simp only [List.nil_append] at hl0); subst hl0
  repeat' (first | refine st ?_ | refine And.intro ?_ ?_ | (intro e; exfalso; omega) | (intro e; subst e) | intro _)
  all_goals exact rt1 () rfl⟩
instance (priority := high + 5) zNode : Known Try.prog 49 (∀ (v : Value) (h : Int), SpecH Try.prog 49 #[v, .int .u32 h] [ZL v] (fun _ : Unit => .int .i64 1) (fun _ => [])) := ⟨fun v h => by
  refine spec_of Try.func49 rfl Try.ntmps49 rfl [(0, _), (1, _)] rfl ?_; intro base F l0 hl0; (try simp only [List.cons_append] at hl0); (try simp only [List.nil_append] at hl0); subst hl0
  repeat' (first | refine st ?_ | refine And.intro ?_ ?_ | (intro e; exfalso; omega) | (intro e; subst e) | intro _)
  all_goals exact rt1 () rfl⟩
instance (priority := high + 5) zIn : Known Try.prog 45 (∀ (v : Value) (h : Int), SpecH Try.prog 45 #[v, .int .u32 h] [ZL v] (fun _ : Unit => .int .i64 1) (fun _ => [])) := ⟨fun v h => by
  refine spec_of Try.func45 rfl Try.ntmps45 rfl [(0, _), (1, _)] rfl ?_; intro base F l0 hl0; (try simp only [List.cons_append] at hl0); (try simp only [List.nil_append] at hl0); subst hl0
  repeat' (first | refine st ?_ | refine And.intro ?_ ?_ | (intro e; exfalso; omega) | (intro e; subst e) | intro _)
  all_goals exact rt1 () rfl⟩
instance (priority := high + 5) zFirst : Known Try.prog 19 (∀ (v : Value) (h : Int), SpecH Try.prog 19 #[v, .int .i64 h] [ZL v] (fun _ : Unit => .tuple #[.int .u32 0, .int .i64 1]) (fun _ => [])) := ⟨fun v h => by
  refine spec_of Try.func19 rfl Try.ntmps19 rfl [(0, _), (1, _)] rfl ?_; intro base F l0 hl0; (try simp only [List.cons_append] at hl0); (try simp only [List.nil_append] at hl0); subst hl0
  repeat' (first | refine st ?_ | refine And.intro ?_ ?_ | (intro e; exfalso; omega) | (intro e; subst e) | intro _)
  all_goals exact rt2 () rfl⟩
instance (priority := high + 5) zLast : Known Try.prog 33 (∀ (v : Value) (h : Int), SpecH Try.prog 33 #[v, .int .i64 h] [ZL v] (fun _ : Unit => .tuple #[.int .u32 0, .int .i64 1]) (fun _ => [])) := ⟨fun v h => by
  refine spec_of Try.func33 rfl Try.ntmps33 rfl [(0, _), (1, _)] rfl ?_; intro base F l0 hl0; (try simp only [List.cons_append] at hl0); (try simp only [List.nil_append] at hl0); subst hl0
  repeat' (first | refine st ?_ | refine And.intro ?_ ?_ | (intro e; exfalso; omega) | (intro e; subst e) | intro _)
  all_goals exact rt2 () rfl⟩
instance (priority := high + 5) zNext : Known Try.prog 20 (∀ (v : Value) (h : Int), SpecH Try.prog 20 #[v, .int .u32 h] [ZL v] (fun _ : Unit => .tuple #[.int .u32 0, .int .i64 1]) (fun _ => [])) := ⟨fun v h => by
  refine spec_of Try.func20 rfl Try.ntmps20 rfl [(0, _), (1, _)] rfl ?_; intro base F l0 hl0; (try simp only [List.cons_append] at hl0); (try simp only [List.nil_append] at hl0); subst hl0
  repeat' (first | refine st ?_ | refine And.intro ?_ ?_ | (intro e; exfalso; omega) | (intro e; subst e) | intro _)
  all_goals exact rt2 () rfl⟩
instance (priority := high + 5) zPrev : Known Try.prog 34 (∀ (v : Value) (h : Int), SpecH Try.prog 34 #[v, .int .u32 h] [ZL v] (fun _ : Unit => .tuple #[.int .u32 0, .int .i64 1]) (fun _ => [])) := ⟨fun v h => by
  refine spec_of Try.func34 rfl Try.ntmps34 rfl [(0, _), (1, _)] rfl ?_; intro base F l0 hl0; (try simp only [List.cons_append] at hl0); (try simp only [List.nil_append] at hl0); subst hl0
  repeat' (first | refine st ?_ | refine And.intro ?_ ?_ | (intro e; exfalso; omega) | (intro e; subst e) | intro _)
  all_goals exact rt2 () rfl⟩
instance (priority := high + 5) zOf : Known Try.prog 35 (∀ (v : Value) (h : Int), SpecH Try.prog 35 #[v, .int .u32 h] [ZL v] (fun _ : Unit => .tuple #[.int .i64 0, .int .i64 1]) (fun _ => [])) := ⟨fun v h => by
  refine spec_of Try.func35 rfl Try.ntmps35 rfl [(0, _), (1, _)] rfl ?_; intro base F l0 hl0; (try simp only [List.cons_append] at hl0); (try simp only [List.nil_append] at hl0); subst hl0
  repeat' (first | refine st ?_ | refine And.intro ?_ ?_ | (intro e; exfalso; omega) | (intro e; subst e) | intro _)
  all_goals exact rt2 () rfl⟩
instance (priority := high + 5) zAdd : Known Try.prog 42 (∀ (v : Value) (h k : Int) (b : Bool), SpecH Try.prog 42 #[v, .int .i64 h, .int .u32 k, .bool b] [ZL v] (fun _ : Unit => .int .i64 1) (fun _ => [])) := ⟨fun v h k b => by
  refine spec_of Try.func42 rfl Try.ntmps42 rfl [(0, _), (1, _), (2, _), (3, _)] rfl ?_; intro base F l0 hl0; (try simp only [List.cons_append] at hl0); (try simp only [List.nil_append] at hl0); subst hl0
  repeat' (first | refine st ?_ | refine And.intro ?_ ?_ | (intro e; exfalso; omega) | (intro e; subst e) | intro _)
  all_goals exact rt1 () rfl⟩
instance (priority := high + 5) zFront : Known Try.prog 16 (∀ (v : Value) (h k : Int), SpecH Try.prog 16 #[v, .int .i64 h, .int .u32 k] [ZL v] (fun _ : Unit => .int .i64 1) (fun _ => [])) := ⟨fun v h k => by
  refine spec_of Try.func16 rfl Try.ntmps16 rfl [(0, _), (1, _), (2, _)] rfl ?_; intro base F l0 hl0; (try simp only [List.cons_append] at hl0); (try simp only [List.nil_append] at hl0); subst hl0
  repeat' (first | refine st ?_ | refine And.intro ?_ ?_ | (intro e; exfalso; omega) | (intro e; subst e) | intro _)
  all_goals exact rt1 () rfl⟩
instance (priority := high + 5) zBack : Known Try.prog 13 (∀ (v : Value) (h k : Int), SpecH Try.prog 13 #[v, .int .i64 h, .int .u32 k] [ZL v] (fun _ : Unit => .int .i64 1) (fun _ => [])) := ⟨fun v h k => by
  refine spec_of Try.func13 rfl Try.ntmps13 rfl [(0, _), (1, _), (2, _)] rfl ?_; intro base F l0 hl0; (try simp only [List.cons_append] at hl0); (try simp only [List.nil_append] at hl0); subst hl0
  repeat' (first | refine st ?_ | refine And.intro ?_ ?_ | (intro e; exfalso; omega) | (intro e; subst e) | intro _)
  all_goals exact rt1 () rfl⟩
instance (priority := high + 5) zBefore : Known Try.prog 23 (∀ (v : Value) (h k : Int), SpecH Try.prog 23 #[v, .int .u32 h, .int .u32 k] [ZL v] (fun _ : Unit => .int .i64 1) (fun _ => [])) := ⟨fun v h k => by
  refine spec_of Try.func23 rfl Try.ntmps23 rfl [(0, _), (1, _), (2, _)] rfl ?_; intro base F l0 hl0; (try simp only [List.cons_append] at hl0); (try simp only [List.nil_append] at hl0); subst hl0
  repeat' (first | refine st ?_ | refine And.intro ?_ ?_ | (intro e; exfalso; omega) | (intro e; subst e) | intro _)
  all_goals exact rt1 () rfl⟩
instance (priority := high + 5) zRemove : Known Try.prog 15 (∀ (v : Value) (k : Int), SpecH Try.prog 15 #[v, .int .u32 k] [ZL v] (fun _ : Unit => .int .i64 1) (fun _ => [])) := ⟨fun v k => by
  refine spec_of Try.func15 rfl Try.ntmps15 rfl [(0, _), (1, _)] rfl ?_; intro base F l0 hl0; (try simp only [List.cons_append] at hl0); (try simp only [List.nil_append] at hl0); subst hl0
  repeat' (first | refine st ?_ | refine And.intro ?_ ?_ | (intro e; exfalso; omega) | (intro e; subst e) | intro _)
  all_goals exact rt1 () rfl⟩
instance (priority := high + 5) zLen : Known Try.prog 22 (∀ (v : Value) (h : Int), SpecH Try.prog 22 #[v, .int .i64 h] [ZL v] (fun _ : Unit => .int .i64 0) (fun _ => [])) := ⟨fun v h => by
  refine spec_of Try.func22 rfl Try.ntmps22 rfl [(0, _), (1, _)] rfl ?_; intro base F l0 hl0; (try simp only [List.cons_append] at hl0); (try simp only [List.nil_append] at hl0); subst hl0
  repeat' (first | refine st ?_ | refine And.intro ?_ ?_ | (intro e; exfalso; omega) | (intro e; subst e) | intro _)
  all_goals exact rt1 () rfl⟩
instance (priority := high + 5) zNodes : Known Try.prog 17 (∀ (v : Value), SpecH Try.prog 17 #[v] [ZL v] (fun _ : Unit => .int .i64 0) (fun _ => [])) := ⟨fun v => by
  refine spec_of Try.func17 rfl Try.ntmps17 rfl [(0, _)] rfl ?_; intro base F l0 hl0; (try simp only [List.cons_append] at hl0); (try simp only [List.nil_append] at hl0); subst hl0
  repeat' (first | refine st ?_ | refine And.intro ?_ ?_ | (intro e; exfalso; omega) | (intro e; subst e) | intro _)
  all_goals exact rt1 () rfl⟩
instance (priority := high + 5) zHeads : Known Try.prog 18 (∀ (v : Value), SpecH Try.prog 18 #[v] [ZL v] (fun _ : Unit => .int .i64 0) (fun _ => [])) := ⟨fun v => by
  refine spec_of Try.func18 rfl Try.ntmps18 rfl [(0, _)] rfl ?_; intro base F l0 hl0; (try simp only [List.cons_append] at hl0); (try simp only [List.nil_append] at hl0); subst hl0
  repeat' (first | refine st ?_ | refine And.intro ?_ ?_ | (intro e; exfalso; omega) | (intro e; subst e) | intro _)
  all_goals exact rt1 () rfl⟩
instance (priority := high + 5) zCopy : Known Try.prog 26 (∀ (v : Value), SpecH Try.prog 26 #[v] [ZL v] (fun _ : Unit => .pointer none) (fun _ => [])) := ⟨fun v => by
  refine spec_of Try.func26 rfl Try.ntmps26 rfl [(0, _)] rfl ?_; intro base F l0 hl0; (try simp only [List.cons_append] at hl0); (try simp only [List.nil_append] at hl0); subst hl0
  repeat' (first | refine st ?_ | refine And.intro ?_ ?_ | (intro e; exfalso; omega) | (intro e; subst e) | intro _)
  all_goals exact rt1 () rfl⟩
instance (priority := high + 5) zRenumber : Known Try.prog 27 (∀ (v t : Value) (k : Int), SpecH Try.prog 27 #[v, t, .int .i64 k] [ZL v] (fun _ : Unit => .int .i64 1) (fun _ => [])) := ⟨fun v t k => by
  refine spec_of Try.func27 rfl Try.ntmps27 rfl [(0, _), (1, _), (2, _)] rfl ?_; intro base F l0 hl0; (try simp only [List.cons_append] at hl0); (try simp only [List.nil_append] at hl0); subst hl0
  repeat' (first | refine st ?_ | refine And.intro ?_ ?_ | (intro e; exfalso; omega) | (intro e; subst e) | intro _)
  all_goals exact rt1 () rfl⟩
instance (priority := high + 5) zJoin : Known Try.prog 24 (∀ (v : Value) (h k : Int), SpecH Try.prog 24 #[v, .int .i64 h, .int .i64 k] [ZL v] (fun _ : Unit => .int .i64 1) (fun _ => [])) := ⟨fun v h k => by
  refine spec_of Try.func24 rfl Try.ntmps24 rfl [(0, _), (1, _), (2, _)] rfl ?_; intro base F l0 hl0; (try simp only [List.cons_append] at hl0); (try simp only [List.nil_append] at hl0); subst hl0
  repeat' (first | refine st ?_ | refine And.intro ?_ ?_ | (intro e; exfalso; omega) | (intro e; subst e) | intro _)
  refine tc_lp (ι := Unit) [15] (fun e _ => (15, .int .i64 (0 : Nat)) :: e) (fun _ => [ZL v, F]) (fun _ => 0) () ?_
  rintro K _ hK
  repeat' (first | refine st ?_ | refine And.intro ?_ ?_ | (intro e; exfalso; omega) | (intro e; subst e) | intro _)
  all_goals exact rt1 () rfl⟩
instance (priority := high + 5) zall : Known Try.prog 43 (∀ (v : Value) (h : Int), SpecH Try.prog 43 #[v, .int .i64 h] [ZL v] (fun _ : Unit => .slice none 0 0) (fun _ => [RoS 1 none 0 0 []])) := ⟨fun v h => by
  refine spec_of Try.func43 rfl Try.ntmps43 rfl [(0, _), (1, _)] rfl ?_; intro base F l0 hl0; (try simp only [List.cons_append] at hl0); (try simp only [List.nil_append] at hl0); subst hl0
  repeat' (first | refine st ?_ | refine And.intro ?_ ?_ | (intro e; exfalso; omega) | (intro e; subst e) | intro _)
  all_goals exact rt1 () rfl⟩
instance (priority := high + 5) zAll : Known Try.prog 14 (∀ (v : Value) (h : Int), SpecH Try.prog 14 #[v, .int .i64 h] [ZL v] (fun c : Nat => .func (.func 44) #[] #[.pointer (some ⟨c, 0, none⟩)]) (fun c => [SeqC c []])) := ⟨fun v h => by
  refine spec_of Try.func14 rfl Try.ntmps14 rfl [(0, _), (1, _)] rfl ?_; intro base F l0 hl0; (try simp only [List.cons_append] at hl0); (try simp only [List.nil_append] at hl0); subst hl0
  repeat' (first | refine st ?_ | refine And.intro ?_ ?_ | (intro e; exfalso; omega) | (intro e; subst e) | intro _)
  rename_i a1 c1 b
  refine frz a1 ?_
  refine shr b ?_
  refine rt1 b rfl ?_
  unfold SeqC
  refine Ent.trans (b := cobj b 22 [.slice a1 0 c1] :: RoS 1 a1 0 c1 [] :: [F]) en ?_
  refine Ent.exs (a1, c1) ?_
  exact Ent.cons (.here _ _) (Ent.cons (.here _ _) (Ent.fact (by decide) en))⟩
instance (priority := high + 5) zCollect : Known Try.prog 29 (∀ (v : Value) (h : Int), SpecH Try.prog 29 #[v, .int .i64 h] [ZL v] (fun _ : Unit => .slice none 0 0) (fun _ => [])) := ⟨fun v h => by
  refine spec_of_m Try.func29 rfl Try.ntmps29 rfl [(0, _), (1, _)] rfl ?_; intro base F l0 hl0; (try simp only [List.cons_append] at hl0); (try simp only [List.nil_append] at hl0); subst hl0
  repeat' (first | refine st ?_ | refine And.intro ?_ ?_ | (intro e; subst e) | intro _)
  rename_i bo c
  refine tc_rangeFunc (xs := u32a []) (own := [SeqC c []]) (R := [F]) (fun _ => obj bo 22 [.slice none 0 0]) (fun _ _ => fact False) (seq_iter c []) rfl (by decide) (by intro a ha; cases ha) ?_ ?_ ?_ ?_
  · exact en
  · intro lp rec i a hst hpe ha
    simp [u32a] at ha
  · intro rb
    simp only [List.cons_append, List.nil_append]
    repeat' (first | refine st ?_ | refine And.intro ?_ ?_ | (intro e; subst e) | intro _)
    exact rm1 () rfl
  · intro rb i c
    exact tc_factF⟩
end Go.Proofs.Ytgmccdicncocdaa
