/- lru, walked: a list that is nil, or zero. -/
import Derived.Test.YtbdiabakcgafgaaLrL2
import Derived.Test.YtbdiabakcgafgaaSlD
namespace Go.Proofs.Ytbdiabakcgafgaa
open Go.Lk Go.Sl Go.Lr
/-- Nil, or zero. -/
def ZR (v : Value) : HP := fun h => (v = .pointer none ∧ h = fun _ => none) ∨ ∃ (p : Nat) (T : TypeId), v = .pointer (some ⟨p, 0, none⟩) ∧ cobj p T [.pointer none] h
instance (v : Value) : Pers (ZR v) := ⟨by
  rintro h (⟨_, rfl⟩ | ⟨p, T, _, hc⟩) k x hk
  · cases hk
  · exact (inferInstance : Pers (cobj p T [.pointer none])).out h hc k x hk⟩
section
variable {r0 : Option Nat} {P : Program} {base : World} {n : Nat} {ds : List Deferred} {Q : Exit → Act → World → Prop} {env : Env} {l r : List HP} {K : Act → World → Prop} {c : Code} {v : Value}
theorem ZR.caseK (hr : Rem l (ZR v) r) (h1 : v = .pointer none → TK base n ds K env l) (h2 : ∀ (p : Nat) (T : TypeId), v = .pointer (some ⟨p, 0, none⟩) → TK base n ds K env (cobj p T [.pointer none] :: l)) : TK base n ds K env l := fun a w ha hw => by
  obtain ⟨hh, hf, hl⟩ := hw.heap
  obtain ⟨x, y, hd, e, hx, hy⟩ := hr.keep hl
  rcases hx with ⟨e1, e2⟩ | ⟨p, T, e1, e2⟩
  · exact h1 e1 a w ha hw
  · exact h2 p T e1 a w ha ⟨hw.os, hw.tape, hw.output, hh, hf, x, y, hd, e, e2, hy⟩
theorem ZR.case (hr : Rem l (ZR v) r) (h1 : v = .pointer none → TC r0 P base n ds c Q env l) (h2 : ∀ (p : Nat) (T : TypeId), v = .pointer (some ⟨p, 0, none⟩) → TC r0 P base n ds c Q env (cobj p T [.pointer none] :: l)) : TC r0 P base n ds c Q env l := by unfold TC at *; exact ZR.caseK hr h1 h2
theorem ZR.mkNil (h : TC r0 P base n ds c Q env (ZR (.pointer none) :: l)) : TC r0 P base n ds c Q env l := by
  unfold TC at *
  exact TK.ent (l' := ZR (.pointer none) :: l) (fun x y => ⟨fun _ => none, x, fun _ => .inl rfl, by funext k; rfl, .inl ⟨rfl, rfl⟩, y⟩) h
theorem ZR.mk {p : Nat} {T : TypeId} (h : TC r0 P base n ds c Q env (ZR (.pointer (some ⟨p, 0, none⟩)) :: r)) (hr : Rem l (obj p T [.pointer none]) r := by (repeat (first | (with_reducible exact Rem.here _ _) | (with_reducible apply Rem.there) | fail)); done) : TC r0 P base n ds c Q env l := by
  unfold TC at *
  refine TK.share hr ?_
  exact TK.ent (l' := ZR (.pointer (some ⟨p, 0, none⟩)) :: r) (fun x y => lst_cons_mono (fun _ z => .inr ⟨p, T, rfl, z⟩) (fun _ z => z) y) h
end
theorem tc_zrTwo {r0 : Option Nat} {P : Program} {base : World} {n : Nat} {ds : List Deferred} {Q : Exit → Act → World → Prop} {env : Env} {l r : List HP} {c : Code} {p i : Nat} (hc : i < 2) (h : TC r0 P base n ds c Q env (ZR (two (.pointer none) (.pointer (some ⟨p, 0, none⟩)) i) :: l)) (hr : Rem l (ZR (.pointer (some ⟨p, 0, none⟩))) r := by (repeat (first | (with_reducible exact Rem.here _ _) | (with_reducible apply Rem.there) | fail)); done) : TC r0 P base n ds c Q env l := by
  match i, hc with
  | 0, _ => exact ZR.mkNil h
  | 1, _ =>
    unfold TC at *
    exact TK.ent (l' := ZR (two (.pointer none) (.pointer (some ⟨p, 0, none⟩)) 1) :: l) (fun x y => hr.keep y) h
attribute [local irreducible] TK TL TC Th Bk Nx fnPost WA TQ OpQ OpN SpecH Rd Ent IterH RoundH Rb Rp fnPostM
instance (priority := high + 5) zr_check : Known Try.prog 71 (∀ (v : Value) (k : Int), SpecH Try.prog 71 #[v, .int .u32 k] [ZR v] (fun _ : Unit => .int .i64 1) (fun _ => [])) := ⟨fun v k => by
  refine spec_of Try.func71 rfl Try.ntmps71 rfl [(0, _), (1, _)] rfl ?_; intro base F l0 hl0; (try simp only [List.cons_append] at hl0); (try simp only [List.nil_append] at hl0); subst hl0
  refine ZR.case (by (repeat (first | (with_reducible exact Rem.here _ _) | (with_reducible apply Rem.there) | fail)); done) (fun e => ?_) (fun p T e => ?_)
  all_goals (subst e)
  all_goals (repeat' (first | refine stx ?_ | refine And.intro ?_ ?_ | (intro e; exfalso; omega) | (intro e; subst e) | intro _))
  all_goals exact rt1 () rfl⟩
instance (priority := high + 5) zr_add : Known Try.prog 33 (∀ (v : Value) (k : Int), SpecH Try.prog 33 #[v, .int .u32 k] [ZR v] (fun _ : Unit => .int .i64 1) (fun _ => [])) := ⟨fun v k => by
  refine spec_of Try.func33 rfl Try.ntmps33 rfl [(0, _), (1, _)] rfl ?_; intro base F l0 hl0; (try simp only [List.cons_append] at hl0); (try simp only [List.nil_append] at hl0); subst hl0
  repeat' (first | refine stx ?_ | refine And.intro ?_ ?_ | (intro e; exfalso; omega) | (intro e; subst e) | intro _)
  exact rt1 () rfl⟩
instance (priority := high + 5) zr_remove : Known Try.prog 36 (∀ (v : Value) (k : Int), SpecH Try.prog 36 #[v, .int .u32 k] [ZR v] (fun _ : Unit => .int .i64 1) (fun _ => [])) := ⟨fun v k => by
  refine spec_of Try.func36 rfl Try.ntmps36 rfl [(0, _), (1, _)] rfl ?_; intro base F l0 hl0; (try simp only [List.cons_append] at hl0); (try simp only [List.nil_append] at hl0); subst hl0
  repeat' (first | refine stx ?_ | refine And.intro ?_ ?_ | (intro e; exfalso; omega) | (intro e; subst e) | intro _)
  exact rt1 () rfl⟩
instance (priority := high + 5) zr_use : Known Try.prog 35 (∀ (v : Value) (k : Int), SpecH Try.prog 35 #[v, .int .u32 k] [ZR v] (fun _ : Unit => .int .i64 1) (fun _ => [])) := ⟨fun v k => by
  refine spec_of Try.func35 rfl Try.ntmps35 rfl [(0, _), (1, _)] rfl ?_; intro base F l0 hl0; (try simp only [List.cons_append] at hl0); (try simp only [List.nil_append] at hl0); subst hl0
  repeat' (first | refine stx ?_ | refine And.intro ?_ ?_ | (intro e; exfalso; omega) | (intro e; subst e) | intro _)
  exact rt1 () rfl⟩
instance (priority := high + 5) zr_has : Known Try.prog 44 (∀ (v : Value) (k : Int), SpecH Try.prog 44 #[v, .int .u32 k] [ZR v] (fun _ : Unit => .bool false) (fun _ => [])) := ⟨fun v k => by
  refine spec_of Try.func44 rfl Try.ntmps44 rfl [(0, _), (1, _)] rfl ?_; intro base F l0 hl0; (try simp only [List.cons_append] at hl0); (try simp only [List.nil_append] at hl0); subst hl0
  repeat' (first | refine stx ?_ | refine And.intro ?_ ?_ | (intro e; exfalso; omega) | (intro e; subst e) | intro _)
  exact rt1 () rfl⟩
instance (priority := high + 5) zr_end : Known Try.prog 95 (∀ (v w : Value), SpecH Try.prog 95 #[v, w] [ZR v] (fun _ : Unit => .tuple #[.int .u32 0, .int .i64 1]) (fun _ => [])) := ⟨fun v w => by
  refine spec_of Try.func95 rfl Try.ntmps95 rfl [(0, _), (1, _)] rfl ?_; intro base F l0 hl0; (try simp only [List.cons_append] at hl0); (try simp only [List.nil_append] at hl0); subst hl0
  repeat' (first | refine stx ?_ | refine And.intro ?_ ?_ | (intro e; exfalso; omega) | (intro e; subst e) | intro _)
  exact rt2 () rfl⟩
instance (priority := high + 5) zr_oldest : Known Try.prog 75 (∀ (v : Value), SpecH Try.prog 75 #[v] [ZR v] (fun _ : Unit => .tuple #[.int .u32 0, .int .i64 1]) (fun _ => [])) := ⟨fun v => by
  refine spec_of Try.func75 rfl Try.ntmps75 rfl [(0, _)] rfl ?_; intro base F l0 hl0; (try simp only [List.cons_append] at hl0); (try simp only [List.nil_append] at hl0); subst hl0
  repeat' (first | refine stx ?_ | refine And.intro ?_ ?_ | (intro e; exfalso; omega) | (intro e; subst e) | intro _)
  exact rt2 () rfl⟩
instance (priority := high + 5) zr_newest : Known Try.prog 79 (∀ (v : Value), SpecH Try.prog 79 #[v] [ZR v] (fun _ : Unit => .tuple #[.int .u32 0, .int .i64 1]) (fun _ => [])) := ⟨fun v => by
  refine spec_of Try.func79 rfl Try.ntmps79 rfl [(0, _)] rfl ?_; intro base F l0 hl0; (try simp only [List.cons_append] at hl0); (try simp only [List.nil_append] at hl0); subst hl0
  repeat' (first | refine stx ?_ | refine And.intro ?_ ?_ | (intro e; exfalso; omega) | (intro e; subst e) | intro _)
  exact rt2 () rfl⟩
instance (priority := high + 5) zr_ends : Known Try.prog 47 (∀ (v : Value), SpecH Try.prog 47 #[v, .int .u32 0, .int .u32 0, .int .i64 1] [ZR v] (fun _ : Unit => .bool true) (fun _ => [])) := ⟨fun v => by
  refine spec_of Try.func47 rfl Try.ntmps47 rfl [(0, _), (1, _), (2, _), (3, _)] rfl ?_; intro base F l0 hl0; (try simp only [List.cons_append] at hl0); (try simp only [List.nil_append] at hl0); subst hl0
  repeat' (first | refine stx ?_ | refine And.intro ?_ ?_ | (intro e; exfalso; omega) | (intro e; subst e) | intro _)
  exact rt1 () rfl⟩
instance (priority := high + 5) zr_len : Known Try.prog 48 (∀ (v : Value), SpecH Try.prog 48 #[v] [ZR v] (fun _ : Unit => .int .i64 0) (fun _ => [])) := ⟨fun v => by
  refine spec_of Try.func48 rfl Try.ntmps48 rfl [(0, _)] rfl ?_; intro base F l0 hl0; (try simp only [List.cons_append] at hl0); (try simp only [List.nil_append] at hl0); subst hl0
  repeat' (first | refine stx ?_ | refine And.intro ?_ ?_ | (intro e; exfalso; omega) | (intro e; subst e) | intro _)
  exact rt1 () rfl⟩
instance (priority := high + 5) zr_copy : Known Try.prog 50 (∀ (v : Value), SpecH Try.prog 50 #[v] [ZR v] (fun _ : Unit => .pointer none) (fun _ => [])) := ⟨fun v => by
  refine spec_of Try.func50 rfl Try.ntmps50 rfl [(0, _)] rfl ?_; intro base F l0 hl0; (try simp only [List.cons_append] at hl0); (try simp only [List.nil_append] at hl0); subst hl0
  repeat' (first | refine stx ?_ | refine And.intro ?_ ?_ | (intro e; exfalso; omega) | (intro e; subst e) | intro _)
  exact rt1 () rfl⟩
instance (priority := high + 5) zr_renumber : Known Try.prog 49 (∀ (v : Value), SpecH Try.prog 49 #[v, .slice none 0 0] [ZR v] (fun _ : Unit => .int .i64 1) (fun _ => [])) := ⟨fun v => by
  refine spec_of_m Try.func49 rfl Try.ntmps49 rfl [(0, _), (1, _)] rfl ?_; intro base F l0 hl0; (try simp only [List.cons_append] at hl0); (try simp only [List.nil_append] at hl0); subst hl0
  repeat' (first | refine stx ?_ | refine And.intro ?_ ?_ | (intro e; exfalso; omega) | (intro e; subst e) | intro _)
  exact rmv1 () rfl⟩
instance (priority := high + 5) zr_all : Known Try.prog 34 (∀ (v : Value), SpecH Try.prog 34 #[v] [ZR v] (fun _ : Unit => .func (.func 73) #[] #[]) (fun _ => [])) := ⟨fun v => by
  refine spec_of Try.func34 rfl Try.ntmps34 rfl [(0, _)] rfl ?_; intro base F l0 hl0; (try simp only [List.cons_append] at hl0); (try simp only [List.nil_append] at hl0); subst hl0
  repeat' (first | refine stx ?_ | refine And.intro ?_ ?_ | (intro e; exfalso; omega) | (intro e; subst e) | intro _)
  exact rt1 () rfl⟩
instance : CF Try.prog 73 := ⟨fun _ _ => by kernel_rfl⟩
theorem zr_iter : IterH Try.prog 73 #[] [] [] := by
  unfold IterH
  intro lp rec I B hst hpe hlen hround
  have e : (#[Value.func (.yield lp) #[] #[]] ++ #[] : Array Value) = #[.func (.yield lp) #[] #[]] := rfl
  rw [e]
  refine spec_of Try.func73 rfl Try.ntmps73 rfl [(0, _)] rfl ?_; intro base F l0 hl0; (try simp only [List.cons_append] at hl0); (try simp only [List.nil_append] at hl0); subst hl0
  repeat' (first | refine stx ?_ | refine And.intro ?_ ?_ | (intro e; exfalso; omega) | (intro e; subst e) | intro _)
  exact re0 none rfl (by simp only [iterL, List.length_nil]; (try simp only [List.cons_append, List.nil_append]); repeat (first | (with_reducible exact Ent.refl _) | (with_reducible exact Ent.nil _) | (apply Ent.cons; (focus ((repeat (first | (with_reducible exact Rem.here _ _) | (with_reducible apply Rem.there) | fail)); done)))))
instance (priority := high + 5) zr_collect : Known Try.prog 42 (∀ (v : Value), SpecH Try.prog 42 #[v] [ZR v] (fun _ : Unit => .slice none 0 0) (fun _ => [])) := ⟨fun v => by
  refine spec_of_m Try.func42 rfl Try.ntmps42 rfl [(0, _)] rfl ?_; intro base F l0 hl0; (try simp only [List.cons_append] at hl0); (try simp only [List.nil_append] at hl0); subst hl0
  repeat' (first | refine stx ?_ | refine And.intro ?_ ?_ | (intro e; exfalso; omega) | (intro e; subst e) | intro _)
  rename_i bo
  refine tc_rangeFunc (xs := []) (own := []) (R := [F]) (fun _ => obj bo 33 [.slice none 0 0]) (fun _ _ => fact False) zr_iter rfl (by decide) (by intro a ha; cases ha) ?_ ?_ ?_ ?_
  · exact en
  · intro lp rec i a hst hpe ha
    simp at ha
  · intro rb
    simp only [List.cons_append, List.nil_append]
    repeat' (first | refine stx ?_ | refine And.intro ?_ ?_ | (intro e; subst e) | intro _)
    exact rm1 () rfl
  · intro rb i c
    exact tc_factF⟩
set_option maxRecDepth 20000 in
set_option maxHeartbeats 8000000 in
theorem lnil_spec (k : Int) : SpecH Try.prog 12 #[.int .u32 k] [] (fun _ : Unit => .bool true) (fun _ => []) := by
  refine spec_of Try.func12 rfl Try.ntmps12 rfl [(0, _)] rfl ?_; intro base F l0 hl0; (try simp only [List.cons_append] at hl0); (try simp only [List.nil_append] at hl0); subst hl0
  repeat' (first | refine stx ?_ | refine And.intro ?_ ?_ | (intro e; exfalso; omega) | (intro e; subst e) | intro _)
  rename_i b1 b2
  refine ZR.mk (p := b1) ?_
  refine tc_lp (ι := {i : Nat // i ≤ 2}) [9] (fun e i => (9, .int .i64 (i.1 : Nat)) :: e) (fun _ => [ZR (.pointer (some ⟨b1, 0, none⟩)), Vec 64 1 (some ⟨b2, 0, none⟩) 2 2 [.pointer none, .pointer (some ⟨b1, 0, none⟩)], F]) (fun i => 2 - i.1) ⟨0, by omega⟩ ?_
  rintro K ⟨i, hi⟩ hK
  dsimp only
  by_cases hc : i < 2
  · refine tc_zrTwo (p := b1) hc ?_
    repeat' (first | refine stx ?_ | refine And.intro ?_ ?_ | (intro e; exfalso; omega) | (intro e; subst e) | intro _)
    generalize two (.pointer none) (.pointer (some ⟨b1, 0, none⟩)) i = v
    repeat' (first | refine stx ?_ | refine And.intro ?_ ?_ | (intro e; exfalso; omega) | (intro e; subst e) | intro _)
    exact again hK ⟨i + 1, by omega⟩
  · obtain rfl : i = 2 := by omega
    repeat' (first | refine stx ?_ | refine And.intro ?_ ?_ | (intro e; exfalso; omega) | (intro e; subst e) | intro _)
    exact rt1 () rfl
end Go.Proofs.Ytbdiabakcgafgaa
