/- The laws of lfu, walked: caches that are nil, or zero. -/
import Derived.Test.YtmiblmoppdgnjaaLfL1
import Derived.Test.YtmiblmoppdgnjaaSlD
namespace Go.Proofs.Ytmiblmoppdgnjaa
open Go.Lk Go.Sl Go.Lf
/-- Nil, or zero. -/
def ZF (v : Value) : HP := fun h => (v = .pointer none ∧ h = fun _ => none) ∨ ∃ (p : Nat) (T : TypeId), v = .pointer (some ⟨p, 0, none⟩) ∧ cobj p T [.int .i64 0,.int .i64 0,.int .i64 0,.pointer none,.slice none 0 0,.map none] h
instance (v : Value) : Pers (ZF v) := ⟨by
  rintro h (⟨_, rfl⟩ | ⟨p, T, _, hc⟩) k x hk
  · cases hk
  · exact (inferInstance : Pers (cobj p T [.int .i64 0,.int .i64 0,.int .i64 0,.pointer none,.slice none 0 0,.map none])).out h hc k x hk⟩
section
variable {r0 : Option Nat} {P : Program} {base : World} {n : Nat} {ds : List Deferred} {Q : Exit → Act → World → Prop} {env : Env} {l r : List HP} {K : Act → World → Prop} {c : Code} {v : Value}
theorem ZF.caseK (hr : Rem l (ZF v) r) (h1 : v = .pointer none → TK base n ds K env l) (h2 : ∀ (p : Nat) (T : TypeId), v = .pointer (some ⟨p, 0, none⟩) → TK base n ds K env (cobj p T [.int .i64 0,.int .i64 0,.int .i64 0,.pointer none,.slice none 0 0,.map none] :: l)) : TK base n ds K env l := fun a w ha hw => by
  obtain ⟨hh, hf, hl⟩ := hw.heap
  obtain ⟨x, y, hd, e, hx, hy⟩ := hr.keep hl
  rcases hx with ⟨e1, e2⟩ | ⟨p, T, e1, e2⟩
  · exact h1 e1 a w ha hw
  · exact h2 p T e1 a w ha ⟨hw.os, hw.tape, hw.output, hh, hf, x, y, hd, e, e2, hy⟩
theorem ZF.case (hr : Rem l (ZF v) r) (h1 : v = .pointer none → TC r0 P base n ds c Q env l) (h2 : ∀ (p : Nat) (T : TypeId), v = .pointer (some ⟨p, 0, none⟩) → TC r0 P base n ds c Q env (cobj p T [.int .i64 0,.int .i64 0,.int .i64 0,.pointer none,.slice none 0 0,.map none] :: l)) : TC r0 P base n ds c Q env l := by unfold TC at *; exact ZF.caseK hr h1 h2
theorem ZF.mkNil (h : TC r0 P base n ds c Q env (ZF (.pointer none) :: l)) : TC r0 P base n ds c Q env l := by
  unfold TC at *
  exact TK.ent (l' := ZF (.pointer none) :: l) (fun x y => ⟨fun _ => none, x, fun _ => .inl rfl, by funext k; rfl, .inl ⟨rfl, rfl⟩, y⟩) h
theorem ZF.mk {p : Nat} {T : TypeId} (h : TC r0 P base n ds c Q env (ZF (.pointer (some ⟨p, 0, none⟩)) :: r)) (hr : Rem l (obj p T [.int .i64 0,.int .i64 0,.int .i64 0,.pointer none,.slice none 0 0,.map none]) r := by (repeat (first | (with_reducible exact Rem.here _ _) | (with_reducible apply Rem.there) | fail)); done) : TC r0 P base n ds c Q env l := by
  unfold TC at *
  refine TK.share hr ?_
  exact TK.ent (l' := ZF (.pointer (some ⟨p, 0, none⟩)) :: r) (fun x y => lst_cons_mono (fun _ z => .inr ⟨p, T, rfl, z⟩) (fun _ z => z) y) h
end
theorem tc_zfTwo {r0 : Option Nat} {P : Program} {base : World} {n : Nat} {ds : List Deferred} {Q : Exit → Act → World → Prop} {env : Env} {l r : List HP} {c : Code} {p i : Nat} (hc : i < 2) (h : TC r0 P base n ds c Q env (ZF (two (.pointer none) (.pointer (some ⟨p, 0, none⟩)) i) :: l)) (hr : Rem l (ZF (.pointer (some ⟨p, 0, none⟩))) r := by (repeat (first | (with_reducible exact Rem.here _ _) | (with_reducible apply Rem.there) | fail)); done) : TC r0 P base n ds c Q env l := by
  match i, hc with
  | 0, _ => exact ZF.mkNil h
  | 1, _ =>
    unfold TC at *
    exact TK.ent (l' := ZF (two (.pointer none) (.pointer (some ⟨p, 0, none⟩)) 1) :: l) (fun x y => hr.keep y) h
attribute [local irreducible] TK TL TC Th Bk Nx fnPost WA TQ OpQ OpN SpecH Rd Ent IterH RoundH Rb Rp fnPostM
instance (priority := high + 5) zf_zero : Known Try.prog 25 (∀ (v : Value), SpecH Try.prog 25 #[v] [ZF v] (fun _ : Unit => .bool true) (fun _ => [])) := ⟨fun v => by
  refine spec_of Try.func25 rfl Try.ntmps25 rfl [(0, _)] rfl ?_; intro base F l0 hl0; (try simp only [List.cons_append] at hl0); (try simp only [List.nil_append] at hl0); subst hl0
  refine ZF.case (by (repeat (first | (with_reducible exact Rem.here _ _) | (with_reducible apply Rem.there) | fail)); done) (fun e => ?_) (fun p T e => ?_)
  all_goals (subst e)
  all_goals (repeat' (first | refine sty ?_ | refine And.intro ?_ ?_ | (intro e; exfalso; omega) | (intro e; subst e) | intro _))
  all_goals exact rt1 () rfl⟩
instance (priority := high + 5) zf_use : Known Try.prog 12 (∀ (v : Value) (k : Int), SpecH Try.prog 12 #[v, .int .u32 k] [ZF v] (fun _ : Unit => .tuple #[.agg #[.bool false, .bool false, .int .u32 0], .int .i64 1]) (fun _ => [])) := ⟨fun v k => by
  refine spec_of Try.func12 rfl Try.ntmps12 rfl [(0, _), (1, _)] rfl ?_; intro base F l0 hl0; (try simp only [List.cons_append] at hl0); (try simp only [List.nil_append] at hl0); subst hl0
  repeat' (first | refine sty ?_ | refine And.intro ?_ ?_ | (intro e; exfalso; omega) | (intro e; subst e) | intro _)
  exact ra2 () rfl⟩
instance (priority := high + 5) zf_count : Known Try.prog 11 (∀ (v : Value) (k : Int), SpecH Try.prog 11 #[v, .int .u32 k] [ZF v] (fun _ : Unit => .int .i64 0) (fun _ => [])) := ⟨fun v k => by
  refine spec_of Try.func11 rfl Try.ntmps11 rfl [(0, _), (1, _)] rfl ?_; intro base F l0 hl0; (try simp only [List.cons_append] at hl0); (try simp only [List.nil_append] at hl0); subst hl0
  repeat' (first | refine sty ?_ | refine And.intro ?_ ?_ | (intro e; exfalso; omega) | (intro e; subst e) | intro _)
  exact rt1 () rfl⟩
instance (priority := high + 5) zf_has : Known Try.prog 16 (∀ (v : Value) (k : Int), SpecH Try.prog 16 #[v, .int .u32 k] [ZF v] (fun _ : Unit => .bool false) (fun _ => [])) := ⟨fun v k => by
  refine spec_of Try.func16 rfl Try.ntmps16 rfl [(0, _), (1, _)] rfl ?_; intro base F l0 hl0; (try simp only [List.cons_append] at hl0); (try simp only [List.nil_append] at hl0); subst hl0
  repeat' (first | refine sty ?_ | refine And.intro ?_ ?_ | (intro e; exfalso; omega) | (intro e; subst e) | intro _)
  exact rt1 () rfl⟩
instance (priority := high + 5) zf_drop : Known Try.prog 13 (∀ (v : Value) (k : Int), SpecH Try.prog 13 #[v, .int .u32 k] [ZF v] (fun _ : Unit => .tuple #[.bool false, .int .i64 1]) (fun _ => [])) := ⟨fun v k => by
  refine spec_of Try.func13 rfl Try.ntmps13 rfl [(0, _), (1, _)] rfl ?_; intro base F l0 hl0; (try simp only [List.cons_append] at hl0); (try simp only [List.nil_append] at hl0); subst hl0
  repeat' (first | refine sty ?_ | refine And.intro ?_ ?_ | (intro e; exfalso; omega) | (intro e; subst e) | intro _)
  exact rt2 () rfl⟩
instance (priority := high + 5) zf_len : Known Try.prog 15 (∀ (v : Value), SpecH Try.prog 15 #[v] [ZF v] (fun _ : Unit => .int .i64 0) (fun _ => [])) := ⟨fun v => by
  refine spec_of Try.func15 rfl Try.ntmps15 rfl [(0, _)] rfl ?_; intro base F l0 hl0; (try simp only [List.cons_append] at hl0); (try simp only [List.nil_append] at hl0); subst hl0
  repeat' (first | refine sty ?_ | refine And.intro ?_ ?_ | (intro e; exfalso; omega) | (intro e; subst e) | intro _)
  exact rt1 () rfl⟩
instance (priority := high + 5) zf_size : Known Try.prog 20 (∀ (v : Value), SpecH Try.prog 20 #[v] [ZF v] (fun _ : Unit => .int .i64 0) (fun _ => [])) := ⟨fun v => by
  refine spec_of Try.func20 rfl Try.ntmps20 rfl [(0, _)] rfl ?_; intro base F l0 hl0; (try simp only [List.cons_append] at hl0); (try simp only [List.nil_append] at hl0); subst hl0
  repeat' (first | refine sty ?_ | refine And.intro ?_ ?_ | (intro e; exfalso; omega) | (intro e; subst e) | intro _)
  exact rt1 () rfl⟩
instance (priority := high + 5) zf_order : Known Try.prog 14 (∀ (v : Value), SpecH Try.prog 14 #[v] [ZF v] (fun _ : Unit => .slice none 0 0) (fun _ => [])) := ⟨fun v => by
  refine spec_of Try.func14 rfl Try.ntmps14 rfl [(0, _)] rfl ?_; intro base F l0 hl0; (try simp only [List.cons_append] at hl0); (try simp only [List.nil_append] at hl0); subst hl0
  repeat' (first | refine sty ?_ | refine And.intro ?_ ?_ | (intro e; exfalso; omega) | (intro e; subst e) | intro _)
  exact rt1 () rfl⟩
instance (priority := high + 5) zf_copy : Known Try.prog 21 (∀ (v : Value), SpecH Try.prog 21 #[v] [ZF v] (fun _ : Unit => .pointer none) (fun _ => [])) := ⟨fun v => by
  refine spec_of Try.func21 rfl Try.ntmps21 rfl [(0, _)] rfl ?_; intro base F l0 hl0; (try simp only [List.cons_append] at hl0); (try simp only [List.nil_append] at hl0); subst hl0
  repeat' (first | refine sty ?_ | refine And.intro ?_ ?_ | (intro e; exfalso; omega) | (intro e; subst e) | intro _)
  exact rt1 () rfl⟩
set_option maxRecDepth 20000 in
set_option maxHeartbeats 8000000 in
theorem lfnone_spec (k : Int) : SpecH Try.prog 7 #[.int .u32 k] [] (fun _ : Unit => .bool true) (fun _ => []) := by
  refine spec_of Try.func7 rfl Try.ntmps7 rfl [(0, _)] rfl ?_; intro base F l0 hl0; (try simp only [List.cons_append] at hl0); (try simp only [List.nil_append] at hl0); subst hl0
  repeat' (first | refine sty ?_ | refine And.intro ?_ ?_ | (intro e; exfalso; omega) | (intro e; subst e) | intro _)
  rename_i b1 b2
  refine ZF.mk (p := b1) ?_
  refine tc_lp (ι := {i : Nat // i ≤ 2}) [15] (fun e i => (15, .int .i64 (i.1 : Nat)) :: e) (fun _ => [ZF (.pointer (some ⟨b1, 0, none⟩)), Vec 23 1 (some ⟨b2, 0, none⟩) 2 2 [.pointer none, .pointer (some ⟨b1, 0, none⟩)], F]) (fun i => 2 - i.1) ⟨0, by omega⟩ ?_
  rintro K ⟨i, hi⟩ hK
  dsimp only
  by_cases hc : i < 2
  · refine tc_zfTwo (p := b1) hc ?_
    repeat' (first | refine sty ?_ | refine And.intro ?_ ?_ | (intro e; exfalso; omega) | (intro e; subst e) | intro _)
    generalize two (.pointer none) (.pointer (some ⟨b1, 0, none⟩)) i = v
    repeat' (first | refine sty ?_ | refine And.intro ?_ ?_ | (intro e; exfalso; omega) | (intro e; subst e) | intro _)
    exact again hK ⟨i + 1, by omega⟩
  · obtain rfl : i = 2 := by omega
    repeat' (first | refine sty ?_ | refine And.intro ?_ ?_ | (intro e; exfalso; omega) | (intro e; subst e) | intro _)
    exact rt1 () rfl
end Go.Proofs.Ytmiblmoppdgnjaa
