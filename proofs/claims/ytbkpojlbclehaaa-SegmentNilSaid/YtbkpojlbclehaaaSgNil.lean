/- segment, walked: an order that is nil, or zero. -/
import Derived.Test.YtbkpojlbclehaaaSgL2
import Derived.Test.YtbkpojlbclehaaaSlD
namespace Go.Proofs.Ytbkpojlbclehaaa
open Go.Lk Go.Sl Go.Lr Go.Sg
/-- Nil, or zero. -/
def ZS (v : Value) : HP := fun h => (v = .pointer none ∧ h = fun _ => none) ∨ ∃ (p : Nat) (T : TypeId), v = .pointer (some ⟨p, 0, none⟩) ∧ cobj p T [.pointer none, .pointer none, .int .i64 0, .int .i64 0, .map none, .int .i64 0] h
instance (v : Value) : Pers (ZS v) := ⟨by
  rintro h (⟨_, rfl⟩ | ⟨p, T, _, hc⟩) k x hk
  · cases hk
  · exact (inferInstance : Pers (cobj p T [.pointer none, .pointer none, .int .i64 0, .int .i64 0, .map none, .int .i64 0])).out h hc k x hk⟩
section
variable {r0 : Option Nat} {P : Program} {base : World} {n : Nat} {ds : List Deferred} {Q : Exit → Act → World → Prop} {env : Env} {l r : List HP} {K : Act → World → Prop} {c : Code} {v : Value}
theorem ZS.caseK (hr : Rem l (ZS v) r) (h1 : v = .pointer none → TK base n ds K env l) (h2 : ∀ (p : Nat) (T : TypeId), v = .pointer (some ⟨p, 0, none⟩) → TK base n ds K env (cobj p T [.pointer none, .pointer none, .int .i64 0, .int .i64 0, .map none, .int .i64 0] :: l)) : TK base n ds K env l := fun a w ha hw => by
  obtain ⟨hh, hf, hl⟩ := hw.heap
  obtain ⟨x, y, hd, e, hx, hy⟩ := hr.keep hl
  rcases hx with ⟨e1, e2⟩ | ⟨p, T, e1, e2⟩
  · exact h1 e1 a w ha hw
  · exact h2 p T e1 a w ha ⟨hw.os, hw.tape, hw.output, hh, hf, x, y, hd, e, e2, hy⟩
theorem ZS.case (hr : Rem l (ZS v) r) (h1 : v = .pointer none → TC r0 P base n ds c Q env l) (h2 : ∀ (p : Nat) (T : TypeId), v = .pointer (some ⟨p, 0, none⟩) → TC r0 P base n ds c Q env (cobj p T [.pointer none, .pointer none, .int .i64 0, .int .i64 0, .map none, .int .i64 0] :: l)) : TC r0 P base n ds c Q env l := by unfold TC at *; exact ZS.caseK hr h1 h2
theorem ZS.mkNil (h : TC r0 P base n ds c Q env (ZS (.pointer none) :: l)) : TC r0 P base n ds c Q env l := by
  unfold TC at *
  exact TK.ent (l' := ZS (.pointer none) :: l) (fun x y => ⟨fun _ => none, x, fun _ => .inl rfl, by funext k; rfl, .inl ⟨rfl, rfl⟩, y⟩) h
theorem ZS.mk {p : Nat} {T : TypeId} (h : TC r0 P base n ds c Q env (ZS (.pointer (some ⟨p, 0, none⟩)) :: r)) (hr : Rem l (obj p T [.pointer none, .pointer none, .int .i64 0, .int .i64 0, .map none, .int .i64 0]) r := by (repeat (first | (with_reducible exact Rem.here _ _) | (with_reducible apply Rem.there) | fail)); done) : TC r0 P base n ds c Q env l := by
  unfold TC at *
  refine TK.share hr ?_
  exact TK.ent (l' := ZS (.pointer (some ⟨p, 0, none⟩)) :: r) (fun x y => lst_cons_mono (fun _ z => .inr ⟨p, T, rfl, z⟩) (fun _ z => z) y) h
end
theorem tc_zsTwo {r0 : Option Nat} {P : Program} {base : World} {n : Nat} {ds : List Deferred} {Q : Exit → Act → World → Prop} {env : Env} {l r : List HP} {c : Code} {p i : Nat} (hc : i < 2) (h : TC r0 P base n ds c Q env (ZS (two (.pointer none) (.pointer (some ⟨p, 0, none⟩)) i) :: l)) (hr : Rem l (ZS (.pointer (some ⟨p, 0, none⟩))) r := by (repeat (first | (with_reducible exact Rem.here _ _) | (with_reducible apply Rem.there) | fail)); done) : TC r0 P base n ds c Q env l :=
  match i, hc with
  | 0, _ => ZS.mkNil h
  | 1, _ => by
    unfold TC at *
    exact TK.ent (l' := ZS (two (.pointer none) (.pointer (some ⟨p, 0, none⟩)) 1) :: l) (fun x y => hr.keep y) h
theorem tc_zsPtr {r0 : Option Nat} {P : Program} {base : World} {n : Nat} {ds : List Deferred} {Q : Exit → Act → World → Prop} {env : Env} {l r : List HP} {c : Code} {v : Value} (hr : Rem l (ZS v) r) (h : ∀ o, v = .pointer o → TC r0 P base n ds c Q env l) : TC r0 P base n ds c Q env l := by
  unfold TC at *
  intro a w ha hw
  obtain ⟨hh, hf, hl⟩ := hw.heap
  obtain ⟨x, y, hd, e, hx, hy⟩ := hr.keep hl
  rcases hx with ⟨e1, e2⟩ | ⟨p, T, e1, e2⟩
  · exact h _ e1 a w ha hw
  · exact h _ e1 a w ha hw
theorem opq_eql_map0 {r : Option Nat} {P : Program} {all : Array Oper} {n : Nat} {ds : List Deferred} {env : Env} {lc : List HP} {dst : Option Tmp} {ty : TypeId} {pos : String} {af : Array Edge} {g : Option (Nat × Bool)} {t kt e : TypeId} {x y : Operand} {yt : TypeId} (hw : Want all ⟨dst, .binOp .eql t x y yt, ty, pos, af, g⟩ env) (hx : ev env x = some (.map none)) (hy : ev env y = some (.map none)) [hu : UL P t (.map kt e)] : OpQ r P all ⟨dst, .binOp .eql t x y yt, ty, pos, af, g⟩ n ds env lc (.bool true) :=
  opq_bin hw hx hy (fun w => by simp [eqGuard]) (run_eql (fun w => rfl) fun d w => by simp [Op.equalIn, run_underlying hu.out])
attribute [local irreducible] TK TL TC Th Bk Nx fnPost WA TQ OpQ OpN SpecH Rd Ent IterH RoundH Rb Rp fnPostM
instance (priority := high + 5) zs_check : Known Try.prog 56 (∀ (v : Value) (k b : Int), SpecH Try.prog 56 #[v, .int .u32 k, .int .i64 b] [ZS v] (fun _ : Unit => .int .i64 1) (fun _ => [])) := ⟨fun v k b => by
  refine spec_of Try.func56 rfl Try.ntmps56 rfl [(0, _), (1, _), (2, _)] rfl ?_; intro base F l0 hl0; (try simp only [List.cons_append] at hl0); (try simp only [List.nil_append] at hl0); subst hl0
  refine ZS.case (by (repeat (first | (with_reducible exact Rem.here _ _) | (with_reducible apply Rem.there) | fail)); done) (fun e => ?_) (fun p T e => ?_)
  all_goals (subst e)
  · repeat' (first | refine stw ?_ | refine And.intro ?_ ?_ | (intro e; exfalso; omega) | (intro e; subst e) | intro _)
    exact rt1 () rfl
  · repeat' (first | refine stw ?_ | refine And.intro ?_ ?_ | (intro e; exfalso; omega) | (intro e; subst e) | intro _)
    refine tl_q (v := .bool true) (d := 15) ?_ rfl (by decide) ?_
    · apply opq_eql_map0
      · (first | exact want_none rfl | exact want_yes rfl rfl rfl rfl rfl | fail)
      · exact rfl
      · exact rfl
    repeat' (first | refine stw ?_ | refine And.intro ?_ ?_ | (intro e; exfalso; omega) | (intro e; subst e) | intro _)
    exact rt1 () rfl⟩
instance (priority := high + 5) zs_add : Known Try.prog 19 (∀ (v : Value) (k b : Int), SpecH Try.prog 19 #[v, .int .u32 k, .int .i64 b] [ZS v] (fun _ : Unit => .int .i64 1) (fun _ => [])) := ⟨fun v k b => by
  refine spec_of Try.func19 rfl Try.ntmps19 rfl [(0, _), (1, _), (2, _)] rfl ?_; intro base F l0 hl0; (try simp only [List.cons_append] at hl0); (try simp only [List.nil_append] at hl0); subst hl0
  repeat' (first | refine stw ?_ | refine And.intro ?_ ?_ | (intro e; exfalso; omega) | (intro e; subst e) | intro _)
  exact rt1 () rfl⟩
instance (priority := high + 5) zs_use : Known Try.prog 20 (∀ (v : Value) (k b : Int), SpecH Try.prog 20 #[v, .int .u32 k, .int .i64 b] [ZS v] (fun _ : Unit => .tuple #[.slice none 0 0, .int .i64 1]) (fun _ => [])) := ⟨fun v k b => by
  refine spec_of Try.func20 rfl Try.ntmps20 rfl [(0, _), (1, _), (2, _)] rfl ?_; intro base F l0 hl0; (try simp only [List.cons_append] at hl0); (try simp only [List.nil_append] at hl0); subst hl0
  repeat' (first | refine stw ?_ | refine And.intro ?_ ?_ | (intro e; exfalso; omega) | (intro e; subst e) | intro _)
  exact rt2 () rfl⟩
instance (priority := high + 5) zs_remove : Known Try.prog 21 (∀ (v : Value) (k : Int), SpecH Try.prog 21 #[v, .int .u32 k] [ZS v] (fun _ : Unit => .int .i64 1) (fun _ => [])) := ⟨fun v k => by
  refine spec_of Try.func21 rfl Try.ntmps21 rfl [(0, _), (1, _)] rfl ?_; intro base F l0 hl0; (try simp only [List.cons_append] at hl0); (try simp only [List.nil_append] at hl0); subst hl0
  repeat' (first | refine stw ?_ | refine And.intro ?_ ?_ | (intro e; exfalso; omega) | (intro e; subst e) | intro _)
  exact rt1 () rfl⟩
instance (priority := high + 5) zs_limit : Known Try.prog 22 (∀ (v : Value) (b : Int), SpecH Try.prog 22 #[v, .int .i64 b] [ZS v] (fun _ : Unit => .tuple #[.slice none 0 0, .int .i64 1]) (fun _ => [])) := ⟨fun v b => by
  refine spec_of Try.func22 rfl Try.ntmps22 rfl [(0, _), (1, _)] rfl ?_; intro base F l0 hl0; (try simp only [List.cons_append] at hl0); (try simp only [List.nil_append] at hl0); subst hl0
  repeat' (first | refine stw ?_ | refine And.intro ?_ ?_ | (intro e; exfalso; omega) | (intro e; subst e) | intro _)
  exact rt2 () rfl⟩
instance (priority := high + 5) zs_of : Known Try.prog 73 (∀ (v : Value) (k : Int), SpecH Try.prog 73 #[v, .int .u32 k] [ZS v] (fun _ : Unit => .tuple #[.int .i64 0, .int .i64 0, .int .i64 1]) (fun _ => [])) := ⟨fun v k => by
  refine spec_of Try.func73 rfl Try.ntmps73 rfl [(0, _), (1, _)] rfl ?_; intro base F l0 hl0; (try simp only [List.cons_append] at hl0); (try simp only [List.nil_append] at hl0); subst hl0
  repeat' (first | refine stw ?_ | refine And.intro ?_ ?_ | (intro e; exfalso; omega) | (intro e; subst e) | intro _)
  exact rt3 () rfl⟩
instance (priority := high + 5) zs_has : Known Try.prog 55 (∀ (v : Value) (g : Int), SpecH Try.prog 55 #[v, .int .i64 g] [ZS v] (fun _ : Unit => .bool false) (fun _ => [])) := ⟨fun v g => by
  refine spec_of Try.func55 rfl Try.ntmps55 rfl [(0, _), (1, _)] rfl ?_; intro base F l0 hl0; (try simp only [List.cons_append] at hl0); (try simp only [List.nil_append] at hl0); subst hl0
  repeat' (first | refine stw ?_ | refine And.intro ?_ ?_ | (intro e; exfalso; omega) | (intro e; subst e) | intro _)
  exact rt1 () rfl⟩
instance (priority := high + 5) zs_list : Known Try.prog 23 (∀ (v : Value) (g : Int), SpecH Try.prog 23 #[v, .int .i64 g] [ZS v] (fun _ : Unit => .slice none 0 0) (fun _ => [])) := ⟨fun v g => by
  refine spec_of_m Try.func23 rfl Try.ntmps23 rfl [(0, _), (1, _)] rfl ?_; intro base F l0 hl0; (try simp only [List.cons_append] at hl0); (try simp only [List.nil_append] at hl0); subst hl0
  refine tc_zsPtr (v := v) (by (repeat (first | (with_reducible exact Rem.here _ _) | (with_reducible apply Rem.there) | fail)); done) fun o ho => ?_
  subst ho
  repeat' (first | refine stw ?_ | refine And.intro ?_ ?_ | (intro e; exfalso; omega) | (intro e; subst e) | intro _)
  exact rm1 () rfl⟩
instance (priority := high + 5) zs_cost : Known Try.prog 24 (∀ (v : Value) (g : Int), SpecH Try.prog 24 #[v, .int .i64 g] [ZS v] (fun _ : Unit => .int .i64 0) (fun _ => [])) := ⟨fun v g => by
  refine spec_of Try.func24 rfl Try.ntmps24 rfl [(0, _), (1, _)] rfl ?_; intro base F l0 hl0; (try simp only [List.cons_append] at hl0); (try simp only [List.nil_append] at hl0); subst hl0
  repeat' (first | refine stw ?_ | refine And.intro ?_ ?_ | (intro e; exfalso; omega) | (intro e; subst e) | intro _)
  exact rt1 () rfl⟩
instance (priority := high + 5) zs_len : Known Try.prog 18 (∀ (v : Value) (g : Int), SpecH Try.prog 18 #[v, .int .i64 g] [ZS v] (fun _ : Unit => .int .i64 0) (fun _ => [])) := ⟨fun v g => by
  refine spec_of Try.func18 rfl Try.ntmps18 rfl [(0, _), (1, _)] rfl ?_; intro base F l0 hl0; (try simp only [List.cons_append] at hl0); (try simp only [List.nil_append] at hl0); subst hl0
  repeat' (first | refine stw ?_ | refine And.intro ?_ ?_ | (intro e; exfalso; omega) | (intro e; subst e) | intro _)
  exact rt1 () rfl⟩
instance (priority := high + 5) zs_renumber : Known Try.prog 35 (∀ (v : Value) (a : Option Addr) (n c : Nat), SpecH Try.prog 35 #[v, .slice a n c] [ZS v] (fun _ : Unit => .int .i64 1) (fun _ => [])) := ⟨fun v a n c => by
  refine spec_of_m Try.func35 rfl Try.ntmps35 rfl [(0, _), (1, _)] rfl ?_; intro base F l0 hl0; (try simp only [List.cons_append] at hl0); (try simp only [List.nil_append] at hl0); subst hl0
  refine tc_zsPtr (v := v) (by (repeat (first | (with_reducible exact Rem.here _ _) | (with_reducible apply Rem.there) | fail)); done) fun o ho => ?_
  subst ho
  repeat' (first | refine stw ?_ | refine And.intro ?_ ?_ | (intro e; exfalso; omega) | (intro e; subst e) | intro _)
  exact rmv1 () rfl⟩
instance (priority := high + 5) zs_copy : Known Try.prog 36 (∀ (v : Value), SpecH Try.prog 36 #[v] [ZS v] (fun _ : Unit => .pointer none) (fun _ => [])) := ⟨fun v => by
  refine spec_of Try.func36 rfl Try.ntmps36 rfl [(0, _)] rfl ?_; intro base F l0 hl0; (try simp only [List.cons_append] at hl0); (try simp only [List.nil_append] at hl0); subst hl0
  repeat' (first | refine stw ?_ | refine And.intro ?_ ?_ | (intro e; exfalso; omega) | (intro e; subst e) | intro _)
  exact rt1 () rfl⟩
instance (priority := high + 5) zs_uses : Known Try.prog 32 (∀ (v : Value) (k b : Int), SpecH Try.prog 32 #[v, .int .u32 k, .int .i64 b, .slice none 0 0, .int .i64 1] [ZS v] (fun _ : Unit => .bool true) (fun _ => [])) := ⟨fun v k b => by
  refine spec_of Try.func32 rfl Try.ntmps32 rfl [(0, _), (1, _), (2, _), (3, _), (4, _)] rfl ?_; intro base F l0 hl0; (try simp only [List.cons_append] at hl0); (try simp only [List.nil_append] at hl0); subst hl0
  repeat' (first | refine stw ?_ | refine And.intro ?_ ?_ | (intro e; exfalso; omega) | (intro e; subst e) | intro _)
  exact rt1 () rfl⟩
instance (priority := high + 5) zs_limits : Known Try.prog 33 (∀ (v : Value) (b : Int), SpecH Try.prog 33 #[v, .int .i64 b, .slice none 0 0, .int .i64 1] [ZS v] (fun _ : Unit => .bool true) (fun _ => [])) := ⟨fun v b => by
  refine spec_of Try.func33 rfl Try.ntmps33 rfl [(0, _), (1, _), (2, _), (3, _)] rfl ?_; intro base F l0 hl0; (try simp only [List.cons_append] at hl0); (try simp only [List.nil_append] at hl0); subst hl0
  repeat' (first | refine stw ?_ | refine And.intro ?_ ?_ | (intro e; exfalso; omega) | (intro e; subst e) | intro _)
  exact rt1 () rfl⟩
instance (priority := high + 5) zs_stands : Known Try.prog 34 (∀ (v : Value) (k : Int), SpecH Try.prog 34 #[v, .int .u32 k, .int .i64 0, .int .i64 0, .int .i64 1] [ZS v] (fun _ : Unit => .bool true) (fun _ => [])) := ⟨fun v k => by
  refine spec_of Try.func34 rfl Try.ntmps34 rfl [(0, _), (1, _), (2, _), (3, _), (4, _)] rfl ?_; intro base F l0 hl0; (try simp only [List.cons_append] at hl0); (try simp only [List.nil_append] at hl0); subst hl0
  repeat' (first | refine stw ?_ | refine And.intro ?_ ?_ | (intro e; exfalso; omega) | (intro e; subst e) | intro _)
  exact rt1 () rfl⟩
set_option maxRecDepth 20000 in
set_option maxHeartbeats 8000000 in
theorem sgl_nil (k b : Int) : SpecH Try.prog 7 #[.int .u32 k, .int .i64 b] [] (fun _ : Unit => .bool true) (fun _ => []) := by
  refine spec_of Try.func7 rfl Try.ntmps7 rfl [(0, _), (1, _)] rfl ?_; intro base F l0 hl0; (try simp only [List.cons_append] at hl0); (try simp only [List.nil_append] at hl0); subst hl0
  repeat' (first | refine stw ?_ | refine And.intro ?_ ?_ | (intro e; exfalso; omega) | (intro e; subst e) | intro _)
  rename_i b1 b2
  refine ZS.mk (p := b1) ?_
  refine tc_lp (ι := {i : Nat // i ≤ 2}) [11] (fun e i => (11, .int .i64 (i.1 : Nat)) :: e) (fun _ => [ZS (.pointer (some ⟨b1, 0, none⟩)), Vec 22 1 (some ⟨b2, 0, none⟩) 2 2 [.pointer none, .pointer (some ⟨b1, 0, none⟩)], F]) (fun i => 2 - i.1) ⟨0, by omega⟩ ?_
  rintro K ⟨i, hi⟩ hK
  dsimp only
  by_cases hc : i < 2
  · refine tc_zsTwo (p := b1) hc ?_
    repeat' (first | refine stw ?_ | refine And.intro ?_ ?_ | (intro e; exfalso; omega) | (intro e; subst e) | intro _)
    generalize two (.pointer none) (.pointer (some ⟨b1, 0, none⟩)) i = v
    repeat' (first | refine stw ?_ | refine And.intro ?_ ?_ | (intro e; exfalso; omega) | (intro e; subst e) | intro _)
    exact again hK ⟨i + 1, by omega⟩
  · obtain rfl : i = 2 := by omega
    repeat' (first | refine stw ?_ | refine And.intro ?_ ?_ | (intro e; exfalso; omega) | (intro e; subst e) | intro _)
    exact rt1 () rfl
end Go.Proofs.Ytbkpojlbclehaaa
