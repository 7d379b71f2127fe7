/- wheel, walked: a wheel that is nil, or zero. -/
import Derived.Test.YtmiblmoppdgnjaaDoorWhL2
import Derived.Test.YtmiblmoppdgnjaaDoorSlD
namespace Go.Proofs.YtmiblmoppdgnjaaDoor
open Go.Lk Go.Sl Go.Lf Go.Wh
/-- Nil, or zero. -/
def ZW (v : Value) : HP := fun h => (v = .pointer none ∧ h = fun _ => none) ∨ ∃ (p : Nat) (T : TypeId), v = .pointer (some ⟨p, 0, none⟩) ∧ cobj p T [.pointer none, .int .u64 0, .int .u64 0, .int .u64 0, .int .u64 0, .int .i64 0] h
instance (v : Value) : Pers (ZW v) := ⟨by
  rintro h (⟨_, rfl⟩ | ⟨p, T, _, hc⟩) k x hk
  · cases hk
  · exact (inferInstance : Pers (cobj p T [.pointer none, .int .u64 0, .int .u64 0, .int .u64 0, .int .u64 0, .int .i64 0])).out h hc k x hk⟩
section
variable {r0 : Option Nat} {P : Program} {base : World} {n : Nat} {ds : List Deferred} {Q : Exit → Act → World → Prop} {env : Env} {l r : List HP} {K : Act → World → Prop} {c : Code} {v : Value}
theorem ZW.caseK (hr : Rem l (ZW v) r) (h1 : v = .pointer none → TK base n ds K env l) (h2 : ∀ (p : Nat) (T : TypeId), v = .pointer (some ⟨p, 0, none⟩) → TK base n ds K env (cobj p T [.pointer none, .int .u64 0, .int .u64 0, .int .u64 0, .int .u64 0, .int .i64 0] :: l)) : TK base n ds K env l := fun a w ha hw => by
  obtain ⟨hh, hf, hl⟩ := hw.heap
  obtain ⟨x, y, hd, e, hx, hy⟩ := hr.keep hl
  rcases hx with ⟨e1, e2⟩ | ⟨p, T, e1, e2⟩
  · exact h1 e1 a w ha hw
  · exact h2 p T e1 a w ha ⟨hw.os, hw.tape, hw.output, hh, hf, x, y, hd, e, e2, hy⟩
theorem ZW.case (hr : Rem l (ZW v) r) (h1 : v = .pointer none → TC r0 P base n ds c Q env l) (h2 : ∀ (p : Nat) (T : TypeId), v = .pointer (some ⟨p, 0, none⟩) → TC r0 P base n ds c Q env (cobj p T [.pointer none, .int .u64 0, .int .u64 0, .int .u64 0, .int .u64 0, .int .i64 0] :: l)) : TC r0 P base n ds c Q env l := by unfold TC at *; exact ZW.caseK hr h1 h2
theorem ZW.mkNil (h : TC r0 P base n ds c Q env (ZW (.pointer none) :: l)) : TC r0 P base n ds c Q env l := by
  unfold TC at *
  exact TK.ent (l' := ZW (.pointer none) :: l) (fun x y => ⟨fun _ => none, x, fun _ => .inl rfl, by funext k; rfl, .inl ⟨rfl, rfl⟩, y⟩) h
theorem ZW.mk {p : Nat} {T : TypeId} (h : TC r0 P base n ds c Q env (ZW (.pointer (some ⟨p, 0, none⟩)) :: r)) (hr : Rem l (obj p T [.pointer none, .int .u64 0, .int .u64 0, .int .u64 0, .int .u64 0, .int .i64 0]) r := by (repeat (first | (with_reducible exact Rem.here _ _) | (with_reducible apply Rem.there) | fail)); done) : TC r0 P base n ds c Q env l := by
  unfold TC at *
  refine TK.share hr ?_
  exact TK.ent (l' := ZW (.pointer (some ⟨p, 0, none⟩)) :: r) (fun x y => lst_cons_mono (fun _ z => .inr ⟨p, T, rfl, z⟩) (fun _ z => z) y) h
end
theorem tc_zwTwo {r0 : Option Nat} {P : Program} {base : World} {n : Nat} {ds : List Deferred} {Q : Exit → Act → World → Prop} {env : Env} {l r : List HP} {c : Code} {p i : Nat} (hc : i < 2) (h : TC r0 P base n ds c Q env (ZW (two (.pointer none) (.pointer (some ⟨p, 0, none⟩)) i) :: l)) (hr : Rem l (ZW (.pointer (some ⟨p, 0, none⟩))) r := by (repeat (first | (with_reducible exact Rem.here _ _) | (with_reducible apply Rem.there) | fail)); done) : TC r0 P base n ds c Q env l :=
  match i, hc with
  | 0, _ => ZW.mkNil h
  | 1, _ => by
    unfold TC at *
    exact TK.ent (l' := ZW (two (.pointer none) (.pointer (some ⟨p, 0, none⟩)) 1) :: l) (fun x y => hr.keep y) h
attribute [local irreducible] TK TL TC Th Bk Nx fnPost WA TQ OpQ OpN SpecH Rd Ent IterH RoundH Rb Rp fnPostM
instance (priority := high + 5) zw_check : Known Tryd.prog 31 (∀ (v : Value) (k b : Int), SpecH Tryd.prog 31 #[v, .int .u32 k, .int .i64 b] [ZW v] (fun _ : Unit => .int .i64 1) (fun _ => [])) := ⟨fun v k b => by
  refine spec_of Tryd.func31 rfl Tryd.ntmps31 rfl [(0, _), (1, _), (2, _)] rfl ?_; intro base F l0 hl0; (try simp only [List.cons_append] at hl0); (try simp only [List.nil_append] at hl0); subst hl0
  refine ZW.case (by (repeat (first | (with_reducible exact Rem.here _ _) | (with_reducible apply Rem.there) | fail)); done) (fun e => ?_) (fun p T e => ?_)
  all_goals (subst e)
  all_goals (repeat' (first | refine stz ?_ | refine And.intro ?_ ?_ | (intro e; exfalso; omega) | (intro e; subst e) | intro _))
  all_goals exact rt1 () rfl⟩
instance (priority := high + 5) zw_put : Known Tryd.prog 11 (∀ (v : Value) (k : Int) (b : Int), SpecH Tryd.prog 11 #[v, .int .u32 k, .int .i64 b] [ZW v] (fun _ : Unit => .int .i64 1) (fun _ => [])) := ⟨fun v k b => by
  refine spec_of Tryd.func11 rfl Tryd.ntmps11 rfl [(0, _), (1, _), (2, _)] rfl ?_; intro base F l0 hl0; (try simp only [List.cons_append] at hl0); (try simp only [List.nil_append] at hl0); subst hl0
  repeat' (first | refine stz ?_ | refine And.intro ?_ ?_ | (intro e; exfalso; omega) | (intro e; subst e) | intro _)
  exact rt1 () rfl⟩
instance (priority := high + 5) zw_bucket : Known Tryd.prog 42 (∀ (v : Value) (k : Int), SpecH Tryd.prog 42 #[v, .int .u32 k] [ZW v] (fun _ : Unit => .tuple #[.int .i64 0, .int .i64 1]) (fun _ => [])) := ⟨fun v k => by
  refine spec_of Tryd.func42 rfl Tryd.ntmps42 rfl [(0, _), (1, _)] rfl ?_; intro base F l0 hl0; (try simp only [List.cons_append] at hl0); (try simp only [List.nil_append] at hl0); subst hl0
  repeat' (first | refine stz ?_ | refine And.intro ?_ ?_ | (intro e; exfalso; omega) | (intro e; subst e) | intro _)
  exact rt2 () rfl⟩
instance (priority := high + 5) zw_remove : Known Tryd.prog 38 (∀ (v : Value) (k : Int), SpecH Tryd.prog 38 #[v, .int .u32 k] [ZW v] (fun _ : Unit => .tuple #[.int .i64 0, .int .i64 1]) (fun _ => [])) := ⟨fun v k => by
  refine spec_of Tryd.func38 rfl Tryd.ntmps38 rfl [(0, _), (1, _)] rfl ?_; intro base F l0 hl0; (try simp only [List.cons_append] at hl0); (try simp only [List.nil_append] at hl0); subst hl0
  repeat' (first | refine stz ?_ | refine And.intro ?_ ?_ | (intro e; exfalso; omega) | (intro e; subst e) | intro _)
  exact rt2 () rfl⟩
instance (priority := high + 5) zw_list : Known Tryd.prog 20 (∀ (v : Value) (b : Int), SpecH Tryd.prog 20 #[v, .int .i64 b] [ZW v] (fun _ : Unit => .tuple #[.slice none 0 0, .int .i64 1]) (fun _ => [])) := ⟨fun v b => by
  refine spec_of Tryd.func20 rfl Tryd.ntmps20 rfl [(0, _), (1, _)] rfl ?_; intro base F l0 hl0; (try simp only [List.cons_append] at hl0); (try simp only [List.nil_append] at hl0); subst hl0
  repeat' (first | refine stz ?_ | refine And.intro ?_ ?_ | (intro e; exfalso; omega) | (intro e; subst e) | intro _)
  exact rt2 () rfl⟩
instance (priority := high + 5) zw_take : Known Tryd.prog 36 (∀ (v : Value) (b : Int), SpecH Tryd.prog 36 #[v, .int .i64 b] [ZW v] (fun _ : Unit => .tuple #[.slice none 0 0, .int .i64 1]) (fun _ => [])) := ⟨fun v b => by
  refine spec_of Tryd.func36 rfl Tryd.ntmps36 rfl [(0, _), (1, _)] rfl ?_; intro base F l0 hl0; (try simp only [List.cons_append] at hl0); (try simp only [List.nil_append] at hl0); subst hl0
  repeat' (first | refine stz ?_ | refine And.intro ?_ ?_ | (intro e; exfalso; omega) | (intro e; subst e) | intro _)
  refine tc_lp (ι := Unit) [18] (fun e _ => (18, .int .i64 0) :: e) (fun _ => _) (fun _ => 0) () ?_ (hl := Ent.refl _)
  rintro K ⟨⟩ hK
  repeat' (first | refine stz ?_ | refine And.intro ?_ ?_ | (intro e; exfalso; omega) | (intro e; subst e) | intro _)
  exact rt2 () rfl⟩
instance (priority := high + 5) zw_next : Known Tryd.prog 19 (∀ (v : Value) (b : Int), SpecH Tryd.prog 19 #[v, .int .i64 b] [ZW v] (fun _ : Unit => .tuple #[.int .i64 0, .int .i64 1]) (fun _ => [])) := ⟨fun v b => by
  refine spec_of Tryd.func19 rfl Tryd.ntmps19 rfl [(0, _), (1, _)] rfl ?_; intro base F l0 hl0; (try simp only [List.cons_append] at hl0); (try simp only [List.nil_append] at hl0); subst hl0
  repeat' (first | refine stz ?_ | refine And.intro ?_ ?_ | (intro e; exfalso; omega) | (intro e; subst e) | intro _)
  exact rt2 () rfl⟩
instance (priority := high + 5) zw_len : Known Tryd.prog 22 (∀ (v : Value), SpecH Tryd.prog 22 #[v] [ZW v] (fun _ : Unit => .int .i64 0) (fun _ => [])) := ⟨fun v => by
  refine spec_of Tryd.func22 rfl Tryd.ntmps22 rfl [(0, _)] rfl ?_; intro base F l0 hl0; (try simp only [List.cons_append] at hl0); (try simp only [List.nil_append] at hl0); subst hl0
  repeat' (first | refine stz ?_ | refine And.intro ?_ ?_ | (intro e; exfalso; omega) | (intro e; subst e) | intro _)
  exact rt1 () rfl⟩
instance (priority := high + 5) zw_full : Known Tryd.prog 23 (∀ (v : Value), SpecH Tryd.prog 23 #[v] [ZW v] (fun _ : Unit => .agg #[.int .u64 0, .int .u64 0, .int .u64 0, .int .u64 0]) (fun _ => [])) := ⟨fun v => by
  refine spec_of Tryd.func23 rfl Tryd.ntmps23 rfl [(0, _)] rfl ?_; intro base F l0 hl0; (try simp only [List.cons_append] at hl0); (try simp only [List.nil_append] at hl0); subst hl0
  repeat' (first | refine stz ?_ | refine And.intro ?_ ?_ | (intro e; exfalso; omega) | (intro e; subst e) | intro _)
  exact ra1 () rfl⟩
instance (priority := high + 5) zw_copy : Known Tryd.prog 27 (∀ (v : Value), SpecH Tryd.prog 27 #[v] [ZW v] (fun _ : Unit => .pointer none) (fun _ => [])) := ⟨fun v => by
  refine spec_of Tryd.func27 rfl Tryd.ntmps27 rfl [(0, _)] rfl ?_; intro base F l0 hl0; (try simp only [List.cons_append] at hl0); (try simp only [List.nil_append] at hl0); subst hl0
  repeat' (first | refine stz ?_ | refine And.intro ?_ ?_ | (intro e; exfalso; omega) | (intro e; subst e) | intro _)
  exact rt1 () rfl⟩
instance (priority := high + 5) zw_removes : Known Tryd.prog 18 (∀ (v : Value) (k : Int), SpecH Tryd.prog 18 #[v, .int .u32 k, .int .i64 0, .int .i64 1] [ZW v] (fun _ : Unit => .bool true) (fun _ => [])) := ⟨fun v k => by
  refine spec_of Tryd.func18 rfl Tryd.ntmps18 rfl [(0, _), (1, _), (2, _), (3, _)] rfl ?_; intro base F l0 hl0; (try simp only [List.cons_append] at hl0); (try simp only [List.nil_append] at hl0); subst hl0
  repeat' (first | refine stz ?_ | refine And.intro ?_ ?_ | (intro e; exfalso; omega) | (intro e; subst e) | intro _)
  exact rt1 () rfl⟩
instance (priority := high + 5) zw_stands : Known Tryd.prog 26 (∀ (v : Value) (k : Int), SpecH Tryd.prog 26 #[v, .int .u32 k, .int .i64 0, .int .i64 1] [ZW v] (fun _ : Unit => .bool true) (fun _ => [])) := ⟨fun v k => by
  refine spec_of Tryd.func26 rfl Tryd.ntmps26 rfl [(0, _), (1, _), (2, _), (3, _)] rfl ?_; intro base F l0 hl0; (try simp only [List.cons_append] at hl0); (try simp only [List.nil_append] at hl0); subst hl0
  repeat' (first | refine stz ?_ | refine And.intro ?_ ?_ | (intro e; exfalso; omega) | (intro e; subst e) | intro _)
  exact rt1 () rfl⟩
instance (priority := high + 5) zw_takes : Known Tryd.prog 15 (∀ (v : Value) (b : Int), SpecH Tryd.prog 15 #[v, .int .i64 b, .slice none 0 0, .int .i64 1] [ZW v] (fun _ : Unit => .bool true) (fun _ => [])) := ⟨fun v b => by
  refine spec_of Tryd.func15 rfl Tryd.ntmps15 rfl [(0, _), (1, _), (2, _), (3, _)] rfl ?_; intro base F l0 hl0; (try simp only [List.cons_append] at hl0); (try simp only [List.nil_append] at hl0); subst hl0
  repeat' (first | refine stz ?_ | refine And.intro ?_ ?_ | (intro e; exfalso; omega) | (intro e; subst e) | intro _)
  exact rt1 () rfl⟩
instance (priority := high + 5) zw_lists : Known Tryd.prog 21 (∀ (v : Value) (b : Int), SpecH Tryd.prog 21 #[v, .int .i64 b, .slice none 0 0, .int .i64 1] [ZW v] (fun _ : Unit => .bool true) (fun _ => [])) := ⟨fun v b => by
  refine spec_of Tryd.func21 rfl Tryd.ntmps21 rfl [(0, _), (1, _), (2, _), (3, _)] rfl ?_; intro base F l0 hl0; (try simp only [List.cons_append] at hl0); (try simp only [List.nil_append] at hl0); subst hl0
  repeat' (first | refine stz ?_ | refine And.intro ?_ ?_ | (intro e; exfalso; omega) | (intro e; subst e) | intro _)
  exact rt1 () rfl⟩
instance (priority := high + 5) zw_nx : Known Tryd.prog 13 (∀ (v : Value) (b : Int), SpecH Tryd.prog 13 #[v, .int .i64 b, .int .i64 0, .int .i64 1] [ZW v] (fun _ : Unit => .bool true) (fun _ => [])) := ⟨fun v b => by
  refine spec_of Tryd.func13 rfl Tryd.ntmps13 rfl [(0, _), (1, _), (2, _), (3, _)] rfl ?_; intro base F l0 hl0; (try simp only [List.cons_append] at hl0); (try simp only [List.nil_append] at hl0); subst hl0
  repeat' (first | refine stz ?_ | refine And.intro ?_ ?_ | (intro e; exfalso; omega) | (intro e; subst e) | intro _)
  exact rt1 () rfl⟩
set_option maxRecDepth 20000 in
set_option maxHeartbeats 8000000 in
theorem whl_nil (k b : Int) : SpecH Tryd.prog 7 #[.int .u32 k, .int .i64 b] [Tab64] (fun _ : Unit => .bool true) (fun _ => []) := by
  refine spec_of Tryd.func7 rfl Tryd.ntmps7 rfl [(0, _), (1, _)] rfl ?_; intro base F l0 hl0; (try simp only [List.cons_append] at hl0); (try simp only [List.nil_append] at hl0); subst hl0
  repeat' (first | refine stz ?_ | refine And.intro ?_ ?_ | (intro e; exfalso; omega) | (intro e; subst e) | intro _)
  rename_i b1 b2
  refine ZW.mk (p := b1) ?_
  refine tc_lp (ι := {i : Nat // i ≤ 2}) [11] (fun e i => (11, .int .i64 (i.1 : Nat)) :: e) (fun _ => [ZW (.pointer (some ⟨b1, 0, none⟩)), Vec 24 1 (some ⟨b2, 0, none⟩) 2 2 [.pointer none, .pointer (some ⟨b1, 0, none⟩)], Tab64, F]) (fun i => 2 - i.1) ⟨0, by omega⟩ ?_
  rintro K ⟨i, hi⟩ hK
  dsimp only
  by_cases hc : i < 2
  · refine tc_zwTwo (p := b1) hc ?_
    repeat' (first | refine stz ?_ | refine And.intro ?_ ?_ | (intro e; exfalso; omega) | (intro e; subst e) | intro _)
    generalize two (.pointer none) (.pointer (some ⟨b1, 0, none⟩)) i = v
    repeat' (first | refine stz ?_ | refine And.intro ?_ ?_ | (intro e; exfalso; omega) | (intro e; subst e) | intro _)
    exact again hK ⟨i + 1, by omega⟩
  · obtain rfl : i = 2 := by omega
    repeat' (first | refine stz ?_ | refine And.intro ?_ ?_ | (intro e; exfalso; omega) | (intro e; subst e) | intro _)
    exact rt1 () rfl
end Go.Proofs.YtmiblmoppdgnjaaDoor
