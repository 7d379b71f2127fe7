/- The laws of tiny, walked: caches that are nil, or zero. -/
import Derived.Test.YtdpiglociolagaaGreatTyLA
import Derived.Test.YtdpiglociolagaaGreatSlD
namespace Go.Proofs.YtdpiglociolagaaGreat
open Go.Lk Go.Sl Go.Gh Go.Ty
def ZT (v : Value) : HP := fun h => (v = .pointer none ∧ h = fun _ => none) ∨ ∃ (p : Nat) (T : TypeId), v = .pointer (some ⟨p, 0, none⟩) ∧ cobj p T [.int .i64 0,.int .i64 0,.map none,.slice none 0 0,.slice none 0 0,.pointer none,.pointer none,.pointer none,.pointer none,.int .i64 0,.int .i64 0] h
instance (v : Value) : Pers (ZT v) := ⟨by
  rintro h (⟨_, rfl⟩ | ⟨p, T, _, hc⟩) k x hk
  · cases hk
  · exact (inferInstance : Pers (cobj p T [.int .i64 0,.int .i64 0,.map none,.slice none 0 0,.slice none 0 0,.pointer none,.pointer none,.pointer none,.pointer none,.int .i64 0,.int .i64 0])).out h hc k x hk⟩
section
variable {r0 : Option Nat} {P : Program} {base : World} {n : Nat} {ds : List Deferred} {Q : Exit → Act → World → Prop} {env : Env} {l r : List HP} {K : Act → World → Prop} {c : Code} {v : Value}
theorem ZT.caseK (hr : Rem l (ZT v) r) (h1 : v = .pointer none → TK base n ds K env l) (h2 : ∀ (p : Nat) (T : TypeId), v = .pointer (some ⟨p, 0, none⟩) → TK base n ds K env (cobj p T [.int .i64 0,.int .i64 0,.map none,.slice none 0 0,.slice none 0 0,.pointer none,.pointer none,.pointer none,.pointer none,.int .i64 0,.int .i64 0] :: l)) : TK base n ds K env l := fun a w ha hw => by
  obtain ⟨hh, hf, hl⟩ := hw.heap
  obtain ⟨x, y, hd, e, hx, hy⟩ := hr.keep hl
  rcases hx with ⟨e1, e2⟩ | ⟨p, T, e1, e2⟩
  · exact h1 e1 a w ha hw
  · exact h2 p T e1 a w ha ⟨hw.os, hw.tape, hw.output, hh, hf, x, y, hd, e, e2, hy⟩
theorem ZT.case (hr : Rem l (ZT v) r) (h1 : v = .pointer none → TC r0 P base n ds c Q env l) (h2 : ∀ (p : Nat) (T : TypeId), v = .pointer (some ⟨p, 0, none⟩) → TC r0 P base n ds c Q env (cobj p T [.int .i64 0,.int .i64 0,.map none,.slice none 0 0,.slice none 0 0,.pointer none,.pointer none,.pointer none,.pointer none,.int .i64 0,.int .i64 0] :: l)) : TC r0 P base n ds c Q env l := by unfold TC at *; exact ZT.caseK hr h1 h2
theorem ZT.mkNil (h : TC r0 P base n ds c Q env (ZT (.pointer none) :: l)) : TC r0 P base n ds c Q env l := by
  unfold TC at *
  exact TK.ent (l' := ZT (.pointer none) :: l) (fun x y => ⟨fun _ => none, x, fun _ => .inl rfl, by funext k; rfl, .inl ⟨rfl, rfl⟩, y⟩) h
theorem ZT.mk {p : Nat} {T : TypeId} (h : TC r0 P base n ds c Q env (ZT (.pointer (some ⟨p, 0, none⟩)) :: r)) (hr : Rem l (obj p T [.int .i64 0,.int .i64 0,.map none,.slice none 0 0,.slice none 0 0,.pointer none,.pointer none,.pointer none,.pointer none,.int .i64 0,.int .i64 0]) r := by (repeat (first | (with_reducible exact Rem.here _ _) | (with_reducible apply Rem.there) | fail)); done) : TC r0 P base n ds c Q env l := by
  unfold TC at *
  refine TK.share hr ?_
  exact TK.ent (l' := ZT (.pointer (some ⟨p, 0, none⟩)) :: r) (fun x y => lst_cons_mono (fun _ z => .inr ⟨p, T, rfl, z⟩) (fun _ z => z) y) h
end
theorem tc_ztTwo {r0 : Option Nat} {P : Program} {base : World} {n : Nat} {ds : List Deferred} {Q : Exit → Act → World → Prop} {env : Env} {l r : List HP} {c : Code} {p i : Nat} (hc : i < 2) (h : TC r0 P base n ds c Q env (ZT (two (.pointer none) (.pointer (some ⟨p, 0, none⟩)) i) :: l)) (hr : Rem l (ZT (.pointer (some ⟨p, 0, none⟩))) r := by (repeat (first | (with_reducible exact Rem.here _ _) | (with_reducible apply Rem.there) | fail)); done) : TC r0 P base n ds c Q env l := by
  match i, hc with
  | 0, _ => exact ZT.mkNil h
  | 1, _ =>
    unfold TC at *
    exact TK.ent (l' := ZT (two (.pointer none) (.pointer (some ⟨p, 0, none⟩)) 1) :: l) (fun x y => hr.keep y) h
theorem tc_ztPtr {r0 : Option Nat} {P : Program} {base : World} {n : Nat} {ds : List Deferred} {Q : Exit → Act → World → Prop} {env : Env} {l r : List HP} {c : Code} {v : Value} (hr : Rem l (ZT v) r) (h : ∀ o, v = .pointer o → TC r0 P base n ds c Q env l) : TC r0 P base n ds c Q env l := by
  unfold TC at *
  intro a w ha hw
  obtain ⟨hh, hf, hl⟩ := hw.heap
  obtain ⟨x, y, hd, e, hx, hy⟩ := hr.keep hl
  rcases hx with ⟨e1, e2⟩ | ⟨p, T, e1, e2⟩
  · exact h _ e1 a w ha hw
  · exact h _ e1 a w ha hw
attribute [local irreducible] TK TL TC Th Bk Nx fnPost WA TQ OpQ OpN SpecH Rd Ent IterH RoundH Rb Rp fnPostM
instance (priority := high + 5) zt_zero : Known Tryz.prog 25 (∀ (v : Value), SpecH Tryz.prog 25 #[v] [ZT v] (fun _ : Unit => .bool true) (fun _ => [])) := ⟨fun v => by
  refine spec_of Tryz.func25 rfl Tryz.ntmps25 rfl [(0, _)] rfl ?_; intro base F l0 hl0; (try simp only [List.cons_append] at hl0); (try simp only [List.nil_append] at hl0); subst hl0
  refine ZT.case (by (repeat (first | (with_reducible exact Rem.here _ _) | (with_reducible apply Rem.there) | fail)); done) (fun e => ?_) (fun p T e => ?_)
  all_goals (subst e)
  all_goals (repeat' (first | refine sts ?_ | refine And.intro ?_ ?_ | (intro e; exfalso; omega) | (intro e; subst e) | intro _))
  all_goals exact rt1 () rfl⟩
instance (priority := high + 5) zt_use : Known Tryz.prog 11 (∀ (v : Value) (k : Int), SpecH Tryz.prog 11 #[v, .int .u32 k] [ZT v] (fun _ : Unit => .tuple #[.agg #[.bool false, .bool false, .int .u32 0], .int .i64 1]) (fun _ => [])) := ⟨fun v k => by
  refine spec_of Tryz.func11 rfl Tryz.ntmps11 rfl [(0, _), (1, _)] rfl ?_; intro base F l0 hl0; (try simp only [List.cons_append] at hl0); (try simp only [List.nil_append] at hl0); subst hl0
  repeat' (first | refine sts ?_ | refine And.intro ?_ ?_ | (intro e; exfalso; omega) | (intro e; subst e) | intro _)
  exact ra2 () rfl⟩
instance (priority := high + 5) zt_has : Known Tryz.prog 13 (∀ (v : Value) (k : Int), SpecH Tryz.prog 13 #[v, .int .u32 k] [ZT v] (fun _ : Unit => .bool false) (fun _ => [])) := ⟨fun v k => by
  refine spec_of Tryz.func13 rfl Tryz.ntmps13 rfl [(0, _), (1, _)] rfl ?_; intro base F l0 hl0; (try simp only [List.cons_append] at hl0); (try simp only [List.nil_append] at hl0); subst hl0
  repeat' (first | refine sts ?_ | refine And.intro ?_ ?_ | (intro e; exfalso; omega) | (intro e; subst e) | intro _)
  exact rt1 () rfl⟩
instance (priority := high + 5) zt_drop : Known Tryz.prog 14 (∀ (v : Value) (k : Int), SpecH Tryz.prog 14 #[v, .int .u32 k] [ZT v] (fun _ : Unit => .tuple #[.bool false, .int .i64 1]) (fun _ => [])) := ⟨fun v k => by
  refine spec_of Tryz.func14 rfl Tryz.ntmps14 rfl [(0, _), (1, _)] rfl ?_; intro base F l0 hl0; (try simp only [List.cons_append] at hl0); (try simp only [List.nil_append] at hl0); subst hl0
  repeat' (first | refine sts ?_ | refine And.intro ?_ ?_ | (intro e; exfalso; omega) | (intro e; subst e) | intro _)
  exact rt2 () rfl⟩
instance (priority := high + 5) zt_len : Known Tryz.prog 15 (∀ (v : Value), SpecH Tryz.prog 15 #[v] [ZT v] (fun _ : Unit => .int .i64 0) (fun _ => [])) := ⟨fun v => by
  refine spec_of Tryz.func15 rfl Tryz.ntmps15 rfl [(0, _)] rfl ?_; intro base F l0 hl0; (try simp only [List.cons_append] at hl0); (try simp only [List.nil_append] at hl0); subst hl0
  repeat' (first | refine sts ?_ | refine And.intro ?_ ?_ | (intro e; exfalso; omega) | (intro e; subst e) | intro _)
  exact rt1 () rfl⟩
instance (priority := high + 5) zt_size : Known Tryz.prog 20 (∀ (v : Value), SpecH Tryz.prog 20 #[v] [ZT v] (fun _ : Unit => .int .i64 0) (fun _ => [])) := ⟨fun v => by
  refine spec_of Tryz.func20 rfl Tryz.ntmps20 rfl [(0, _)] rfl ?_; intro base F l0 hl0; (try simp only [List.cons_append] at hl0); (try simp only [List.nil_append] at hl0); subst hl0
  repeat' (first | refine sts ?_ | refine And.intro ?_ ?_ | (intro e; exfalso; omega) | (intro e; subst e) | intro _)
  exact rt1 () rfl⟩
instance (priority := high + 5) zt_guess : Known Tryz.prog 12 (∀ (v : Value) (k : Int), SpecH Tryz.prog 12 #[v, .int .u32 k] [ZT v] (fun _ : Unit => .int .i64 0) (fun _ => [])) := ⟨fun v k => by
  refine spec_of Tryz.func12 rfl Tryz.ntmps12 rfl [(0, _), (1, _)] rfl ?_; intro base F l0 hl0; (try simp only [List.cons_append] at hl0); (try simp only [List.nil_append] at hl0); subst hl0
  repeat' (first | refine sts ?_ | refine And.intro ?_ ?_ | (intro e; exfalso; omega) | (intro e; subst e) | intro _)
  exact rt1 () rfl⟩
instance (priority := high + 5) zt_lists : Known Tryz.prog 10 (∀ (v : Value), SpecH Tryz.prog 10 #[v] [ZT v] (fun _ : Unit => .tuple #[.slice none 0 0, .slice none 0 0, .slice none 0 0]) (fun _ => [])) := ⟨fun v => by
  refine spec_of_m Tryz.func10 rfl Tryz.ntmps10 rfl [(0, _)] rfl ?_; intro base F l0 hl0; (try simp only [List.cons_append] at hl0); (try simp only [List.nil_append] at hl0); subst hl0
  refine tc_ztPtr (v := v) (by (repeat (first | (with_reducible exact Rem.here _ _) | (with_reducible apply Rem.there) | fail)); done) fun o ho => ?_
  subst ho
  repeat' (first | refine sts ?_ | refine And.intro ?_ ?_ | (intro e; exfalso; omega) | (intro e; subst e) | intro _)
  exact rmv3 () rfl⟩
instance (priority := high + 5) zt_copy : Known Tryz.prog 22 (∀ (v : Value), SpecH Tryz.prog 22 #[v] [ZT v] (fun _ : Unit => .pointer none) (fun _ => [])) := ⟨fun v => by
  refine spec_of Tryz.func22 rfl Tryz.ntmps22 rfl [(0, _)] rfl ?_; intro base F l0 hl0; (try simp only [List.cons_append] at hl0); (try simp only [List.nil_append] at hl0); subst hl0
  repeat' (first | refine sts ?_ | refine And.intro ?_ ?_ | (intro e; exfalso; omega) | (intro e; subst e) | intro _)
  exact rt1 () rfl⟩
theorem zt_same : Known Tryz.prog 54 (SpecH Tryz.prog 54 #[.slice none 0 0, .slice none 0 0] [] (fun _ : Unit => .bool true) (fun _ => [])) := ⟨by
  refine spec_of Tryz.func54 rfl Tryz.ntmps54 rfl [(0, _), (1, _)] rfl ?_; intro base F l0 hl0; (try simp only [List.cons_append] at hl0); (try simp only [List.nil_append] at hl0); subst hl0
  repeat' (first | refine sts ?_ | refine And.intro ?_ ?_ | (intro e; exfalso; omega) | (intro e; subst e) | intro _)
  refine tc_lp (ι := Unit) [5] (fun e _ => (5, .int .i64 (0 : Nat)) :: e) (fun _ => [F]) (fun _ => 0) () ?_
  rintro K _ hK
  repeat' (first | refine sts ?_ | refine And.intro ?_ ?_ | (intro e; exfalso; omega) | (intro e; subst e) | intro _)
  exact rt1 () rfl⟩
instance (priority := high + 5) zt_listsL : Known Tryz.prog 21 (∀ (v : Value), SpecH Tryz.prog 21 #[v, .slice none 0 0, .slice none 0 0, .slice none 0 0] [ZT v] (fun _ : Unit => .bool true) (fun _ => [])) := ⟨fun v => by
  haveI := zt_same
  refine spec_of Tryz.func21 rfl Tryz.ntmps21 rfl [(0, _), (1, _), (2, _), (3, _)] rfl ?_; intro base F l0 hl0; (try simp only [List.cons_append] at hl0); (try simp only [List.nil_append] at hl0); subst hl0
  repeat' (first | refine sts ?_ | refine And.intro ?_ ?_ | (intro e; exfalso; omega) | (intro e; subst e) | intro _)
  exact rt1 () rfl⟩
set_option maxRecDepth 20000 in
set_option maxHeartbeats 8000000 in
theorem tyl_none (k : Int) : SpecH Tryz.prog 7 #[.int .u32 k] [] (fun _ : Unit => .bool true) (fun _ => []) := by
  refine spec_of Tryz.func7 rfl Tryz.ntmps7 rfl [(0, _)] rfl ?_; intro base F l0 hl0; (try simp only [List.cons_append] at hl0); (try simp only [List.nil_append] at hl0); subst hl0
  repeat' (first | refine sts ?_ | refine And.intro ?_ ?_ | (intro e; exfalso; omega) | (intro e; subst e) | intro _)
  rename_i b1 b2
  refine ZT.mk (p := b1) ?_
  refine tc_lp (ι := {i : Nat // i ≤ 2}) [15] (fun e i => (15, .int .i64 (i.1 : Nat)) :: e) (fun _ => [ZT (.pointer (some ⟨b1, 0, none⟩)), Vec 26 1 (some ⟨b2, 0, none⟩) 2 2 [.pointer none, .pointer (some ⟨b1, 0, none⟩)], F]) (fun i => 2 - i.1) ⟨0, by omega⟩ ?_
  rintro K ⟨i, hi⟩ hK
  dsimp only
  by_cases hc : i < 2
  · refine tc_ztTwo (p := b1) hc ?_
    repeat' (first | refine sts ?_ | refine And.intro ?_ ?_ | (intro e; exfalso; omega) | (intro e; subst e) | intro _)
    generalize two (.pointer none) (.pointer (some ⟨b1, 0, none⟩)) i = v
    repeat' (first | refine sts ?_ | refine And.intro ?_ ?_ | (intro e; exfalso; omega) | (intro e; subst e) | intro _)
    exact again hK ⟨i + 1, by omega⟩
  · obtain rfl : i = 2 := by omega
    repeat' (first | refine sts ?_ | refine And.intro ?_ ?_ | (intro e; exfalso; omega) | (intro e; subst e) | intro _)
    exact rt1 () rfl
end Go.Proofs.YtdpiglociolagaaGreat
