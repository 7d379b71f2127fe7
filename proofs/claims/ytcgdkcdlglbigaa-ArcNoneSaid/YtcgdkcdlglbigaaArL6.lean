/- The laws of arc, walked: caches that are nil, or zero. -/
import Derived.Test.YtcgdkcdlglbigaaArL3
import Derived.Test.YtcgdkcdlglbigaaSlD
namespace Go.Proofs.Ytcgdkcdlglbigaa
open Go.Lk Go.Sl Go.Gh Go.Tb Go.Ar
/-- Nil, or zero. -/
def ZA (v : Value) : HP := fun h => (v = .pointer none ∧ h = fun _ => none) ∨ ∃ (p : Nat) (T : TypeId), v = .pointer (some ⟨p, 0, none⟩) ∧ cobj p T [.int .i64 0,.map none,.slice none 0 0,.slice none 0 0,.pointer none,.pointer none,.pointer none,.pointer none,.int .i64 0] h
instance (v : Value) : Pers (ZA v) := ⟨by
  rintro h (⟨_, rfl⟩ | ⟨p, T, _, hc⟩) k x hk
  · cases hk
  · exact (inferInstance : Pers (cobj p T [.int .i64 0,.map none,.slice none 0 0,.slice none 0 0,.pointer none,.pointer none,.pointer none,.pointer none,.int .i64 0])).out h hc k x hk⟩
section
variable {r0 : Option Nat} {P : Program} {base : World} {n : Nat} {ds : List Deferred} {Q : Exit → Act → World → Prop} {env : Env} {l r : List HP} {K : Act → World → Prop} {c : Code} {v : Value}
theorem ZA.caseK (hr : Rem l (ZA v) r) (h1 : v = .pointer none → TK base n ds K env l) (h2 : ∀ (p : Nat) (T : TypeId), v = .pointer (some ⟨p, 0, none⟩) → TK base n ds K env (cobj p T [.int .i64 0,.map none,.slice none 0 0,.slice none 0 0,.pointer none,.pointer none,.pointer none,.pointer none,.int .i64 0] :: l)) : TK base n ds K env l := fun a w ha hw => by
  obtain ⟨hh, hf, hl⟩ := hw.heap
  obtain ⟨x, y, hd, e, hx, hy⟩ := hr.keep hl
  rcases hx with ⟨e1, e2⟩ | ⟨p, T, e1, e2⟩
  · exact h1 e1 a w ha hw
  · exact h2 p T e1 a w ha ⟨hw.os, hw.tape, hw.output, hh, hf, x, y, hd, e, e2, hy⟩
theorem ZA.case (hr : Rem l (ZA v) r) (h1 : v = .pointer none → TC r0 P base n ds c Q env l) (h2 : ∀ (p : Nat) (T : TypeId), v = .pointer (some ⟨p, 0, none⟩) → TC r0 P base n ds c Q env (cobj p T [.int .i64 0,.map none,.slice none 0 0,.slice none 0 0,.pointer none,.pointer none,.pointer none,.pointer none,.int .i64 0] :: l)) : TC r0 P base n ds c Q env l := by unfold TC at *; exact ZA.caseK hr h1 h2
theorem ZA.mkNil (h : TC r0 P base n ds c Q env (ZA (.pointer none) :: l)) : TC r0 P base n ds c Q env l := by
  unfold TC at *
  exact TK.ent (l' := ZA (.pointer none) :: l) (fun x y => ⟨fun _ => none, x, fun _ => .inl rfl, by funext k; rfl, .inl ⟨rfl, rfl⟩, y⟩) h
theorem ZA.mk {p : Nat} {T : TypeId} (h : TC r0 P base n ds c Q env (ZA (.pointer (some ⟨p, 0, none⟩)) :: r)) (hr : Rem l (obj p T [.int .i64 0,.map none,.slice none 0 0,.slice none 0 0,.pointer none,.pointer none,.pointer none,.pointer none,.int .i64 0]) r := by (repeat (first | (with_reducible exact Rem.here _ _) | (with_reducible apply Rem.there) | fail)); done) : TC r0 P base n ds c Q env l := by
  unfold TC at *
  refine TK.share hr ?_
  exact TK.ent (l' := ZA (.pointer (some ⟨p, 0, none⟩)) :: r) (fun x y => lst_cons_mono (fun _ z => .inr ⟨p, T, rfl, z⟩) (fun _ z => z) y) h
end
theorem tc_zaTwo {r0 : Option Nat} {P : Program} {base : World} {n : Nat} {ds : List Deferred} {Q : Exit → Act → World → Prop} {env : Env} {l r : List HP} {c : Code} {p i : Nat} (hc : i < 2) (h : TC r0 P base n ds c Q env (ZA (two (.pointer none) (.pointer (some ⟨p, 0, none⟩)) i) :: l)) (hr : Rem l (ZA (.pointer (some ⟨p, 0, none⟩))) r := by (repeat (first | (with_reducible exact Rem.here _ _) | (with_reducible apply Rem.there) | fail)); done) : TC r0 P base n ds c Q env l := by
  match i, hc with
  | 0, _ => exact ZA.mkNil h
  | 1, _ =>
    unfold TC at *
    exact TK.ent (l' := ZA (two (.pointer none) (.pointer (some ⟨p, 0, none⟩)) 1) :: l) (fun x y => hr.keep y) h
attribute [local irreducible] TK TL TC Th Bk Nx fnPost WA TQ OpQ OpN SpecH Rd Ent IterH RoundH Rb Rp fnPostM
instance (priority := high + 5) za_zero : Known Try.prog 67 (∀ (v : Value), SpecH Try.prog 67 #[v] [ZA v] (fun _ : Unit => .bool true) (fun _ => [])) := ⟨fun v => by
  refine spec_of Try.func67 rfl Try.ntmps67 rfl [(0, _)] rfl ?_; intro base F l0 hl0; (try simp only [List.cons_append] at hl0); (try simp only [List.nil_append] at hl0); subst hl0
  refine ZA.case (by (repeat (first | (with_reducible exact Rem.here _ _) | (with_reducible apply Rem.there) | fail)); done) (fun e => ?_) (fun p T e => ?_)
  all_goals (subst e)
  all_goals (repeat' (first | refine sty ?_ | refine And.intro ?_ ?_ | (intro e; exfalso; omega) | (intro e; subst e) | intro _))
  all_goals exact rt1 () rfl⟩
instance (priority := high + 5) za_use : Known Try.prog 31 (∀ (v : Value) (k : Int), SpecH Try.prog 31 #[v, .int .u32 k] [ZA v] (fun _ : Unit => .tuple #[.agg #[.bool false, .bool false, .int .u32 0], .int .i64 1]) (fun _ => [])) := ⟨fun v k => by
  refine spec_of Try.func31 rfl Try.ntmps31 rfl [(0, _), (1, _)] rfl ?_; intro base F l0 hl0; (try simp only [List.cons_append] at hl0); (try simp only [List.nil_append] at hl0); subst hl0
  repeat' (first | refine sty ?_ | refine And.intro ?_ ?_ | (intro e; exfalso; omega) | (intro e; subst e) | intro _)
  exact ra2 () rfl⟩
instance (priority := high + 5) za_has : Known Try.prog 35 (∀ (v : Value) (k : Int), SpecH Try.prog 35 #[v, .int .u32 k] [ZA v] (fun _ : Unit => .bool false) (fun _ => [])) := ⟨fun v k => by
  refine spec_of Try.func35 rfl Try.ntmps35 rfl [(0, _), (1, _)] rfl ?_; intro base F l0 hl0; (try simp only [List.cons_append] at hl0); (try simp only [List.nil_append] at hl0); subst hl0
  repeat' (first | refine sty ?_ | refine And.intro ?_ ?_ | (intro e; exfalso; omega) | (intro e; subst e) | intro _)
  exact rt1 () rfl⟩
instance (priority := high + 5) za_drop : Known Try.prog 32 (∀ (v : Value) (k : Int), SpecH Try.prog 32 #[v, .int .u32 k] [ZA v] (fun _ : Unit => .tuple #[.bool false, .int .i64 1]) (fun _ => [])) := ⟨fun v k => by
  refine spec_of Try.func32 rfl Try.ntmps32 rfl [(0, _), (1, _)] rfl ?_; intro base F l0 hl0; (try simp only [List.cons_append] at hl0); (try simp only [List.nil_append] at hl0); subst hl0
  repeat' (first | refine sty ?_ | refine And.intro ?_ ?_ | (intro e; exfalso; omega) | (intro e; subst e) | intro _)
  exact rt2 () rfl⟩
instance (priority := high + 5) za_len : Known Try.prog 34 (∀ (v : Value), SpecH Try.prog 34 #[v] [ZA v] (fun _ : Unit => .int .i64 0) (fun _ => [])) := ⟨fun v => by
  refine spec_of Try.func34 rfl Try.ntmps34 rfl [(0, _)] rfl ?_; intro base F l0 hl0; (try simp only [List.cons_append] at hl0); (try simp only [List.nil_append] at hl0); subst hl0
  repeat' (first | refine sty ?_ | refine And.intro ?_ ?_ | (intro e; exfalso; omega) | (intro e; subst e) | intro _)
  exact rt1 () rfl⟩
instance (priority := high + 5) za_size : Known Try.prog 39 (∀ (v : Value), SpecH Try.prog 39 #[v] [ZA v] (fun _ : Unit => .int .i64 0) (fun _ => [])) := ⟨fun v => by
  refine spec_of Try.func39 rfl Try.ntmps39 rfl [(0, _)] rfl ?_; intro base F l0 hl0; (try simp only [List.cons_append] at hl0); (try simp only [List.nil_append] at hl0); subst hl0
  repeat' (first | refine sty ?_ | refine And.intro ?_ ?_ | (intro e; exfalso; omega) | (intro e; subst e) | intro _)
  exact rt1 () rfl⟩
instance (priority := high + 5) za_lists : Known Try.prog 33 (∀ (v : Value), SpecH Try.prog 33 #[v] [ZA v] (fun _ : Unit => .tuple #[.slice none 0 0, .slice none 0 0, .slice none 0 0, .slice none 0 0, .int .i64 0]) (fun _ => [])) := ⟨fun v => by
  refine spec_of Try.func33 rfl Try.ntmps33 rfl [(0, _)] rfl ?_; intro base F l0 hl0; (try simp only [List.cons_append] at hl0); (try simp only [List.nil_append] at hl0); subst hl0
  repeat' (first | refine sty ?_ | refine And.intro ?_ ?_ | (intro e; exfalso; omega) | (intro e; subst e) | intro _)
  exact rt5 () rfl en⟩
instance (priority := high + 5) za_copy : Known Try.prog 41 (∀ (v : Value), SpecH Try.prog 41 #[v] [ZA v] (fun _ : Unit => .pointer none) (fun _ => [])) := ⟨fun v => by
  refine spec_of Try.func41 rfl Try.ntmps41 rfl [(0, _)] rfl ?_; intro base F l0 hl0; (try simp only [List.cons_append] at hl0); (try simp only [List.nil_append] at hl0); subst hl0
  repeat' (first | refine sty ?_ | refine And.intro ?_ ?_ | (intro e; exfalso; omega) | (intro e; subst e) | intro _)
  exact rt1 () rfl⟩
theorem za_same : Known Try.prog 19 (SpecH Try.prog 19 #[.slice none 0 0, .slice none 0 0] [] (fun _ : Unit => .bool true) (fun _ => [])) := ⟨by
  refine spec_of Try.func19 rfl Try.ntmps19 rfl [(0, _), (1, _)] rfl ?_; intro base F l0 hl0; (try simp only [List.cons_append] at hl0); (try simp only [List.nil_append] at hl0); subst hl0
  repeat' (first | refine sty ?_ | refine And.intro ?_ ?_ | (intro e; exfalso; omega) | (intro e; subst e) | intro _)
  refine tc_lp (ι := Unit) [5] (fun e _ => (5, .int .i64 (0 : Nat)) :: e) (fun _ => [F]) (fun _ => 0) () ?_
  rintro K _ hK
  repeat' (first | refine sty ?_ | refine And.intro ?_ ?_ | (intro e; exfalso; omega) | (intro e; subst e) | intro _)
  exact rt1 () rfl⟩
instance (priority := high + 5) za_listsL : Known Try.prog 40 (∀ (v : Value), SpecH Try.prog 40 #[v, .slice none 0 0, .slice none 0 0, .slice none 0 0, .slice none 0 0, .int .i64 0] [ZA v] (fun _ : Unit => .bool true) (fun _ => [])) := ⟨fun v => by
  haveI := za_same
  refine spec_of Try.func40 rfl Try.ntmps40 rfl [(0, _), (1, _), (2, _), (3, _), (4, _), (5, _)] rfl ?_; intro base F l0 hl0; (try simp only [List.cons_append] at hl0); (try simp only [List.nil_append] at hl0); subst hl0
  repeat' (first | refine sty ?_ | refine And.intro ?_ ?_ | (intro e; exfalso; omega) | (intro e; subst e) | intro _)
  exact rt1 () rfl⟩
set_option maxRecDepth 20000 in
set_option maxHeartbeats 8000000 in
theorem arnone_spec (k : Int) : SpecH Try.prog 13 #[.int .u32 k] [] (fun _ : Unit => .bool true) (fun _ => []) := by
  refine spec_of Try.func13 rfl Try.ntmps13 rfl [(0, _)] rfl ?_; intro base F l0 hl0; (try simp only [List.cons_append] at hl0); (try simp only [List.nil_append] at hl0); subst hl0
  repeat' (first | refine sty ?_ | refine And.intro ?_ ?_ | (intro e; exfalso; omega) | (intro e; subst e) | intro _)
  rename_i b1 b2
  refine ZA.mk (p := b1) ?_
  refine tc_lp (ι := {i : Nat // i ≤ 2}) [15] (fun e i => (15, .int .i64 (i.1 : Nat)) :: e) (fun _ => [ZA (.pointer (some ⟨b1, 0, none⟩)), Vec 70 1 (some ⟨b2, 0, none⟩) 2 2 [.pointer none, .pointer (some ⟨b1, 0, none⟩)], F]) (fun i => 2 - i.1) ⟨0, by omega⟩ ?_
  rintro K ⟨i, hi⟩ hK
  dsimp only
  by_cases hc : i < 2
  · refine tc_zaTwo (p := b1) hc ?_
    repeat' (first | refine sty ?_ | refine And.intro ?_ ?_ | (intro e; exfalso; omega) | (intro e; subst e) | intro _)
    generalize two (.pointer none) (.pointer (some ⟨b1, 0, none⟩)) i = v
    repeat' (first | refine sty ?_ | refine And.intro ?_ ?_ | (intro e; exfalso; omega) | (intro e; subst e) | intro _)
    exact again hK ⟨i + 1, by omega⟩
  · obtain rfl : i = 2 := by omega
    repeat' (first | refine sty ?_ | refine And.intro ?_ ?_ | (intro e; exfalso; omega) | (intro e; subst e) | intro _)
    exact rt1 () rfl
end Go.Proofs.Ytcgdkcdlglbigaa
