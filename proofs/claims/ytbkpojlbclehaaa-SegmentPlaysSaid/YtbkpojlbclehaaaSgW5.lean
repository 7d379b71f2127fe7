/- segment, walked: questions. -/
import Derived.Test.YtbkpojlbclehaaaSgW4
import Derived.Test.YtbkpojlbclehaaaSlD
namespace Go.Sg
open Go.Sl
/-- The slots of a segment, or of none. -/
structure ListG (g : Int) (P T X : List It) : Prop where
  out : (g = 0 ∧ X = P) ∨ (g = 1 ∧ X = T) ∨ ((g < 0 ∨ 1 < g) ∧ X = [])
/-- Slots with costs, as cells. -/
abbrev wrow (X : List It) (i : Nat) : List Value := [.int .u32 ((X.getD i (0, 0)).1 : Nat), .int .i64 ((X.getD i (0, 0)).2 : Nat)]
instance (X : List It) : Width (wrow X) 2 := ⟨fun _ => rfl⟩
instance (X : List It) (a : Nat) : PlC (wrow X a) := by dsimp only [wrow]; infer_instance
abbrev wc (X : List It) : List Value := rows X.length (wrow X)
theorem wc_eq {X : List It} : wc X = X.flatMap fun x => [.int .u32 (x.1 : Nat), .int .i64 (x.2 : Nat)] := by
  unfold wc rows
  rw [List.flatMap_def, List.flatMap_def]
  congr 1
  refine List.ext_getElem (by simp) fun j h1 h2 => ?_
  simp only [List.length_map, List.length_range] at h1
  simp only [List.getElem_map, List.getElem_range, wrow]
  rw [List.getD_eq_getElem?_getD, List.getElem?_eq_getElem h1]; rfl
theorem wc_snoc {X : List It} {x : It} : wc (X ++ [x]) = wc X ++ [.int .u32 (x.1 : Nat), .int .i64 (x.2 : Nat)] := by
  rw [wc_eq, wc_eq, List.flatMap_append]; rfl
theorem wc_nil : wc [] = [] := rfl
end Go.Sg
namespace Go.Proofs.Ytbkpojlbclehaaa
open Go.Lk Go.Sl Go.Lr Go.Sg
attribute [local irreducible] TK TL TC Th Bk Nx fnPost WA TQ OpQ OpN SpecH Rd Ent IterH RoundH Rb Rp fnPostM
attribute [local irreducible] Fld.addE Fld.addF Fld.befE Fld.befF Fld.inE Fld.remF Fld.first Fld.last Fld.next Fld.prev Fld.ofR Fld.listOf Fld.joinE Fld.joinF renE renG Fld.at Fld.set Fld.place
attribute [local irreducible] Lr.addL Lr.addE Lr.useL Lr.remE Sg.sm Sg.sl Sg.rm Sg.demN
/-- Whether a number is a segment's. -/
structure HasG (g : Int) (b : Bool) : Prop where
  out : decide (0 ≤ g ∧ g ≤ 1) = b
instance sg_has : Known Try.prog 55 (∀ (p : Nat) (P T : List It) (L g : Int) (b : Bool), HasG g b → SpecH Try.prog 55 #[.pointer (some ⟨p, 0, none⟩), .int .i64 g] [SegX p P T L] (fun _ : Unit => .bool b) (fun _ => [SegX p P T L])) := ⟨fun p P T L g b hb => by
  have hb := hb.out
  have hc : Chk 0 0 0 := ⟨rfl⟩
  refine spec_of Try.func55 rfl Try.ntmps55 rfl [(0, _), (1, _)] rfl ?_; intro base F l0 hl0; (try simp only [List.cons_append] at hl0); (try simp only [List.nil_append] at hl0); subst hl0
  by_cases h : 0 ≤ g ∧ g ≤ 1
  · rw [decide_eq_true h] at hb
    subst hb
    obtain ⟨h1, h2⟩ := h
    repeat' (first | refine stw ?_ | refine And.intro ?_ ?_ | (intro e; exfalso; omega) | (intro e; subst e) | intro _)
    exact rt1 () rfl
  · rw [decide_eq_false h] at hb
    subst hb
    by_cases h1 : 0 ≤ g
    · have h2 : ¬ g ≤ 1 := fun x => h ⟨h1, x⟩
      clear h
      repeat' (first | refine stw ?_ | refine And.intro ?_ ?_ | (intro e; exfalso; omega) | (intro e; subst e) | intro _)
      exact rt1 () rfl
    · clear h
      repeat' (first | refine stw ?_ | refine And.intro ?_ ?_ | (intro e; exfalso; omega) | (intro e; subst e) | intro _)
      exact rt1 () rfl⟩
instance sg_cost : Known Try.prog 24 (∀ (p : Nat) (P T : List It) (L g : Int) (X : List It), ListG g P T X → SpecH Try.prog 24 #[.pointer (some ⟨p, 0, none⟩), .int .i64 g] [SegAt p P T L] (fun _ : Unit => .int .i64 (sm X : Nat)) (fun _ => [SegAt p P T L])) := ⟨fun p P T L g X hg => by
  refine spec_of Try.func24 rfl Try.ntmps24 rfl [(0, _), (1, _)] rfl ?_; intro base F l0 hl0; (try simp only [List.cons_append] at hl0); (try simp only [List.nil_append] at hl0); subst hl0
  refine SegAt.openC fun st => ?_
  rcases hg.out with ⟨rfl, rfl⟩ | ⟨rfl, rfl⟩ | ⟨h, rfl⟩
  · have hb : HasG 0 true := ⟨rfl⟩
    repeat' (first | refine stw ?_ | refine And.intro ?_ ?_ | (intro e; exfalso; omega) | (intro e; subst e) | intro _)
    refine SegX.openL fun l0 l1 m kv iv cm => ?_
    repeat' (first | refine stw ?_ | refine And.intro ?_ ?_ | (intro e; exfalso; omega) | (intro e; subst e) | intro _)
    exact rt1 () rfl (he := (en2 (SegX.shut iv cm)).trans (en2 (SegAt.shut st)))
  · have hb : HasG 1 true := ⟨rfl⟩
    repeat' (first | refine stw ?_ | refine And.intro ?_ ?_ | (intro e; exfalso; omega) | (intro e; subst e) | intro _)
    refine SegX.openL fun l0 l1 m kv iv cm => ?_
    repeat' (first | refine stw ?_ | refine And.intro ?_ ?_ | (intro e; exfalso; omega) | (intro e; subst e) | intro _)
    exact rt1 () rfl (he := (en2 (SegX.shut iv cm)).trans (en2 (SegAt.shut st)))
  · have hb : HasG g false := ⟨decide_eq_false (fun x => by omega)⟩
    rw [sm_nil]
    repeat' (first | refine stw ?_ | refine And.intro ?_ ?_ | (intro e; exfalso; omega) | (intro e; subst e) | intro _)
    exact rt1 () rfl (he := en2 (SegAt.shut st))⟩
instance sg_len : Known Try.prog 18 (∀ (p : Nat) (P T : List It) (L g : Int) (X : List It), ListG g P T X → SpecH Try.prog 18 #[.pointer (some ⟨p, 0, none⟩), .int .i64 g] [SegAt p P T L] (fun _ : Unit => .int .i64 (X.length : Nat)) (fun _ => [SegAt p P T L])) := ⟨fun p P T L g X hg => by
  refine spec_of Try.func18 rfl Try.ntmps18 rfl [(0, _), (1, _)] rfl ?_; intro base F l0 hl0; (try simp only [List.cons_append] at hl0); (try simp only [List.nil_append] at hl0); subst hl0
  refine SegAt.openC fun st => ?_
  have e := sl_len (l := X)
  rcases hg.out with ⟨rfl, rfl⟩ | ⟨rfl, rfl⟩ | ⟨h, rfl⟩
  · have hb : HasG 0 true := ⟨rfl⟩
    rw [← e]
    repeat' (first | refine stw ?_ | refine And.intro ?_ ?_ | (intro e; exfalso; omega) | (intro e; subst e) | intro _)
    refine SegX.openL fun l0 l1 m kv iv cm => ?_
    repeat' (first | refine stw ?_ | refine And.intro ?_ ?_ | (intro e; exfalso; omega) | (intro e; subst e) | intro _)
    exact rt1 () rfl (he := (en2 (SegX.shut iv cm)).trans (en2 (SegAt.shut st)))
  · have hb : HasG 1 true := ⟨rfl⟩
    rw [← e]
    repeat' (first | refine stw ?_ | refine And.intro ?_ ?_ | (intro e; exfalso; omega) | (intro e; subst e) | intro _)
    refine SegX.openL fun l0 l1 m kv iv cm => ?_
    repeat' (first | refine stw ?_ | refine And.intro ?_ ?_ | (intro e; exfalso; omega) | (intro e; subst e) | intro _)
    exact rt1 () rfl (he := (en2 (SegX.shut iv cm)).trans (en2 (SegAt.shut st)))
  · have hb : HasG g false := ⟨decide_eq_false (fun x => by omega)⟩
    repeat' (first | refine stw ?_ | refine And.intro ?_ ?_ | (intro e; exfalso; omega) | (intro e; subst e) | intro _)
    exact rt1 () rfl (he := en2 (SegAt.shut st))⟩
end Go.Proofs.Ytbkpojlbclehaaa
