/- The laws of reuse, walked: the examples of the chapter. -/
import Derived.Test.YtbkpojlbclehaaaRuW5
import Derived.Test.YtbkpojlbclehaaaRuR2
namespace Go.Ru
/-- The trace of the examples. -/
def G9 : List Nat := [1, 2, 3, 1, 1, 3, 2, 4, 1]
theorem g9_len : G9.length = 9 := rfl
theorem g9_lt : ∀ k ∈ G9, k < 4294967296 := by decide
theorem g9_d : dL G9 9 = [-1, -1, -1, 2, 0, 1, 2, -1, 3] := by decide +kernel
theorem g9_s : stk G9 9 = [1, 4, 2, 3] := by decide +kernel
theorem g9_h : hitsL G9 4 = [0, 1, 2, 4, 5] := by decide +kernel
/-- Whether two lists are the same. -/
structure SameB (xs ys : List Nat) (b : Bool) : Prop where
  out : decide (xs = ys) = b
structure SameBI (xs ys : List Int) (b : Bool) : Prop where
  out : decide (xs = ys) = b
/-- What Least answers. -/
def LeastB (z w e : Int) : Prop := (z < 0 ∧ w = 0 ∧ e = 2) ∨ (0 ≤ z ∧ ∃ m, At [0, 1, 2, 4, 5] z m ∧ w = (if m = 5 then 0 else m : Nat) ∧ e = (if m = 5 then 9 else 0))
theorem at_of {zs : List Int} {t : Int} {n : Nat} (h1 : n ≤ zs.length) (h : ∀ j, j < zs.length → if j < n then zs.getD j 0 < t else t ≤ zs.getD j 0) : At zs t n := ⟨h1, fun j hj => by
  have := h j (by omega)
  rwa [if_pos hj] at this, fun j hj h2 => by
  have := h j h2
  rwa [if_neg (by omega)] at this⟩
theorem least_of {z : Int} {m : Nat} (h0 : 0 ≤ z) (h1 : m ≤ 5) (h : ∀ j, j < 5 → if j < m then ([0, 1, 2, 4, 5] : List Int).getD j 0 < z else z ≤ ([0, 1, 2, 4, 5] : List Int).getD j 0) : LeastB z (if m = 5 then 0 else m : Nat) (if m = 5 then 9 else 0) := .inr ⟨h0, m, at_of h1 h, rfl, rfl⟩
end Go.Ru
namespace Go.Proofs.Ytbkpojlbclehaaa
open Go.Lk Go.Sl Go.Ru
attribute [local irreducible] TK TL TC Th Bk Nx fnPost WA TQ OpQ OpN SpecH Rd Ent IterH RoundH Rb Rp fnPostM
attribute [local irreducible] Ru.S Ru.D Ru.lb Ru.upd Ru.cnt Ru.cat Ru.dd Ru.stk Ru.rv Ru.hitsL Ru.ks Ru.ix Ru.LI Ru.G9 Ru.dL
instance rul_given : Known Try.prog 75 (SpecH Try.prog 75 #[] [] (fun b : Nat => .slice (some ⟨b, 0, none⟩) 9 9) (fun b => [RoS 1 (some ⟨b, 0, none⟩) 9 9 (u32s G9)])) := ⟨by
  have e : u32s G9 = [.int .u32 1, .int .u32 2, .int .u32 3, .int .u32 1, .int .u32 1, .int .u32 3, .int .u32 2, .int .u32 4, .int .u32 1] := by unfold G9; rfl
  rw [e]
  refine spec_of Try.func75 rfl Try.ntmps75 rfl [] rfl ?_; intro base F l0 hl0; (try simp only [List.cons_append] at hl0); (try simp only [List.nil_append] at hl0); subst hl0
  repeat' (first | refine stw ?_ | refine And.intro ?_ ?_ | (intro e; exfalso; omega) | (intro e; subst e) | intro _)
  rename_i b
  refine frz (some ⟨b, 0, none⟩) ?_
  exact rt1 b rfl⟩
instance rul_gdist : Known Try.prog 38 (∀ (a : Option Addr), SpecH Try.prog 38 #[.slice a 9 9] [RoS 1 a 9 9 (u32s G9)] (fun q : Option Addr × Nat => .tuple #[.slice q.1 9 q.2, .int .i64 0]) (fun q => [RoS 1 q.1 9 q.2 (intsV .i64 [-1, -1, -1, 2, 0, 1, 2, -1, 3])])) := ⟨fun a => by
  have h := ru_dists.out a 9 9 G9 g9_len.symm (by omega) g9_lt
  rwa [g9_d] at h⟩
instance rul_ghits : Known Try.prog 44 (∀ (a : Option Addr), SpecH Try.prog 44 #[.slice a 9 9] [RoS 1 a 9 9 (u32s G9)] (fun q : Option Addr × Nat => .tuple #[.slice q.1 5 q.2, .int .i64 0]) (fun q => [RoS 1 q.1 5 q.2 (intsV .i64 [0, 1, 2, 4, 5])])) := ⟨fun a => by
  have h := ru_hits.out a 9 9 G9 g9_len.symm (by omega) g9_lt
  rwa [g9_s, show ([1, 4, 2, 3] : List Nat).length = 4 from rfl, g9_h] at h⟩
instance rul_gstack : Known Try.prog 39 (∀ (a : Option Addr), SpecH Try.prog 39 #[.slice a 9 9] [RoS 1 a 9 9 (u32s G9)] (fun q : Option Addr × Nat => .tuple #[.slice q.1 4 q.2, .int .i64 0]) (fun q => [RoS 1 q.1 4 q.2 (u32s [1, 4, 2, 3])])) := ⟨fun a => by
  have h := ru_stack.out a 9 9 G9 g9_len.symm (by omega) g9_lt
  rwa [g9_s] at h⟩
theorem rr_sameB : Known Try.prog 42 (∀ (a a2 : Option Addr) (m m2 c c2 : Nat) (cs cs2 : List Value) (xs ys : List Nat) (b : Bool), AsU cs xs → AsU cs2 ys → SameB xs ys b → m = xs.length → m2 = ys.length → m ≤ 4194304 → m2 ≤ 4194304 → SpecH Try.prog 42 #[.slice a m c, .slice a2 m2 c2] [RoS 1 a m c cs, RoS 1 a2 m2 c2 cs2] (fun _ : Unit => .bool b) (fun _ => [])) := ⟨fun a a2 m m2 c c2 cs cs2 xs ys b h1 h2 hb h3 h4 h5 h6 => by
  have := rr_same.out a a2 m m2 c c2 cs cs2 xs ys h1 h2 h3 h4 h5 h6
  rwa [hb.out] at this⟩
theorem rr_intsB : Known Try.prog 40 (∀ (a a2 : Option Addr) (m m2 c c2 : Nat) (cs cs2 : List Value) (xs ys : List Int) (b : Bool), AsI cs xs → AsI cs2 ys → SameBI xs ys b → m = xs.length → m2 = ys.length → m ≤ 4194304 → m2 ≤ 4194304 → SpecH Try.prog 40 #[.slice a m c, .slice a2 m2 c2] [RoS 1 a m c cs, RoS 1 a2 m2 c2 cs2] (fun _ : Unit => .bool b) (fun _ => [])) := ⟨fun a a2 m m2 c c2 cs cs2 xs ys b h1 h2 hb h3 h4 h5 h6 => by
  have := rr_ints.out a a2 m m2 c c2 cs cs2 xs ys h1 h2 h3 h4 h5 h6
  rwa [hb.out] at this⟩
instance rul_least : Known Try.prog 76 (∀ (z w e : Int), LeastB z w e → SpecH Try.prog 76 #[.int .i64 z, .int .i64 w, .int .i64 e] [] (fun _ : Unit => .bool true) (fun _ => [])) := ⟨fun z w e h => by
  rcases h with ⟨h1, rfl, rfl⟩ | ⟨h0, m, hm, rfl, rfl⟩
  · haveI : Known Try.prog 46 (∀ (a : Option Addr), SpecH Try.prog 46 #[.slice a 9 9, .int .i64 z] [RoS 1 a 9 9 (u32s G9)] (fun _ : Unit => .tuple #[.int .i64 0, .int .i64 2]) (fun _ => [])) := ⟨fun a => ru_least_neg a 9 9 G9 z g9_len.symm (by omega) g9_lt h1⟩
    refine spec_of Try.func76 rfl Try.ntmps76 rfl [(0, _), (1, _), (2, _)] rfl ?_; intro base F l0 hl0; (try simp only [List.cons_append] at hl0); (try simp only [List.nil_append] at hl0); subst hl0
    repeat' (first | refine stw ?_ | refine And.intro ?_ ?_ | (intro e; exfalso; omega) | (intro e; subst e) | intro _)
    exact rt1 () rfl
  · have hK : (stk G9 G9.length).length = 4 := by rw [g9_len, g9_s]; rfl
    have hL : ∀ a : Option Addr, SpecH Try.prog 46 #[.slice a 9 9, .int .i64 z] [RoS 1 a 9 9 (u32s G9)] (fun _ : Unit => .tuple #[.int .i64 (if m = 5 then 0 else m : Nat), .int .i64 (if m = 5 then 9 else 0)]) (fun _ => []) := fun a => by
      have := ru_least a 9 9 G9 z m g9_len.symm (by omega) g9_lt h0 (by rw [hK, g9_h]; exact hm)
      rwa [hK] at this
    generalize (if m = 5 then 0 else m : Nat) = w at hL ⊢
    generalize (if m = 5 then (9 : Int) else 0) = e at hL ⊢
    haveI : Known Try.prog 46 (∀ (a : Option Addr), SpecH Try.prog 46 #[.slice a 9 9, .int .i64 z] [RoS 1 a 9 9 (u32s G9)] (fun _ : Unit => .tuple #[.int .i64 (w : Nat), .int .i64 e]) (fun _ => [])) := ⟨hL⟩
    refine spec_of Try.func76 rfl Try.ntmps76 rfl [(0, _), (1, _), (2, _)] rfl ?_; intro base F l0 hl0; (try simp only [List.cons_append] at hl0); (try simp only [List.nil_append] at hl0); subst hl0
    repeat' (first | refine stw ?_ | refine And.intro ?_ ?_ | (intro e; exfalso; omega) | (intro e; subst e) | intro _)
    exact rt1 () rfl⟩
set_option maxHeartbeats 8000000 in
instance rul_known : Known Try.prog 37 (SpecH Try.prog 37 #[] [] (fun _ : Unit => .bool true) (fun _ => [])) := ⟨by
  haveI := rr_sameB
  haveI := rr_intsB
  have s1 : SameBI [-1, -1, -1, 2, 0, 1, 2, -1, 3] [-1, -1, -1, 2, 0, 1, 2, -1, 3] true := ⟨rfl⟩
  have s2 : SameBI [0, 1, 2, 4, 5] [0, 1, 2, 4, 5] true := ⟨rfl⟩
  have s3 : SameB [1, 4, 2, 3] [1, 4, 2, 3] true := ⟨rfl⟩
  have l1 : LeastB 0 0 0 := least_of (m := 0) (by decide) (by decide) (by decide)
  have l2 : LeastB 1 1 0 := least_of (m := 1) (by decide) (by decide) (by decide)
  have l3 : LeastB 3 3 0 := least_of (m := 3) (by decide) (by decide) (by decide)
  have l4 : LeastB 5 4 0 := least_of (m := 4) (by decide) (by decide) (by decide)
  have l5 : LeastB 6 0 9 := least_of (m := 5) (by decide) (by decide) (by decide)
  have l6 : LeastB (-1) 0 2 := .inl ⟨by decide, rfl, rfl⟩
  refine spec_of Try.func37 rfl Try.ntmps37 rfl [] rfl ?_; intro base F l0 hl0; (try simp only [List.cons_append] at hl0); (try simp only [List.nil_append] at hl0); subst hl0
  repeat' (first | refine stwD ?_ | refine And.intro ?_ ?_ | (intro e; subst e) | intro _)
  exact rt1 () rfl⟩
end Go.Proofs.Ytbkpojlbclehaaa
