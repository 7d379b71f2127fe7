/- The laws of ghost, walked: adds, equal, the examples of the chapter. -/
import Derived.Test.YtbdiabakcgafgaaGhW5
import Derived.Test.YtbdiabakcgafgaaGhR1
import Derived.Test.YtbdiabakcgafgaaSlX
namespace Go.Proofs.Ytbdiabakcgafgaa
open Go.Lk Go.Sl Go.Gh
attribute [local irreducible] TK TL TC Th Bk Nx fnPost WA TQ OpQ OpN SpecH Rd Ent IterH RoundH Rb Rp fnPostM
instance adds_spec : Known Try.prog 15 (∀ (p most : Nat) (L : List Nat) (xk : Int) (k : Nat) [NatI xk k] (xo : Int) (o : Nat) [NatI xo o] (left : Bool), k < 4294967296 → L.length ≤ most → SpecH Try.prog 15 #[.pointer (some ⟨p, 0, none⟩), .int .u32 xk, .int .u32 xo, .bool left] [GhostAt p most L] (fun _ : Unit => .bool (decide (addV most L k = o ∧ addB most L k = left))) (fun _ => [GhostAt p most (addL most L k)])) := ⟨fun p most L xk k _ xo o _ left hk hl => by
  obtain rfl : xk = (k : Int) := NatI.out
  obtain rfl : xo = (o : Int) := NatI.out
  refine spec_of Try.func15 rfl Try.ntmps15 rfl [(0, _), (1, _), (2, _), (3, _)] rfl ?_; intro base F l0 hl0; (try simp only [List.cons_append] at hl0); (try simp only [List.nil_append] at hl0); subst hl0
  by_cases hv : addV most L k = o <;> by_cases hb : addB most L k = left
  · rw [decide_eq_true ⟨hv, hb⟩]
    repeat' (first | refine stx ?_ | refine And.intro ?_ ?_ | (intro e; exfalso; omega) | (intro e; subst e) | intro _)
    exact rt1 () rfl
  · rw [decide_eq_false (fun h => hb h.2)]
    repeat' (first | refine stx ?_ | refine And.intro ?_ ?_ | (intro e; exfalso; omega) | (intro e; subst e) | intro _)
    exact rt1 () rfl
  · rw [decide_eq_false (fun h => hv h.1)]
    repeat' (first | refine stx ?_ | refine And.intro ?_ ?_ | (intro e; exfalso; omega) | (intro e; subst e) | intro _)
    exact rt1 () rfl
  · rw [decide_eq_false (fun h => hv h.1)]
    repeat' (first | refine stx ?_ | refine And.intro ?_ ?_ | (intro e; exfalso; omega) | (intro e; subst e) | intro _)
    exact rt1 () rfl⟩
set_option maxRecDepth 20000 in
set_option maxHeartbeats 8000000 in
instance gknown_spec : Known Try.prog 13 (SpecH Try.prog 13 #[] [] (fun _ : Unit => .bool true) (fun _ => [])) := ⟨by
  refine spec_of Try.func13 rfl Try.ntmps13 rfl [] rfl ?_; intro base F l0 hl0; (try simp only [List.cons_append] at hl0); (try simp only [List.nil_append] at hl0); subst hl0
  repeat' (first | refine stxD ?_ | refine And.intro ?_ ?_ | (intro e; subst e) | intro _)
  refine call (g_resize_bad _ _ _ (-1) (by omega)) ?_
  repeat' (first | refine stxD ?_ | refine And.intro ?_ ?_ | (intro e; subst e) | intro _)
  exact rt1 () rfl⟩
theorem rg_sameT : Known Try.prog 51 (∀ (a a2 : Option Addr) (m m2 c c2 : Nat) (cs cs2 : List Value) (xs : List Nat), AsU cs xs → AsU cs2 xs → m = xs.length → m2 = xs.length → m ≤ 4194304 → SpecH Try.prog 51 #[.slice a m c, .slice a2 m2 c2] [RoS 1 a m c cs, RoS 1 a2 m2 c2 cs2] (fun _ : Unit => .bool true) (fun _ => [])) := ⟨fun a a2 m m2 c c2 cs cs2 xs h1 h2 h3 h4 h5 => by
  have := rg_same.out a a2 m m2 c c2 cs cs2 xs xs h1 h2 h3 h4 h5 (by omega)
  rw [decide_eq_true rfl] at this
  exact this⟩
set_option maxHeartbeats 4000000 in
instance gequal_spec : Known Try.prog 20 (∀ (p M : Nat) (L : List Nat) (a : Option Addr) (m c : Nat) (xk : Int) (k : Nat) [NatI xk k], m = L.length → SpecH Try.prog 20 #[.pointer (some ⟨p, 0, none⟩), .agg #[.int .i64 M, .slice a m c], .int .u32 xk] [GhostAt p M L, RoS 1 a m c (u32s L)] (fun _ : Unit => .bool true) (fun _ => [GhostAt p M L])) := ⟨fun p M L a m c xk k _ hm => by
  obtain rfl : xk = (k : Int) := NatI.out
  subst hm
  refine spec_of Try.func20 rfl Try.ntmps20 rfl [(0, _), (1, _), (2, _)] rfl ?_; intro base F l0 hl0; (try simp only [List.cons_append] at hl0); (try simp only [List.nil_append] at hl0); subst hl0
  refine GhostAt.factsC fun hnd hlt hll hmm => ?_
  haveI := rg_sameT
  repeat' (first | ((fail_if_success (refine atD ?_)); refine stx ?_) | refine And.intro ?_ ?_ | (intro e; exfalso; omega) | (intro e; subst e) | intro _)
  refine drx [GhostAt p M L] ?_
  refine tks [0, 2, 3] 27 ?_; repeat' (first | refine stx ?_ | refine And.intro ?_ ?_ | (intro e; exfalso; omega) | (intro e; subst e) | intro _)
  refine hv 1 fun x1 => ?_
  refine hv 4 fun x4 => ?_
  refine tks [5, 6, 8, 9, 10] 20 ?_; repeat' (first | refine stx ?_ | refine And.intro ?_ ?_ | (intro e; exfalso; omega) | (intro e; subst e) | intro _)
  refine hv 7 fun x7 => ?_
  refine tks [11, 12, 13, 14, 16, 17] 13 ?_; repeat' (first | refine stx ?_ | refine And.intro ?_ ?_ | (intro e; exfalso; omega) | (intro e; subst e) | intro _)
  refine hv 15 fun x15 => ?_
  refine tks [18, 19, 20, 21, 22, 24, 25] 5 ?_; repeat' (first | refine stx ?_ | refine And.intro ?_ ?_ | (intro e; exfalso; omega) | (intro e; subst e) | intro _)
  refine hv 23 fun x23 => ?_
  refine hv 26 fun x26 => ?_
  refine tks [27, 28, 29] 0 ?_; repeat' (first | refine stx ?_ | refine And.intro ?_ ?_ | (intro e; exfalso; omega) | (intro e; subst e) | intro _)
  exact rt1 () rfl⟩
end Go.Proofs.Ytbdiabakcgafgaa
