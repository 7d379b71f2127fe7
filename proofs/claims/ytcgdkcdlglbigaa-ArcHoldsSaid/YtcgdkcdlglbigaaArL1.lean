/- The laws of arc, walked: what calls return; the examples of the chapter. -/
import Derived.Test.YtcgdkcdlglbigaaArW7
import Derived.Test.YtcgdkcdlglbigaaArR3
import Derived.Test.YtcgdkcdlglbigaaTqSt
namespace Go.Ar
open Go.Lk Go.Sl Go.Tb
/-- A request, and what is behind. -/
structure UseTo (size : Nat) (O E A B : List Nat) (t k : Nat) (O' E' A' B' : List Nat) (t' : Nat) (h b : Bool) (o : Nat) : Prop where
  q : (Ar.useS size ⟨O, E, A, B, t⟩ k).O = O' ∧ (Ar.useS size ⟨O, E, A, B, t⟩ k).F = E' ∧ (Ar.useS size ⟨O, E, A, B, t⟩ k).A = A' ∧ (Ar.useS size ⟨O, E, A, B, t⟩ k).B = B' ∧ (Ar.useS size ⟨O, E, A, B, t⟩ k).t = t'
  h : Ar.useH ⟨O, E, A, B, t⟩ k = h
  b : Ar.useL size ⟨O, E, A, B, t⟩ k = b
  o : Ar.useO size ⟨O, E, A, B, t⟩ k = o
end Go.Ar
namespace Go.Proofs.Ytcgdkcdlglbigaa
open Go.Lk Go.Sl Go.Gh Go.Tb Go.Ar
open Go.Tq (SameB DropTo)
attribute [local irreducible] TK TL TC Th Bk Nx fnPost WA TQ OpQ OpN SpecH Rd Ent IterH RoundH Rb Rp fnPostM
attribute [local irreducible] Ar.useS Ar.useL Ar.useO Ar.useH
instance arl_uses : Known Try.prog 64 (∀ (p size : Nat) (O E A B : List Nat) (t : Nat) (xk : Int) (k : Nat) [NatI xk k] (h b : Bool) (xo : Int) (o : Nat) [NatI xo o], k < 4294967296 → SpecH Try.prog 64 #[.pointer (some ⟨p, 0, none⟩), .int .u32 xk, .agg #[.bool h, .bool b, .int .u32 xo]] [ArcAt p size O E A B t] (fun _ : Unit => .bool (decide (Ar.useH ⟨O, E, A, B, t⟩ k = h ∧ Ar.useL size ⟨O, E, A, B, t⟩ k = b ∧ Ar.useO size ⟨O, E, A, B, t⟩ k = o))) (fun _ => [ArcAt p size (Ar.useS size ⟨O, E, A, B, t⟩ k).O (Ar.useS size ⟨O, E, A, B, t⟩ k).F (Ar.useS size ⟨O, E, A, B, t⟩ k).A (Ar.useS size ⟨O, E, A, B, t⟩ k).B (Ar.useS size ⟨O, E, A, B, t⟩ k).t])) := ⟨fun p size O E A B t xk k _ h b xo o _ hk => by
  obtain rfl : xk = (k : Int) := NatI.out
  obtain rfl : xo = (o : Int) := NatI.out
  refine spec_of Try.func64 rfl Try.ntmps64 rfl [(0, _), (1, _), (2, _)] rfl ?_; intro base F l0 hl0; (try simp only [List.cons_append] at hl0); (try simp only [List.nil_append] at hl0); subst hl0
  by_cases hu : Ar.useH ⟨O, E, A, B, t⟩ k = h ∧ Ar.useL size ⟨O, E, A, B, t⟩ k = b ∧ ((Ar.useO size ⟨O, E, A, B, t⟩ k : Nat) : Int) = (o : Int)
  · obtain ⟨h1, h2, h3⟩ := hu
    rw [decide_eq_true ⟨h1, h2, by omega⟩]
    repeat' (first | refine stp ?_ | refine And.intro ?_ ?_ | (intro e; exfalso; omega) | (intro e; subst e) | intro _)
    exact rt1 () rfl
  · rw [decide_eq_false (fun h => hu ⟨h.1, h.2.1, by rw [h.2.2]⟩)]
    repeat' (first | refine stp ?_ | refine And.intro ?_ ?_ | (intro e; exfalso; omega) | (intro e; subst e) | intro _)
    exact rt1 () rfl⟩
theorem rg_sameA : Known Try.prog 19 (∀ (a a2 : Option Addr) (m m2 c c2 : Nat) (cs cs2 : List Value) (xs ys : List Nat) (b : Bool), AsU cs xs → AsU cs2 ys → SameB xs ys b → m = xs.length → m2 = ys.length → m ≤ 4194304 → m2 ≤ 4194304 → SpecH Try.prog 19 #[.slice a m c, .slice a2 m2 c2] [RoS 1 a m c cs, RoS 1 a2 m2 c2 cs2] (fun _ : Unit => .bool b) (fun _ => [])) := ⟨fun a a2 m m2 c c2 cs cs2 xs ys b h1 h2 hb h3 h4 h5 h6 => by
  have := rg_same.out a a2 m m2 c c2 cs cs2 xs ys h1 h2 h3 h4 h5 h6
  rwa [hb.out] at this⟩
set_option maxHeartbeats 4000000 in
instance arl_lists : Known Try.prog 40 (∀ (p size : Nat) (O E A B : List Nat) (t : Nat) (a1 a2 a3 a4 : Option Addr) (n1 n2 n3 n4 c1 c2 c3 c4 : Nat) (cs1 cs2 cs3 cs4 : List Value) (xs ys zs ws : List Nat) (xu : Int) (u : Nat) [NatI xu u], AsU cs1 xs → AsU cs2 ys → AsU cs3 zs → AsU cs4 ws → n1 = xs.length → n2 = ys.length → n3 = zs.length → n4 = ws.length → n1 ≤ 4096 → n2 ≤ 4096 → n3 ≤ 4096 → n4 ≤ 4096 → SpecH Try.prog 40 #[.pointer (some ⟨p, 0, none⟩), .slice a1 n1 c1, .slice a2 n2 c2, .slice a3 n3 c3, .slice a4 n4 c4, .int .i64 xu] [ArcAt p size O E A B t, RoS 1 a1 n1 c1 cs1, RoS 1 a2 n2 c2 cs2, RoS 1 a3 n3 c3 cs3, RoS 1 a4 n4 c4 cs4] (fun _ : Unit => .bool (decide (O = xs ∧ E = ys ∧ A = zs ∧ B = ws ∧ t = u))) (fun _ => [ArcAt p size O E A B t])) := ⟨fun p size O E A B t a1 a2 a3 a4 n1 n2 n3 n4 c1 c2 c3 c4 cs1 cs2 cs3 cs4 xs ys zs ws xu u _ k1 k2 k3 k4 e1 e2 e3 e4 b1 b2 b3 b4 => by
  obtain rfl : xu = (u : Int) := NatI.out
  refine spec_of Try.func40 rfl Try.ntmps40 rfl [(0, _), (1, _), (2, _), (3, _), (4, _), (5, _)] rfl ?_; intro base F l0 hl0; (try simp only [List.cons_append] at hl0); (try simp only [List.nil_append] at hl0); subst hl0
  refine ArcAt.factsC fun iv h0 h1 h2 => ?_
  obtain ⟨l1, l2, l3, l4⟩ := iv.lens
  haveI := rg_sameA
  by_cases f1 : O = xs
  · have d1 : SameB O xs true := ⟨decide_eq_true f1⟩
    by_cases f2 : E = ys
    · have d2 : SameB E ys true := ⟨decide_eq_true f2⟩
      by_cases f3 : A = zs
      · have d3 : SameB A zs true := ⟨decide_eq_true f3⟩
        by_cases f4 : B = ws
        · have d4 : SameB B ws true := ⟨decide_eq_true f4⟩
          rw [show decide (O = xs ∧ E = ys ∧ A = zs ∧ B = ws ∧ t = u) = decide (t = u) by simp [f1, f2, f3, f4]]
          clear f1 f2 f3 f4
          by_cases f5 : t = u
          · rw [decide_eq_true f5]
            repeat' (first | refine stp ?_ | refine And.intro ?_ ?_ | (intro e; exfalso; omega) | (intro e; subst e) | intro _)
            exact rt1 () rfl
          · rw [decide_eq_false f5]
            repeat' (first | refine stp ?_ | refine And.intro ?_ ?_ | (intro e; exfalso; omega) | (intro e; subst e) | intro _)
            exact rt1 () rfl
        · rw [decide_eq_false (fun h : O = xs ∧ E = ys ∧ A = zs ∧ B = ws ∧ t = u => f4 h.2.2.2.1)]
          have d4 : SameB B ws false := ⟨decide_eq_false f4⟩
          clear f1 f2 f3 f4
          repeat' (first | refine stp ?_ | refine And.intro ?_ ?_ | (intro e; exfalso; omega) | (intro e; subst e) | intro _)
          exact rt1 () rfl
      · rw [decide_eq_false (fun h : O = xs ∧ E = ys ∧ A = zs ∧ B = ws ∧ t = u => f3 h.2.2.1)]
        have d3 : SameB A zs false := ⟨decide_eq_false f3⟩
        clear f1 f2 f3
        repeat' (first | refine stp ?_ | refine And.intro ?_ ?_ | (intro e; exfalso; omega) | (intro e; subst e) | intro _)
        exact rt1 () rfl
    · rw [decide_eq_false (fun h : O = xs ∧ E = ys ∧ A = zs ∧ B = ws ∧ t = u => f2 h.2.1)]
      have d2 : SameB E ys false := ⟨decide_eq_false f2⟩
      clear f1 f2
      repeat' (first | refine stp ?_ | refine And.intro ?_ ?_ | (intro e; exfalso; omega) | (intro e; subst e) | intro _)
      exact rt1 () rfl
  · rw [decide_eq_false (fun h : O = xs ∧ E = ys ∧ A = zs ∧ B = ws ∧ t = u => f1 h.1)]
    have d1 : SameB O xs false := ⟨decide_eq_false f1⟩
    clear f1
    repeat' (first | refine stp ?_ | refine And.intro ?_ ?_ | (intro e; exfalso; omega) | (intro e; subst e) | intro _)
    exact rt1 () rfl⟩
theorem arl_usesC : Known Try.prog 64 (∀ (p size : Nat) (O E A B : List Nat) (t : Nat) (xk : Int) (k : Nat) [NatI xk k] (O' E' A' B' : List Nat) (t' : Nat) (h b : Bool) (xo : Int) (o : Nat) [NatI xo o], Ar.UseTo size O E A B t k O' E' A' B' t' h b o → k < 4294967296 → SpecH Try.prog 64 #[.pointer (some ⟨p, 0, none⟩), .int .u32 xk, .agg #[.bool h, .bool b, .int .u32 xo]] [ArcAt p size O E A B t] (fun _ : Unit => .bool true) (fun _ => [ArcAt p size O' E' A' B' t'])) := ⟨fun p size O E A B t xk k _ O' E' A' B' t' h b xo o _ u hk => by
  have h := arl_uses.out p size O E A B t xk k h b xo o hk
  rw [u.q.1, u.q.2.1, u.q.2.2.1, u.q.2.2.2.1, u.q.2.2.2.2, decide_eq_true ⟨u.h, u.b, u.o⟩] at h
  exact h⟩
theorem arl_dropC : Known Try.prog 32 (∀ (p size : Nat) (O E A B : List Nat) (t : Nat) (xk : Int) (k : Nat) [NatI xk k] (O' E' : List Nat) (b : Bool), DropTo O E k O' E' b → SpecH Try.prog 32 #[.pointer (some ⟨p, 0, none⟩), .int .u32 xk] [ArcAt p size O E A B t] (fun _ : Unit => .tuple #[.bool b, .int .i64 0]) (fun _ => [ArcAt p size O' E' A B t])) := ⟨fun p size O E A B t xk k _ O' E' b u => by
  have h := ar_drop.out p size O E A B t xk k
  rwa [u.q, u.m, u.b] at h⟩
theorem arl_newC : Known Try.prog 30 (∀ (a : Int), (a < 1 ∨ 1024 < a) → SpecH Try.prog 30 #[.int .i64 a] [] (fun _ : Unit => .tuple #[.pointer none, .int .i64 2]) (fun _ => [])) := ⟨fun a h => ar_new_bad a h⟩
end Go.Proofs.Ytcgdkcdlglbigaa
