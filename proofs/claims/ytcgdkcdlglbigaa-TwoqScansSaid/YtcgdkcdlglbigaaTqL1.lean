/- The laws of twoq, walked: what calls return; the examples of the chapter. -/
import Derived.Test.YtcgdkcdlglbigaaTqW6
import Derived.Test.YtcgdkcdlglbigaaTqR2
namespace Go.Proofs.Ytcgdkcdlglbigaa
open Go.Lk Go.Sl Go.Gh Go.Tb Go.Tq
attribute [local irreducible] TK TL TC Th Bk Nx fnPost WA TQ OpQ OpN SpecH Rd Ent IterH RoundH Rb Rp fnPostM
instance tql_uses : Known Try.prog 42 (∀ (p size most gm : Nat) (Q M G : List Nat) (xk : Int) (k : Nat) [NatI xk k] (h b : Bool) (xo : Int) (o : Nat) [NatI xo o], k < 4294967296 → SpecH Try.prog 42 #[.pointer (some ⟨p, 0, none⟩), .int .u32 xk, .agg #[.bool h, .bool b, .int .u32 xo]] [TwoqAt p size most gm Q M G] (fun _ : Unit => .bool (decide (useH ⟨Q, M, G⟩ k = h ∧ Tq.useL size ⟨Q, M, G⟩ k = b ∧ useO size most ⟨Q, M, G⟩ k = o))) (fun _ => [TwoqAt p size most gm (useS size most gm ⟨Q, M, G⟩ k).Q (useS size most gm ⟨Q, M, G⟩ k).M (useS size most gm ⟨Q, M, G⟩ k).G])) := ⟨fun p size most gm Q M G xk k _ h b xo o _ hk => by
  obtain rfl : xk = (k : Int) := NatI.out
  obtain rfl : xo = (o : Int) := NatI.out
  refine spec_of Try.func42 rfl Try.ntmps42 rfl [(0, _), (1, _), (2, _)] rfl ?_; intro base F l0 hl0; (try simp only [List.cons_append] at hl0); (try simp only [List.nil_append] at hl0); subst hl0
  by_cases hu : useH ⟨Q, M, G⟩ k = h ∧ Tq.useL size ⟨Q, M, G⟩ k = b ∧ ((useO size most ⟨Q, M, G⟩ k : Nat) : Int) = (o : Int)
  · obtain ⟨h1, h2, h3⟩ := hu
    rw [decide_eq_true ⟨h1, h2, by omega⟩]
    repeat' (first | refine stp ?_ | refine And.intro ?_ ?_ | (intro e; exfalso; omega) | (intro e; subst e) | intro _)
    exact rt1 () rfl
  · rw [decide_eq_false (fun h => hu ⟨h.1, h.2.1, by rw [h.2.2]⟩)]
    repeat' (first | refine stp ?_ | refine And.intro ?_ ?_ | (intro e; exfalso; omega) | (intro e; subst e) | intro _)
    exact rt1 () rfl⟩
theorem rg_sameB : Known Try.prog 19 (∀ (a a2 : Option Addr) (m m2 c c2 : Nat) (cs cs2 : List Value) (xs ys : List Nat) (b : Bool), AsU cs xs → AsU cs2 ys → SameB xs ys b → m = xs.length → m2 = ys.length → m ≤ 4194304 → m2 ≤ 4194304 → SpecH Try.prog 19 #[.slice a m c, .slice a2 m2 c2] [RoS 1 a m c cs, RoS 1 a2 m2 c2 cs2] (fun _ : Unit => .bool b) (fun _ => [])) := ⟨fun a a2 m m2 c c2 cs cs2 xs ys b h1 h2 hb h3 h4 h5 h6 => by
  have := rg_same.out a a2 m m2 c c2 cs cs2 xs ys h1 h2 h3 h4 h5 h6
  rwa [hb.out] at this⟩
set_option maxHeartbeats 4000000 in
instance tql_lists : Known Try.prog 27 (∀ (p size most gm : Nat) (Q M G : List Nat) (a1 a2 a3 : Option Addr) (n1 n2 n3 c1 c2 c3 : Nat) (cs1 cs2 cs3 : List Value) (xs ys zs : List Nat), AsU cs1 xs → AsU cs2 ys → AsU cs3 zs → n1 = xs.length → n2 = ys.length → n3 = zs.length → n1 ≤ 4096 → n2 ≤ 4096 → n3 ≤ 4096 → SpecH Try.prog 27 #[.pointer (some ⟨p, 0, none⟩), .slice a1 n1 c1, .slice a2 n2 c2, .slice a3 n3 c3] [TwoqAt p size most gm Q M G, RoS 1 a1 n1 c1 cs1, RoS 1 a2 n2 c2 cs2, RoS 1 a3 n3 c3 cs3] (fun _ : Unit => .bool (decide (Q = xs ∧ M = ys ∧ G = zs))) (fun _ => [TwoqAt p size most gm Q M G])) := ⟨fun p size most gm Q M G a1 a2 a3 n1 n2 n3 c1 c2 c3 cs1 cs2 cs3 xs ys zs k1 k2 k3 e1 e2 e3 b1 b2 b3 => by
  refine spec_of Try.func27 rfl Try.ntmps27 rfl [(0, _), (1, _), (2, _), (3, _)] rfl ?_; intro base F l0 hl0; (try simp only [List.cons_append] at hl0); (try simp only [List.nil_append] at hl0); subst hl0
  refine TwoqAt.factsC fun o h1 h2 h3 h4 => ?_
  have hlen := o.len
  have hgl := o.gl
  dsimp only at hlen hgl
  haveI := rg_sameB
  by_cases f1 : Q = xs
  · have d1 : SameB Q xs true := ⟨decide_eq_true f1⟩
    by_cases f2 : M = ys
    · have d2 : SameB M ys true := ⟨decide_eq_true f2⟩
      have d3 : SameB G zs (decide (G = zs)) := ⟨rfl⟩
      rw [show decide (Q = xs ∧ M = ys ∧ G = zs) = decide (G = zs) by simp [f1, f2]]
      clear f1 f2
      repeat' (first | refine stp ?_ | refine And.intro ?_ ?_ | (intro e; exfalso; omega) | (intro e; subst e) | intro _)
      exact rt1 () rfl
    · rw [decide_eq_false (fun h : Q = xs ∧ M = ys ∧ G = zs => f2 h.2.1)]
      have d2 : SameB M ys false := ⟨decide_eq_false f2⟩
      clear f1 f2
      repeat' (first | refine stp ?_ | refine And.intro ?_ ?_ | (intro e; exfalso; omega) | (intro e; subst e) | intro _)
      exact rt1 () rfl
  · rw [decide_eq_false (fun h : Q = xs ∧ M = ys ∧ G = zs => f1 h.1)]
    have d1 : SameB Q xs false := ⟨decide_eq_false f1⟩
    clear f1
    repeat' (first | refine stp ?_ | refine And.intro ?_ ?_ | (intro e; exfalso; omega) | (intro e; subst e) | intro _)
    exact rt1 () rfl⟩
instance tql_out : Known Try.prog 43 (∀ (z : Int), SpecH Try.prog 43 #[.int .u32 z] [] (fun _ : Unit => .agg #[.bool false, .bool true, .int .u32 z]) (fun _ => [])) := ⟨fun z => by
  refine spec_of Try.func43 rfl Try.ntmps43 rfl [(0, _)] rfl ?_; intro base F l0 hl0; (try simp only [List.cons_append] at hl0); (try simp only [List.nil_append] at hl0); subst hl0
  repeat' (first | refine stp ?_ | refine And.intro ?_ ?_ | (intro e; exfalso; omega) | (intro e; subst e) | intro _)
  exact ra1 () rfl⟩
theorem tql_usesC : Known Try.prog 42 (∀ (p size most gm : Nat) (Q M G : List Nat) (xk : Int) (k : Nat) [NatI xk k] (Q' M' G' : List Nat) (h b : Bool) (xo : Int) (o : Nat) [NatI xo o], UseTo size most gm Q M G k Q' M' G' h b o → k < 4294967296 → SpecH Try.prog 42 #[.pointer (some ⟨p, 0, none⟩), .int .u32 xk, .agg #[.bool h, .bool b, .int .u32 xo]] [TwoqAt p size most gm Q M G] (fun _ : Unit => .bool true) (fun _ => [TwoqAt p size most gm Q' M' G'])) := ⟨fun p size most gm Q M G xk k _ Q' M' G' h b xo o _ u hk => by
  have h := tql_uses.out p size most gm Q M G xk k h b xo o hk
  rw [u.q.1, u.q.2.1, u.q.2.2, decide_eq_true ⟨u.h, u.b, u.o⟩] at h
  exact h⟩
theorem tql_dropC : Known Try.prog 21 (∀ (p size most gm : Nat) (Q M G : List Nat) (xk : Int) (k : Nat) [NatI xk k] (Q' M' : List Nat) (b : Bool), DropTo Q M k Q' M' b → SpecH Try.prog 21 #[.pointer (some ⟨p, 0, none⟩), .int .u32 xk] [TwoqAt p size most gm Q M G] (fun _ : Unit => .tuple #[.bool b, .int .i64 0]) (fun _ => [TwoqAt p size most gm Q' M' G])) := ⟨fun p size most gm Q M G xk k _ Q' M' b u => by
  have h := tq_drop.out p size most gm Q M G xk k
  rwa [u.q, u.m, u.b] at h⟩
theorem tql_newC : Known Try.prog 22 (∀ (a b c : Int), (a < 1 ∨ 1024 < a ∨ b < 1 ∨ a < b ∨ c < 0 ∨ 1024 < c) → SpecH Try.prog 22 #[.int .i64 a, .int .i64 b, .int .i64 c] [] (fun _ : Unit => .tuple #[.pointer none, .int .i64 2]) (fun _ => [])) := ⟨fun a b c h => tq_new_bad a b c h⟩
end Go.Proofs.Ytcgdkcdlglbigaa
