/- The reference of twoq, walked. -/
import Derived.Test.YtcgdkcdlglbigaaTqSt
import Derived.Test.YtcgdkcdlglbigaaGhR1
import Derived.Test.YtcgdkcdlglbigaaSlD
import Derived.Test.YtcgdkcdlglbigaaEqTypes
namespace Go.Proofs.Ytcgdkcdlglbigaa
open Go.Lk Go.Sl Go.Gh Go.Tb Go.Tq
attribute [local irreducible] TK TL TC Th Bk Nx fnPost WA TQ OpQ OpN SpecH Rd Ent IterH RoundH Rb Rp fnPostM
attribute [local irreducible] Gh.addL Gh.addV Gh.addB
instance rt_in : Known Try.prog 94 (∀ (a : Option Addr) (m c : Nat) (L : List Nat) (xk : Int) (k : Nat) [NatI xk k], m = L.length → m ≤ 4194304 → SpecH Try.prog 94 #[.slice a m c, .int .u32 xk] [RoS 1 a m c (u32s L)] (fun _ : Unit => .bool (decide (k ∈ L))) (fun _ => [])) := ⟨fun a m c L xk k _ hm hx => by
  obtain rfl : xk = (k : Int) := NatI.out
  subst hm
  refine spec_of Try.func94 rfl Try.ntmps94 rfl [(0, _), (1, _)] rfl ?_; intro base F l0 hl0; (try simp only [List.cons_append] at hl0); (try simp only [List.nil_append] at hl0); subst hl0
  repeat' (first | refine sty ?_ | refine And.intro ?_ ?_ | (intro e; exfalso; omega) | (intro e; subst e) | intro _)
  exact rt1 () rfl⟩
instance rt_has : Known Try.prog 58 (∀ (a1 a2 a3 : Option Addr) (n1 n2 n3 c1 c2 c3 size most gm : Nat) (Q M G : List Nat) (xk : Int) (k : Nat) [NatI xk k], n1 = Q.length → n2 = M.length → n3 = G.length → n1 ≤ 4096 → n2 ≤ 4096 → SpecH Try.prog 58 #[.agg #[.int .i64 (size : Nat), .int .i64 (most : Nat), .slice a1 n1 c1, .slice a2 n2 c2, .int .i64 (gm : Nat), .slice a3 n3 c3], .int .u32 xk] [RoS 1 a1 n1 c1 (u32s Q), RoS 1 a2 n2 c2 (u32s M)] (fun _ : Unit => .bool (decide (k ∈ Q ∨ k ∈ M))) (fun _ => [])) := ⟨fun a1 a2 a3 n1 n2 n3 c1 c2 c3 size most gm Q M G xk k _ h1 h2 h3 x1 x2 => by
  obtain rfl : xk = (k : Int) := NatI.out
  subst h1; subst h2; subst h3
  refine spec_of Try.func58 rfl Try.ntmps58 rfl [(0, _), (1, _)] rfl ?_; intro base F l0 hl0; (try simp only [List.cons_append] at hl0); (try simp only [List.nil_append] at hl0); subst hl0
  repeat' (first | refine sty ?_ | refine And.intro ?_ ?_ | (intro e; exfalso; omega) | (intro e; subst e) | intro _)
  · rename_i h
    rw [decide_eq_true (.inl h : k ∈ Q ∨ k ∈ M)]
    exact rt1 () rfl
  · rename_i h
    rw [show decide (k ∈ Q ∨ k ∈ M) = decide (k ∈ M) by simp [h]]
    exact rt1 () rfl⟩
set_option maxHeartbeats 4000000 in
instance rt_newest : Known Try.prog 95 (∀ (a : Option Addr) (m c : Nat) (L : List Nat) (xk : Int) (k : Nat) [NatI xk k], m = L.length → m ≤ 4096 → L.Nodup → SpecH Try.prog 95 #[.slice a m c, .int .u32 xk] [RoS 1 a m c (u32s L)] (fun q : Option Addr × Nat => .slice q.1 (k :: L.erase k).length q.2) (fun q => [RoS 1 q.1 (k :: L.erase k).length q.2 (u32s (k :: L.erase k))])) := ⟨fun a m c L xk k _ hm hx hnd => by
  obtain rfl : xk = (k : Int) := NatI.out
  subst hm
  refine spec_of Try.func95 rfl Try.ntmps95 rfl [(0, _), (1, _)] rfl ?_; intro base F l0 hl0; (try simp only [List.cons_append] at hl0); (try simp only [List.nil_append] at hl0); subst hl0
  have hw : wo L k = L.erase k := filter_ne_erase hnd
  have hwl : (wo L k).length ≤ L.length := List.length_filter_le _ _
  have e0 : 1 + (wo L k).length = (k :: wo L k).length := by simp; omega
  have e1 : (Value.int .u32 (k : Nat) :: u32s (wo L k)) = u32s (k :: wo L k) := rfl
  rw [← hw]
  repeat' (first | refine sty ?_ | refine And.intro ?_ ?_ | (intro e; exfalso; omega) | (intro e; subst e) | intro _)
  rename_i a1 b1
  rw [e0, e1]
  refine frz a1 ?_
  exact rt1 (a1, b1) rfl⟩
end Go.Proofs.Ytcgdkcdlglbigaa
