/- The reference of arc, walked. -/
import Derived.Test.YtcgdkcdlglbigaaArMiss
import Derived.Test.YtcgdkcdlglbigaaGhR1
import Derived.Test.YtcgdkcdlglbigaaSlD
import Derived.Test.YtcgdkcdlglbigaaEqTypes
import Derived.Test.YtcgdkcdlglbigaaSlCv
import Derived.Test.YtcgdkcdlglbigaaSlHq
namespace Go.Ar
/-- Four slices. -/
abbrev S4 := (Option Addr × Nat) × (Option Addr × Nat) × (Option Addr × Nat) × Option Addr × Nat
/-- Whether a key is there. -/
structure HasA (O E : List Nat) (k : Nat) (b : Bool) : Prop where
  out : decide (k ∈ O ∨ k ∈ E) = b
/-- Whether a key is in a list. -/
structure MemR (L : List Nat) (k : Nat) (b : Bool) : Prop where
  out : decide (k ∈ L) = b
end Go.Ar
namespace Go.Proofs.Ytcgdkcdlglbigaa
open Go.Lk Go.Sl Go.Gh Go.Tb Go.Ar
attribute [local irreducible] TK TL TC Th Bk Nx fnPost WA TQ OpQ OpN SpecH Rd Ent IterH RoundH Rb Rp fnPostM
attribute [local irreducible] Gh.addL Gh.addV Gh.addB
instance ra_in : Known Try.prog 105 (∀ (a : Option Addr) (m c : Nat) (L : List Nat) (xk : Int) (k : Nat) [NatI xk k], m = L.length → m ≤ 4194304 → SpecH Try.prog 105 #[.slice a m c, .int .u32 xk] [RoS 1 a m c (u32s L)] (fun _ : Unit => .bool (decide (k ∈ L))) (fun _ => [])) := ⟨fun a m c L xk k _ hm hx => by
  obtain rfl : xk = (k : Int) := NatI.out
  subst hm
  refine spec_of Try.func105 rfl Try.ntmps105 rfl [(0, _), (1, _)] rfl ?_; intro base F l0 hl0; (try simp only [List.cons_append] at hl0); (try simp only [List.nil_append] at hl0); subst hl0
  repeat' (first | refine stp ?_ | refine And.intro ?_ ?_ | (intro e; exfalso; omega) | (intro e; subst e) | intro _)
  exact rt1 () rfl⟩
theorem ra_inB : Known Try.prog 105 (∀ (a : Option Addr) (m c : Nat) (L : List Nat) (xk : Int) (k : Nat) [NatI xk k] (b : Bool), MemR L k b → m = L.length → m ≤ 4194304 → SpecH Try.prog 105 #[.slice a m c, .int .u32 xk] [RoS 1 a m c (u32s L)] (fun _ : Unit => .bool b) (fun _ => [])) := ⟨fun a m c L xk k _ b hb hm hx => by
  have h := ra_in.out a m c L xk k hm hx
  rwa [hb.out] at h⟩
instance ra_has : Known Try.prog 75 (∀ (a1 a2 a3 a4 : Option Addr) (n1 n2 n3 n4 c1 c2 c3 c4 size t : Nat) (O E A B : List Nat) (xk : Int) (k : Nat) [NatI xk k], n1 = O.length → n2 = E.length → n3 = A.length → n4 = B.length → n1 ≤ 4096 → n2 ≤ 4096 → SpecH Try.prog 75 #[.agg #[.int .i64 (size : Nat), .slice a1 n1 c1, .slice a2 n2 c2, .slice a3 n3 c3, .slice a4 n4 c4, .int .i64 (t : Nat)], .int .u32 xk] [RoS 1 a1 n1 c1 (u32s O), RoS 1 a2 n2 c2 (u32s E)] (fun _ : Unit => .bool (decide (k ∈ O ∨ k ∈ E))) (fun _ => [])) := ⟨fun a1 a2 a3 a4 n1 n2 n3 n4 c1 c2 c3 c4 size t O E A B xk k _ h1 h2 h3 h4 x1 x2 => by
  obtain rfl : xk = (k : Int) := NatI.out
  subst h1; subst h2; subst h3; subst h4
  refine spec_of Try.func75 rfl Try.ntmps75 rfl [(0, _), (1, _)] rfl ?_; intro base F l0 hl0; (try simp only [List.cons_append] at hl0); (try simp only [List.nil_append] at hl0); subst hl0
  repeat' (first | refine stp ?_ | refine And.intro ?_ ?_ | (intro e; exfalso; omega) | (intro e; subst e) | intro _)
  · rename_i h
    rw [decide_eq_true (.inl h : k ∈ O ∨ k ∈ E)]
    exact rt1 () rfl
  · rename_i h
    rw [show decide (k ∈ O ∨ k ∈ E) = decide (k ∈ E) by simp [h]]
    exact rt1 () rfl⟩
theorem ra_hasB : Known Try.prog 75 (∀ (a1 a2 a3 a4 : Option Addr) (n1 n2 n3 n4 c1 c2 c3 c4 size t : Nat) (O E A B : List Nat) (xk : Int) (k : Nat) [NatI xk k] (b : Bool), HasA O E k b → n1 = O.length → n2 = E.length → n3 = A.length → n4 = B.length → n1 ≤ 4096 → n2 ≤ 4096 → SpecH Try.prog 75 #[.agg #[.int .i64 (size : Nat), .slice a1 n1 c1, .slice a2 n2 c2, .slice a3 n3 c3, .slice a4 n4 c4, .int .i64 (t : Nat)], .int .u32 xk] [RoS 1 a1 n1 c1 (u32s O), RoS 1 a2 n2 c2 (u32s E)] (fun _ : Unit => .bool b) (fun _ => [])) := ⟨fun a1 a2 a3 a4 n1 n2 n3 n4 c1 c2 c3 c4 size t O E A B xk k _ b hb h1 h2 h3 h4 x1 x2 => by
  have h := ra_has.out a1 a2 a3 a4 n1 n2 n3 n4 c1 c2 c3 c4 size t O E A B xk k h1 h2 h3 h4 x1 x2
  rwa [hb.out] at h⟩
set_option maxHeartbeats 4000000 in
instance ra_newest : Known Try.prog 106 (∀ (a : Option Addr) (m c : Nat) (L : List Nat) (xk : Int) (k : Nat) [NatI xk k], m = L.length → m ≤ 4096 → SpecH Try.prog 106 #[.slice a m c, .int .u32 xk] [RoS 1 a m c (u32s L)] (fun q : Option Addr × Nat => .slice q.1 (k :: L).length q.2) (fun q => [RoS 1 q.1 (k :: L).length q.2 (u32s (k :: L))])) := ⟨fun a m c L xk k _ hm hx => by
  obtain rfl : xk = (k : Int) := NatI.out
  subst hm
  refine spec_of Try.func106 rfl Try.ntmps106 rfl [(0, _), (1, _)] rfl ?_; intro base F l0 hl0; (try simp only [List.cons_append] at hl0); (try simp only [List.nil_append] at hl0); subst hl0
  have e0 : 1 + L.length = (k :: L).length := by simp; omega
  have e1 : (Value.int .u32 (k : Nat) :: u32s L) = u32s (k :: L) := rfl
  repeat' (first | refine stp ?_ | refine And.intro ?_ ?_ | (intro e; exfalso; omega) | (intro e; subst e) | intro _)
  rename_i a1 b1
  rw [e0, e1]
  refine frz a1 ?_
  exact rt1 (a1, b1) rfl⟩
set_option maxHeartbeats 4000000 in
instance ra_cut : Known Try.prog 108 (∀ (a : Option Addr) (m c : Nat) (L : List Nat), m = L.length → L ≠ [] → m ≤ 4194304 → SpecH Try.prog 108 #[.slice a m c] [RoS 1 a m c (u32s L)] (fun q : Option Addr × Nat => .tuple #[.slice q.1 L.dropLast.length q.2, .int .u32 (L.getLastD 0 : Nat)]) (fun q => [RoS 1 q.1 L.dropLast.length q.2 (u32s L.dropLast)])) := ⟨fun a m c L hm h0 hL => by
  subst hm
  refine spec_of Try.func108 rfl Try.ntmps108 rfl [(0, _)] rfl ?_; intro base F l0 hl0; (try simp only [List.cons_append] at hl0); (try simp only [List.nil_append] at hl0); subst hl0
  have e2 : L.getLastD 0 = L.getD (L.length - 1) 0 := by
    rw [List.getLastD_eq_getLast?, List.getLast?_eq_getElem?, List.getD_eq_getElem?_getD]
  have e4 : u32s L.dropLast = (u32s L).take ((L.length - 1) * 1) := by
    rw [List.dropLast_eq_take, u32s, List.map_take, Nat.mul_one]; rfl
  have e5 : L.dropLast.length = L.length - 1 := List.length_dropLast
  have hl := List.length_pos_iff.2 h0
  rw [e2, e4, e5]
  repeat' (first | ((fail_if_success (refine atD ?_)); refine stp ?_) | refine And.intro ?_ ?_ | (intro e; exfalso; omega) | (intro e; subst e) | intro _)
  refine drx [] ?_
  refine tks [0, 1, 6, 7, 2, 8, 3, 9, 4, 10, 11] 3 ?_; repeat' (first | refine stp ?_ | refine And.intro ?_ ?_ | (intro e; exfalso; omega) | (intro e; subst e) | intro _)
  refine hv 5 fun x5 => ?_
  refine tks [12, 13] 0 ?_; repeat' (first | refine stp ?_ | refine And.intro ?_ ?_ | (intro e; exfalso; omega) | (intro e; subst e) | intro _)
  refine frz x5.1 ?_
  exact rt2 (x5.1, x5.2) rfl⟩
end Go.Proofs.Ytcgdkcdlglbigaa
