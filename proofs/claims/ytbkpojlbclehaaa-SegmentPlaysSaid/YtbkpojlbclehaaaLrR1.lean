/- The reference of lru, walked. -/
import Derived.Test.YtbkpojlbclehaaaLrTheory
import Derived.Test.YtbkpojlbclehaaaLkR5
import Derived.Test.YtbkpojlbclehaaaSlD
import Derived.Test.YtbkpojlbclehaaaSlX
import Derived.Test.YtbkpojlbclehaaaSlEnd2
namespace Go.Proofs.Ytbkpojlbclehaaa
open Go.Lk Go.Sl Go.Lr
attribute [local irreducible] TK TL TC Th Bk Nx fnPost WA TQ OpQ OpN SpecH Rd Ent IterH RoundH Rb Rp fnPostM
attribute [local irreducible] Lr.addE Lr.addL Lr.remE Lr.useL Lr.renE' Lr.renL Lr.findI
instance lrr_find : Known Try.prog 113 (∀ (a : Option Addr) (m c : Nat) (cs : List Value) (L : List Nat) (xk : Int) (k : Nat) [NatI xk k], AsU cs L → m = L.length → m ≤ 4194304 → SpecH Try.prog 113 #[.slice a m c, .int .u32 xk] [RoS 1 a m c cs] (fun _ : Unit => .int .i64 (Lr.findI L k)) (fun _ => [])) := ⟨fun a m c cs L xk k _ hcs hm hx => by
  obtain rfl : xk = (k : Int) := NatI.out
  subst hm
  rw [hcs.out]
  refine spec_of Try.func113 rfl Try.ntmps113 rfl [(0, _), (1, _)] rfl ?_; intro base F l0 hl0; (try simp only [List.cons_append] at hl0); (try simp only [List.nil_append] at hl0); subst hl0
  repeat' (first | refine stx ?_ | refine And.intro ?_ ?_ | (intro e; exfalso; omega) | (intro e; subst e) | intro _)
  refine tc_lp (ι := {i : Nat // i ≤ L.length ∧ ∀ j, j < i → L.getD j 0 ≠ k}) [5] (fun e i => (5, .int .i64 i.1) :: e) (fun _ => _) (fun i => L.length - i.1) ⟨0, by omega, by omega⟩ ?_ (hl := Ent.refl _)
  rintro K ⟨i, hi, he⟩ hK
  dsimp only
  have hmem : ∀ (j : Nat) (h : j < L.length), L.getD j 0 = L[j] := fun j h => by rw [List.getD_eq_getElem?_getD, List.getElem?_eq_getElem h]; rfl
  repeat' (first | refine stx ?_ | refine And.intro ?_ ?_ | (intro e; exfalso; omega) | (intro e; subst e) | intro _)
  · refine rz1 () (hij := ?_)
    have hil : i < L.length := by omega
    have e1 : L[i] = k := by rw [← hmem i hil]; omega
    rw [Lr.findI_pos (e1 ▸ List.getElem_mem _), idxOf_first hil e1 fun j hj => by rw [← hmem j (by omega)]; exact he j hj]
  · refine again hK ⟨i + 1, by omega, fun j hj => ?_⟩
    rcases Nat.lt_or_ge j i with x | x
    · exact he j x
    · obtain rfl : j = i := by omega
      omega
  · refine rz1 () (hij := ?_)
    rw [Lr.findI_neg]
    intro h
    obtain ⟨j, hj, e⟩ := List.getElem_of_mem h
    exact he j (by omega) (by rw [hmem j hj]; exact e)⟩
set_option maxHeartbeats 4000000 in
instance lrr_add : Known Try.prog 111 (∀ (a : Option Addr) (m c : Nat) (L : List Nat) (xk : Int) (k : Nat) [NatI xk k], m = L.length → m ≤ 4194303 → k < 4294967296 → SpecH Try.prog 111 #[.slice a m c, .int .u32 xk] [RoS 1 a m c (u32s L)] (fun q : Option Addr × Nat => .tuple #[.slice q.1 (Lr.addL L k).length q.2, .int .i64 (Lr.addE L k)]) (fun q => [RoS 1 q.1 (Lr.addL L k).length q.2 (u32s (Lr.addL L k))])) := ⟨fun a m c L xk k _ hm hx hk => by
  obtain rfl : xk = (k : Int) := NatI.out
  subst hm
  have hf := Lr.findI_ge (L := L) (s := k)
  refine spec_of Try.func111 rfl Try.ntmps111 rfl [(0, _), (1, _)] rfl ?_; intro base F l0 hl0; (try simp only [List.cons_append] at hl0); (try simp only [List.nil_append] at hl0); subst hl0
  by_cases h1 : 4194304 ≤ k
  · rw [show Lr.addE L k = 2 by unfold Lr.addE; exact if_pos h1, show Lr.addL L k = L by unfold Lr.addL; exact if_pos (.inl h1)]
    repeat' (first | refine stx ?_ | refine And.intro ?_ ?_ | (intro e; exfalso; omega) | (intro e; subst e) | intro _)
    exact rt2 (a, c) rfl
  by_cases h2 : k ∈ L
  · rw [show Lr.addE L k = 11 by unfold Lr.addE; rw [if_neg h1, if_pos h2], show Lr.addL L k = L by unfold Lr.addL; exact if_pos (.inr h2)]
    have := hf.2 h2
    repeat' (first | refine stx ?_ | refine And.intro ?_ ?_ | (intro e; exfalso; omega) | (intro e; subst e) | intro _)
    exact rt2 (a, c) rfl
  · rw [show Lr.addE L k = 0 by unfold Lr.addE; rw [if_neg h1, if_neg h2], show Lr.addL L k = L ++ [k] by unfold Lr.addL; exact if_neg (fun h => by rcases h with h | h; exact h1 h; exact h2 h)]
    have : ¬ 0 ≤ Lr.findI L k := fun h => h2 (hf.1 h)
    repeat' (first | refine stx ?_ | refine And.intro ?_ ?_ | (intro e; exfalso; omega) | (intro e; subst e) | intro _)
    rename_i _ _ b1 a1 c1
    rw [show (L ++ [k]).length = L.length + 1 by simp, show u32s (L ++ [k]) = u32s L ++ [.int .u32 (k : Nat)] by simp [u32s]]
    refine frz a1 ?_
    exact rt2 (a1, c1) rfl⟩
end Go.Proofs.Ytbkpojlbclehaaa
