/- The reference of lfu, walked: counts; lists without a key, with one more. -/
import Derived.Test.YtmiblmoppdgnjaaLfTheory5
import Derived.Test.YtmiblmoppdgnjaaLfIt
import Derived.Test.YtmiblmoppdgnjaaLkR5
import Derived.Test.YtmiblmoppdgnjaaSlD
import Derived.Test.YtmiblmoppdgnjaaSlX
import Derived.Test.YtmiblmoppdgnjaaSlEnd2
import Derived.Test.YtmiblmoppdgnjaaEqTypes
namespace Go.Proofs.Ytmiblmoppdgnjaa
open Go.Lk Go.Sl Go.Lf
attribute [local irreducible] TK TL TC Th Bk Nx fnPost WA TQ OpQ OpN SpecH Rd Ent IterH RoundH Rb Rp fnPostM
attribute [local irreducible] Lf.wo Lf.ins Lf.cntOf Lf.halveL Lf.lo Lf.hi
instance lfr_count : Known Try.prog 35 (∀ (size age req : Nat) (a : Option Addr) (m c : Nat) (l : List It) (xk : Int) (k : Nat) [NatI xk k], m = l.length → m ≤ 1024 → SpecH Try.prog 35 #[.agg #[.int .i64 (size : Nat), .int .i64 (age : Nat), .int .i64 (req : Nat), .slice a m c], .int .u32 xk] [RoS 2 a m c (itv l)] (fun _ : Unit => .int .i64 (cntOf l k : Nat)) (fun _ => [])) := ⟨fun size age req a m c l xk k _ hm hx => by
  obtain rfl : xk = (k : Int) := NatI.out
  subst hm
  refine spec_of Try.func35 rfl Try.ntmps35 rfl [(0, _), (1, _)] rfl ?_; intro base F l0 hl0; (try simp only [List.cons_append] at hl0); (try simp only [List.nil_append] at hl0); subst hl0
  repeat' (first | refine sty ?_ | refine And.intro ?_ ?_ | (intro e; exfalso; omega) | (intro e; subst e) | intro _)
  refine tc_lp (ι := {i : Nat // i ≤ l.length ∧ ∀ j, j < i → (l.getD j default).1 ≠ k}) [5] (fun e i => (5, .int .i64 (i.1 : Nat)) :: e) (fun _ => _) (fun i => l.length - i.1) ⟨0, by omega, by omega⟩ ?_ (hl := Ent.refl _)
  rintro K ⟨i, hi, he⟩ hK
  dsimp only
  by_cases hlt : i < l.length
  · by_cases hk : (l.getD i default).1 = k
    · have hc : cntOf l k = (l.getD i default).2 := cntOf_at hlt hk he
      rw [hc]

      repeat' (first | refine sty ?_ | refine And.intro ?_ ?_ | (intro e; exfalso; omega) | (intro e; subst e) | intro _)
      exact rt1 () rfl
    · repeat' (first | refine sty ?_ | refine And.intro ?_ ?_ | (intro e; exfalso; omega) | (intro e; subst e) | intro _)
      refine again hK ⟨i + 1, by omega, fun j hj => ?_⟩
      rcases Nat.lt_or_ge j i with x | x
      · exact he j x
      · obtain rfl : j = i := by omega
        exact hk
  · have hc : cntOf l k = 0 := cntOf_not fun h => by
      obtain ⟨y, hy, e⟩ := List.mem_map.1 h
      obtain ⟨j, hj, rfl⟩ := List.getElem_of_mem hy
      exact he j (by omega) (by rw [getD_get hj]; exact e)
    rw [hc]
    repeat' (first | refine sty ?_ | refine And.intro ?_ ?_ | (intro e; exfalso; omega) | (intro e; subst e) | intro _)
    exact rt1 () rfl⟩
set_option maxHeartbeats 4000000 in
instance lfr_without : Known Try.prog 50 (∀ (size age req : Nat) (a : Option Addr) (m c : Nat) (l : List It) (xk : Int) (k : Nat) [NatI xk k], m = l.length → m ≤ 1024 → SpecH Try.prog 50 #[.agg #[.int .i64 (size : Nat), .int .i64 (age : Nat), .int .i64 (req : Nat), .slice a m c], .int .u32 xk] [RoS 2 a m c (itv l)] (fun q : Option Addr × Nat => .slice q.1 (Lf.wo l k).length q.2) (fun q => [RoS 2 q.1 (Lf.wo l k).length q.2 (itv (Lf.wo l k))])) := ⟨fun size age req a m c l xk k _ hm hx => by
  obtain rfl : xk = (k : Int) := NatI.out
  subst hm
  refine spec_of Try.func50 rfl Try.ntmps50 rfl [(0, _), (1, _)] rfl ?_; intro base F l0 hl0; (try simp only [List.cons_append] at hl0); (try simp only [List.nil_append] at hl0); subst hl0
  repeat' (first | refine sty ?_ | refine And.intro ?_ ?_ | (intro e; exfalso; omega) | (intro e; subst e) | intro _)
  rename_i b2
  refine tc_lp (ι := {q : Nat × Option Addr × Nat × Nat × List It // q.1 ≤ l.length ∧ q.2.2.2.2 = Lf.wo (l.take q.1) k ∧ q.2.2.1 = q.2.2.2.2.length}) [5, 6] (fun e q => (5, .slice q.1.2.1 q.1.2.2.1 q.1.2.2.2.1) :: (6, .int .i64 q.1.1) :: e)
    (fun q => [Vec 73 2 q.1.2.1 q.1.2.2.1 q.1.2.2.2.1 (itv q.1.2.2.2.2), obj b2 48 [.int .i64 (size : Nat), .int .i64 (age : Nat), .int .i64 (req : Nat), .slice a l.length c], RoS 2 a l.length c (itv l), F]) (fun q => l.length - q.1.1) ⟨(0, none, 0, 0, []), by dsimp only; omega, by dsimp only; rw [List.take_zero]; unfold Lf.wo; rfl, rfl⟩ ?_
  rintro K ⟨⟨i, a1, m1, c1, M⟩, hi, hM, hm1⟩ hK
  dsimp only at hi hM hm1 ⊢
  subst hm1
  have hl1 : M.length ≤ i := by
    rw [hM]
    have : (Lf.wo (l.take i) k).Sublist (l.take i) := by unfold Lf.wo; exact List.filter_sublist
    have := this.length_le
    rw [List.length_take] at this; omega
  by_cases hlt : i < l.length
  · have hw := wo_snoc (l := l.take i) (x := l.getD i default) (k := k)
    rw [← take_snoc' hlt, ← hM] at hw
    by_cases hk : (l.getD i default).1 = k
    · rw [if_pos hk] at hw
      repeat' (first | refine sty ?_ | refine And.intro ?_ ?_ | (intro e; exfalso; omega) | (intro e; subst e) | intro _)
      exact again hK ⟨(i + 1, a1, M.length, c1, M), by dsimp only; omega, hw.symm, rfl⟩
    · rw [if_neg hk] at hw
      repeat' (first | refine sty ?_ | refine And.intro ?_ ?_ | (intro e; exfalso; omega) | (intro e; subst e) | intro _)
      rename_i b5 a5 c5
      rw [← itv_snoc]
      exact again hK ⟨(i + 1, a5, M.length + 1, c5, M ++ [l.getD i default]), by dsimp only; omega, hw.symm, by simp⟩
  · obtain rfl : i = l.length := by omega
    rw [List.take_length] at hM
    rw [← hM]
    repeat' (first | refine sty ?_ | refine And.intro ?_ ?_ | (intro e; exfalso; omega) | (intro e; subst e) | intro _)
    refine frz a1 ?_
    exact rt1 (a1, c1) rfl⟩
end Go.Proofs.Ytmiblmoppdgnjaa
