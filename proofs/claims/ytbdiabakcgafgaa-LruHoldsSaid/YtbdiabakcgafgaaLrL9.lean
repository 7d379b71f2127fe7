/- The law of lru, walked: what stays in a list that is kept short. -/
import Derived.Test.YtbdiabakcgafgaaLrL8
namespace Go.Proofs.Ytbdiabakcgafgaa
open Go.Lk Go.Sl Go.Lr
attribute [local irreducible] TK TL TC Th Bk Nx fnPost WA TQ OpQ OpN SpecH Rd Ent IterH RoundH Rb Rp fnPostM
attribute [local irreducible] Lr.addE Lr.addL Lr.remE Lr.useL Lr.renE' Lr.renL Lr.findI Lr.usedL Lr.full Lr.lastN
theorem lrl_hasT (p : Nat) (L : List Nat) (k : Nat) (hk : k < 4294967296) (hm : k ∈ L) : Known Try.prog 44 (SpecH Try.prog 44 #[.pointer (some ⟨p, 0, none⟩), .int .u32 (k : Nat)] [LruAt p L] (fun _ : Unit => .bool true) (fun _ => [LruAt p L])) := ⟨by
  haveI : NatI (k : Nat) k := ⟨rfl⟩
  have := lr_has.out p L (k : Nat) k hk
  rw [decide_eq_true hm] at this; exact this⟩
set_option maxRecDepth 20000 in
set_option maxHeartbeats 8000000 in
theorem lholds_spec (a : Option Addr) (cap : Nat) (l : List Nat) (k1 k2 : Nat) (hl : ∀ x ∈ l, x < 4294967296) (hk1 : k1 ≤ 255) (hk2 : k2 ≤ 255) : SpecH Try.prog 10 #[.slice a l.length cap, .int .u8 (k1 : Int), .int .u8 (k2 : Int)] [RoS 1 a l.length cap (u32s l)] (fun _ : Unit => .bool true) (fun _ => []) := by
  by_cases hc : 200 < (l.length : Int) ∨ 50 < (k1 : Int) ∨ (k2 : Int) < k1 ∨ 100 < (k2 : Int)
  · refine spec_of Try.func10 rfl Try.ntmps10 rfl [(0, _), (1, _), (2, _)] rfl ?_; intro base F l0 hl0; (try simp only [List.cons_append] at hl0); (try simp only [List.nil_append] at hl0); subst hl0
    repeat' (first | refine stx ?_ | refine And.intro ?_ ?_ | (intro e; exfalso; omega) | (intro e; subst e) | intro _)
    all_goals exact rt1 () rfl
  · refine spec_of Try.func10 rfl Try.ntmps10 rfl [(0, _), (1, _), (2, _)] rfl ?_; intro base F l0 hl0; (try simp only [List.cons_append] at hl0); (try simp only [List.nil_append] at hl0); subst hl0
    repeat' (first | refine stx ?_ | refine And.intro ?_ ?_ | (intro e; exfalso; omega) | (intro e; subst e) | intro _)
    rename_i pa pb
    have z1 : ∀ c, Lr.lastN c (Lr.full (l.take 0)) = [] := fun c => by rw [List.take_zero]; unfold Lr.full Lr.lastN; simp
    refine tc_lp (ι := {i : Nat // i ≤ l.length}) [9] (fun e x => (9, .int .i64 (x.1 : Nat)) :: e)
      (fun x => [LruAt pa (Lr.lastN k1 (Lr.full (l.take x.1))), LruAt pb (Lr.lastN k2 (Lr.full (l.take x.1))), RoS 1 a l.length cap (u32s l), F]) (fun x => l.length - x.1) ⟨0, by omega⟩ ?_ (hl := by dsimp only; rw [z1, z1]; exact en)
    rintro K ⟨i, hi⟩ hK
    dsimp only at hi ⊢
    by_cases hc : i < l.length
    · have hx : l.getD i 0 < 4294967296 := hl _ (by rw [List.getD_eq_getElem?_getD, List.getElem?_eq_getElem hc]; exact List.getElem_mem hc)
      by_cases hb : l.getD i 0 < 5000
      · have g1 : (Lr.lastN k1 (Lr.full (l.take i))).length ≤ k1 := by rw [Lr.lastN_len]; omega
        have g2 : (Lr.lastN k2 (Lr.full (l.take i))).length ≤ k2 := by rw [Lr.lastN_len]; omega
        have g3 : (Lr.lastN k1 (Lr.full (l.take (i + 1)))).length ≤ k1 := by rw [Lr.lastN_len]; omega
        have g4 : (Lr.lastN k2 (Lr.full (l.take (i + 1)))).length ≤ k2 := by rw [Lr.lastN_len]; omega
        have u1 := Lr.usedL_full (l := l.take i) (s := l.getD i 0) (c := k1)
        have u2 := Lr.usedL_full (l := l.take i) (s := l.getD i 0) (c := k2)
        rw [← Lr.take_snoc hc] at u1 u2
        have htl : (l.take (i + 1)).length = i + 1 := by rw [List.length_take]; omega
        have htu : (u32s l).take ((i + 1) * 1) = u32s (l.take (i + 1)) := by rw [Nat.mul_one]; unfold u32s; rw [List.map_take]
        repeat' (first | ((fail_if_success (refine atD ?_)); refine stx ?_) | refine And.intro ?_ ?_ | (intro e; exfalso; omega) | (intro e; subst e) | intro _)
        rw [u1, u2]
        refine tc_roTake (sz := 1) (a := a) (m := l.length) (cap := cap) (cs := u32s l) (i + 1) (by omega) ?_
        rw [htu]
        haveI iS : Known Try.prog 41 (∀ (a a2 : Option Addr) (m m2 c c2 : Nat) (xs : List Nat), m = xs.length → m2 = xs.length → m ≤ 4194304 → SpecH Try.prog 41 #[.slice a m c, .slice a2 m2 c2] [RoS 1 a m c (u32s xs), RoS 1 a2 m2 c2 (u32s xs)] (fun _ : Unit => .bool true) (fun _ => [])) := ⟨fun a a2 m m2 c c2 xs h1 h2 h3 => by
          have := lrr_same.out a a2 m m2 c c2 (u32s xs) (u32s xs) xs xs ⟨rfl⟩ ⟨rfl⟩ h1 h2 h3 (by omega)
          rw [decide_eq_true rfl] at this; exact this⟩
        refine drx [LruAt pa (Lr.lastN k1 (Lr.full (l.take (i + 1)))), LruAt pb (Lr.lastN k2 (Lr.full (l.take (i + 1))))] ?_
        refine tks [0, 2, 3, 6, 4, 7, 5] 17 ?_; repeat' (first | refine stx ?_ | refine And.intro ?_ ?_ | (intro e; exfalso; omega) | (intro e; subst e) | intro _)
        refine hv 1 fun x1 => ?_
        refine hv 8 fun x8 => ?_
        refine hv 9 fun x9 => ?_
        refine tks [10, 11, 12, 14, 15, 18, 16, 19, 17] 5 ?_; repeat' (first | refine stx ?_ | refine And.intro ?_ ?_ | (intro e; exfalso; omega) | (intro e; subst e) | intro _)
        refine hv 13 fun x13 => ?_
        refine hv 20 fun x20 => ?_
        refine hv 21 fun x21 => ?_
        refine tks [22, 23] 0 ?_; repeat' (first | refine stx ?_ | refine And.intro ?_ ?_ | (intro e; exfalso; omega) | (intro e; subst e) | intro _)
        rename_i a1 c1
        refine tc_lp (ι := {k : Nat // k ≤ (Lr.lastN k1 (Lr.full (l.take (i + 1)))).length}) [11] (fun e x => (11, .int .i64 (x.1 : Nat)) :: e)
          (fun _ => [LruAt pa (Lr.lastN k1 (Lr.full (l.take (i + 1)))), Vec 28 1 a1 (Lr.lastN k1 (Lr.full (l.take (i + 1)))).length c1 (u32s (Lr.lastN k1 (Lr.full (l.take (i + 1))))), LruAt pb (Lr.lastN k2 (Lr.full (l.take (i + 1)))), RoS 1 a l.length cap (u32s l), F]) (fun x => (Lr.lastN k1 (Lr.full (l.take (i + 1)))).length - x.1) ⟨0, by omega⟩ ?_
        rintro K2 ⟨k, hk⟩ hK2
        dsimp only at hk ⊢
        by_cases hkl : k < (Lr.lastN k1 (Lr.full (l.take (i + 1)))).length
        · have hm1 : (Lr.lastN k1 (Lr.full (l.take (i + 1)))).getD k 0 ∈ Lr.lastN k1 (Lr.full (l.take (i + 1))) := by rw [List.getD_eq_getElem?_getD, List.getElem?_eq_getElem hkl]; exact List.getElem_mem hkl
          have hm2 : (Lr.lastN k1 (Lr.full (l.take (i + 1)))).getD k 0 ∈ Lr.lastN k2 (Lr.full (l.take (i + 1))) := Lr.lastN_mem (by omega) hm1
          have hk32 : (Lr.lastN k1 (Lr.full (l.take (i + 1)))).getD k 0 < 4294967296 := hl _ (List.mem_of_mem_take (Lr.mem_full.1 (Lr.lastN_suffix.subset hm1)))
          haveI := lrl_hasT pb (Lr.lastN k2 (Lr.full (l.take (i + 1)))) ((Lr.lastN k1 (Lr.full (l.take (i + 1)))).getD k 0) hk32 hm2
          repeat' (first | refine stx ?_ | refine And.intro ?_ ?_ | (intro e; exfalso; omega) | (intro e; subst e) | intro _)
          exact again hK2 ⟨k + 1, by omega⟩
        · repeat' (first | refine stx ?_ | refine And.intro ?_ ?_ | (intro e; exfalso; omega) | (intro e; subst e) | intro _)
          exact again hK ⟨i + 1, by omega⟩
      · repeat' (first | refine stx ?_ | refine And.intro ?_ ?_ | (intro e; exfalso; omega) | (intro e; subst e) | intro _)
        all_goals exact rt1 () rfl
    · repeat' (first | refine stx ?_ | refine And.intro ?_ ?_ | (intro e; exfalso; omega) | (intro e; subst e) | intro _)
      exact rt1 () rfl
end Go.Proofs.Ytbdiabakcgafgaa
