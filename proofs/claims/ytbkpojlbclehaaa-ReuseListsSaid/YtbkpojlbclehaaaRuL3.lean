/- The laws of reuse, walked: a list that is used request by request. -/
import Derived.Test.YtbkpojlbclehaaaRuL2
namespace Go.Ru
/-- A slot comes, what a list is then. -/
structure AddTo (L : List Nat) (s : Nat) (L' : List Nat) : Prop where
  nm : s ∉ L
  eq : L ++ [s] = L'
/-- A slot is used, what a list is then. -/
structure UseTo (L : List Nat) (s : Nat) (L' : List Nat) : Prop where
  nm : s ∈ L
  eq : L.erase s ++ [s] = L'
end Go.Ru
namespace Go.Proofs.Ytbkpojlbclehaaa
open Go.Lk Go.Sl Go.Ru Go.Lr
attribute [local irreducible] TK TL TC Th Bk Nx fnPost WA TQ OpQ OpN SpecH Rd Ent IterH RoundH Rb Rp fnPostM
attribute [local irreducible] Fld.addE Fld.addF Fld.befE Fld.befF Fld.inE Fld.remF Fld.first Fld.last Fld.next Fld.prev Fld.ofR Fld.listOf Fld.joinE Fld.joinF renE renG Fld.at Fld.set Fld.place
theorem rl_has : Known Try.prog 26 (∀ (p : Nat) (L : List Nat) (xs : Int) (s : Nat) [NatI xs s] (b : Bool), InB L s b → s < 4294967296 → SpecH Try.prog 26 #[.pointer (some ⟨p, 0, none⟩), .int .u32 xs] [LruAt p L] (fun _ : Unit => .bool b) (fun _ => [LruAt p L])) := ⟨fun p L xs s _ b hb hs => by
  have h := lr_has.out p L xs s hs
  rwa [hb.out] at h⟩
theorem rl_use : Known Try.prog 27 (∀ (p : Nat) (L : List Nat) (xs : Int) (s : Nat) [NatI xs s] (L' : List Nat), UseTo L s L' → s < 4194304 → SpecH Try.prog 27 #[.pointer (some ⟨p, 0, none⟩), .int .u32 xs] [LruAt p L] (fun _ : Unit => .int .i64 0) (fun _ => [LruAt p L'])) := ⟨fun p L xs s _ L' hu hs => by
  have h := lr_use.out p L xs s (by omega)
  have e : Lr.remE L s = 0 := by unfold Lr.remE; rw [if_neg (by omega), if_pos hu.nm]
  rwa [e, lru_useR hu.nm, hu.eq] at h⟩
theorem rl_add : Known Try.prog 29 (∀ (p : Nat) (L : List Nat) (xs : Int) (s : Nat) [NatI xs s] (L' : List Nat), AddTo L s L' → s < 4194304 → SpecH Try.prog 29 #[.pointer (some ⟨p, 0, none⟩), .int .u32 xs] [LruAt p L] (fun _ : Unit => .int .i64 0) (fun _ => [LruAt p L'])) := ⟨fun p L xs s _ L' hu hs => by
  have h := lr_add.out p L xs s (by omega)
  have e : Lr.addE L s = 0 := by unfold Lr.addE; rw [if_neg (by omega), if_neg hu.nm]
  rwa [e, lru_newR hu.nm hs, hu.eq] at h⟩
theorem rl_old : Known Try.prog 48 (∀ (p y : Nat) (L : List Nat), SpecH Try.prog 48 #[.pointer (some ⟨p, 0, none⟩)] [LruAt p (y :: L)] (fun _ : Unit => .tuple #[.int .u32 (y : Nat), .int .i64 0]) (fun _ => [LruAt p (y :: L)])) := ⟨fun p y L => by
  have h := lr_oldest.out p (y :: L)
  rwa [if_neg (by simp)] at h⟩
theorem rl_rem : Known Try.prog 49 (∀ (p y : Nat) (L : List Nat), y < 4194304 → SpecH Try.prog 49 #[.pointer (some ⟨p, 0, none⟩), .int .u32 (y : Nat)] [LruAt p (y :: L)] (fun _ : Unit => .int .i64 0) (fun _ => [LruAt p L])) := ⟨fun p y L hy => by
  have h := lr_remove.out p (y :: L) (y : Nat) y (by omega)
  have e : Lr.remE (y :: L) y = 0 := by unfold Lr.remE; rw [if_neg (by omega), if_pos (by simp)]
  rwa [e, List.erase_cons_head] at h⟩
attribute [local irreducible] Ru.S Ru.D Ru.lb Ru.upd Ru.cnt Ru.cat Ru.dd Ru.stk Ru.rv Ru.hitsL Ru.ks Ru.ix Ru.LI Ru.LS Ru.G9 Ru.dL Lr.addL Lr.addE Lr.useL Lr.remE
set_option maxHeartbeats 8000000 in
theorem rul_lists (a : Option Addr) (c : Nat) (tr : List Nat) (hlt : ∀ k ∈ tr, k < 4294967296) (z : Int) : SpecH Try.prog 12 #[.slice a tr.length c, .int .i64 z] [RoS 1 a tr.length c (u32s tr)] (fun _ : Unit => .bool true) (fun _ => []) := by
  haveI := ru_hits
  haveI := rl_has
  haveI := rl_use
  haveI := rl_add
  haveI := rl_old
  haveI := rl_rem
  by_cases hn : tr.length ≤ 120 ∧ 0 ≤ z ∧ z ≤ 30
  · obtain ⟨hn, h1, h2⟩ := hn
    obtain ⟨s, rfl⟩ : ∃ N : Nat, z = N := ⟨z.toNat, by omega⟩
    refine spec_of Try.func12 rfl Try.ntmps12 rfl [(0, _), (1, _)] rfl ?_; intro base F l0 hl0; (try simp only [List.cons_append] at hl0); (try simp only [List.nil_append] at hl0); subst hl0
    repeat' (first | refine stw ?_ | refine And.intro ?_ ?_ | (intro e; exfalso; omega) | (intro e; subst e) | intro _)
    rename_i pl
    refine tc_lp (ι := {x : Nat × Nat × List Nat // x.1 ≤ tr.length ∧ x.2.1 = cnt tr s x.1 ∧ x.2.2 = LS tr s x.1}) [6, 7] (fun e x => (6, .int .i64 (x.1.2.1 : Nat)) :: (7, .int .i64 (x.1.1 : Nat)) :: e) (fun x => [LruAt pl x.1.2.2, RoS 1 a tr.length c (u32s tr), F]) (fun x => tr.length - x.1.1) ⟨(0, 0, []), by omega, by unfold cnt; rfl, LS_zero.symm⟩ ?_
    rintro K ⟨⟨i, w, L⟩, hi, hw, hL⟩ hK
    dsimp only at hi hw hL ⊢
    have hcl := cnt_le (tr := tr) (s := s) (i := i)
    have hLs : L.length ≤ s := by rw [hL]; exact LS_len
    refine LruAt.factsC fun _ hL4 _ => ?_
    by_cases hc : i < tr.length
    · have hcs := cnt_step (tr := tr) (s := s) (i := i)
      have hit := LS_hit (tr := tr) (i := i) (s := s)
      by_cases hk : 1000 ≤ tr.getD i 0
      · repeat' (first | refine stw ?_ | refine And.intro ?_ ?_ | (intro e; exfalso; omega) | (intro e; subst e) | intro _)
        exact rt1 () rfl
      by_cases hin : tr.getD i 0 ∈ LS tr s i
      · rw [if_pos (hit.1 hin)] at hcs
        have hb : InB L (tr.getD i 0) true := ⟨decide_eq_true (hL ▸ hin)⟩
        have hu : UseTo L (tr.getD i 0) (LS tr s (i + 1)) := ⟨hL ▸ hin, by rw [hL]; exact LS_use hc hin⟩
        repeat' (first | refine stw ?_ | refine And.intro ?_ ?_ | (intro e; exfalso; omega) | (intro e; subst e) | intro _)
        exact again hK ⟨(i + 1, w + 1, LS tr s (i + 1)), by dsimp only; omega, by dsimp only; omega, rfl⟩ (by dsimp only; omega)
      · rw [if_neg (fun h => hin (hit.2 h))] at hcs
        have hb : InB L (tr.getD i 0) false := ⟨decide_eq_false (hL ▸ hin)⟩
        obtain ⟨a1, a2⟩ := LS_add hc hin
        rw [← hL] at a1 a2
        rcases Nat.lt_or_ge L.length s with h3 | h3
        · have e := a1 h3
          have hu : AddTo L (tr.getD i 0) (LS tr s (i + 1)) := ⟨hL ▸ hin, e⟩
          have hl2 := LS_len (tr := tr) (s := s) (i := i + 1)
          repeat' (first | refine stw ?_ | refine And.intro ?_ ?_ | (intro e; exfalso; omega) | (intro e; subst e) | intro _)
          exact again hK ⟨(i + 1, w, LS tr s (i + 1)), by dsimp only; omega, by dsimp only; omega, rfl⟩ (by dsimp only; omega)
        · have e := a2 h3
          obtain ⟨y, M, hyM⟩ := List.exists_cons_of_ne_nil (l := L ++ [tr.getD i 0]) (by simp)
          rw [hyM] at e
          have e2 : M = LS tr s (i + 1) := e
          have hu : AddTo L (tr.getD i 0) (y :: M) := ⟨hL ▸ hin, hyM⟩
          have hml : M.length = L.length := by
            have := congrArg List.length hyM
            simp only [List.length_append, List.length_cons, List.length_nil] at this
            omega
          have hll : (y :: M).length = L.length + 1 := by rw [List.length_cons, hml]
          have hyl : y < 4194304 := by
            have : y ∈ L ++ [tr.getD i 0] := by rw [hyM]; simp
            rcases List.mem_append.1 this with h | h
            · exact hL4 y h
            · rw [List.mem_singleton.1 h]; omega
          repeat' (first | refine stw ?_ | refine And.intro ?_ ?_ | (intro e; exfalso; omega) | (intro e; subst e) | intro _)
          exact again hK ⟨(i + 1, w, M), by dsimp only; omega, by dsimp only; omega, e2⟩ (by dsimp only; omega)
    · obtain rfl : i = tr.length := by omega
      have hKl := stk_len_le (tr := tr) (i := tr.length)
      have hhl := hitsL_len (tr := tr) (K := (stk tr tr.length).length)
      have hcm := cnt_min (tr := tr) (s := s) rfl
      have hat := hitsL_at (tr := tr) (K := (stk tr tr.length).length) (s := min s (stk tr tr.length).length) (by omega)
      rw [hcm] at hat
      have hat2 : (hitsL tr (stk tr tr.length).length).getD (min (s : Int) ((((stk tr tr.length).length + 1 : Nat) : Int) - 1)).toNat 0 = (w : Int) := by
        rw [show (((stk tr tr.length).length + 1 : Nat) : Int) - 1 = ((stk tr tr.length).length : Nat) by omega, minN, hat, hw]
      repeat' (first | refine stw ?_ | refine And.intro ?_ ?_ | (intro e; exfalso; omega) | (intro e; subst e) | intro _)
      exact rt1 () rfl
  · refine spec_of Try.func12 rfl Try.ntmps12 rfl [(0, _), (1, _)] rfl ?_; intro base F l0 hl0; (try simp only [List.cons_append] at hl0); (try simp only [List.nil_append] at hl0); subst hl0
    repeat' (first | refine stw ?_ | refine And.intro ?_ ?_ | (intro e; exfalso; omega) | (intro e; subst e) | intro _)
    all_goals exact rt1 () rfl
end Go.Proofs.Ytbkpojlbclehaaa
