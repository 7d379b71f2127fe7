/- reuse, walked: the stack. -/
import Derived.Test.YtbkpojlbclehaaaRuW4
import Derived.Test.YtbkpojlbclehaaaRuStk
import Derived.Test.YtbkpojlbclehaaaLrW3
import Derived.Test.YtbkpojlbclehaaaSlRev
namespace Go.Ru
open Go.Sl
theorem u32s_snocU {A : List Nat} {x : Nat} : Lk.u32s (A ++ [x]) = Lk.u32s A ++ [.int .u32 (x : Nat)] := by simp [Lk.u32s]
theorem lru_useR {L : List Nat} {z : Nat} (h : z ∈ L) : Lr.useL L z = L.erase z ++ [z] := if_pos h
theorem lru_newR {L : List Nat} {z : Nat} (h : z ∉ L) (h2 : z < 4194304) : Lr.addL L z = L ++ [z] := by
  have h3 : Lr.addE L z = 0 := by unfold Lr.addE; rw [if_neg (by omega), if_neg h]
  exact Lr.addL_ok h3
end Go.Ru
namespace Go.Proofs.Ytbkpojlbclehaaa
open Go.Lk Go.Sl Go.Ru Go.Lr
attribute [local irreducible] TK TL TC Th Bk Nx fnPost WA TQ OpQ OpN SpecH Rd Ent IterH RoundH Rb Rp fnPostM
attribute [local irreducible] Fld.addE Fld.addF Fld.befE Fld.befF Fld.inE Fld.remF Fld.first Fld.last Fld.next Fld.prev Fld.ofR Fld.listOf Fld.joinE Fld.joinF renE renG Fld.at Fld.set Fld.place
attribute [local irreducible] Ru.S Ru.D Ru.lb Ru.upd Ru.cnt Ru.cat Ru.dd Ru.stk Ru.rv Ru.hitsL Ru.ks Ru.ix Ru.LI Lr.addL Lr.addE Lr.useL Lr.remE
theorem ru_stack_bad (a : Option Addr) (n cap : Nat) (h : 4096 < n) (h2 : n ≤ 5000) : SpecH Try.prog 39 #[.slice a n cap] [] (fun _ : Unit => .tuple #[.slice none 0 0, .int .i64 5]) (fun _ => []) := by
  refine spec_of_m Try.func39 rfl Try.ntmps39 rfl [(0, _)] rfl ?_; intro base F l0 hl0; (try simp only [List.cons_append] at hl0); (try simp only [List.nil_append] at hl0); subst hl0
  repeat' (first | refine stw ?_ | refine And.intro ?_ ?_ | (intro e; exfalso; omega) | (intro e; subst e) | intro _)
  exact rm2 () rfl
set_option maxHeartbeats 8000000 in
instance ru_stack : Known Try.prog 39 (∀ (a : Option Addr) (n cap : Nat) (tr : List Nat), n = tr.length → n ≤ 4096 → (∀ k ∈ tr, k < 4294967296) → SpecH Try.prog 39 #[.slice a n cap] [RoS 1 a n cap (u32s tr)] (fun q : Option Addr × Nat => .tuple #[.slice q.1 (stk tr n).length q.2, .int .i64 0]) (fun q => [RoS 1 q.1 (stk tr n).length q.2 (u32s (stk tr n))])) := ⟨fun a n cap tr hn hx hlt => by
  subst hn
  refine spec_of_m Try.func39 rfl Try.ntmps39 rfl [(0, _)] rfl ?_; intro base F l0 hl0; (try simp only [List.cons_append] at hl0); (try simp only [List.nil_append] at hl0); subst hl0
  repeat' (first | refine stw ?_ | refine And.intro ?_ ?_ | (intro e; exfalso; omega) | (intro e; subst e) | intro _)
  rename_i pl bm bk
  refine tc_lp (ι := {x : Nat × Nat × (Option Addr × Nat) × List (Nat × Nat) × List Nat × List Nat // x.1 ≤ tr.length ∧ KM tr x.1 x.2.2.2.1 ∧ x.2.2.2.2.1 = ks tr x.1 ∧ x.2.2.2.2.2 = LI tr x.1 ∧ x.2.1 = x.2.2.2.2.1.length}) [20] (fun e x => (20, .int .i64 (x.1.1 : Nat)) :: e)
    (fun x => [LruAt pl x.1.2.2.2.2.2, MapA .u32 (fun n : Nat => .int .u32 (n : Nat)) bm x.1.2.2.2.1, obj bk 38 [.slice x.1.2.2.1.1 x.1.2.1 x.1.2.2.1.2], Vec 34 1 x.1.2.2.1.1 x.1.2.1 x.1.2.2.1.2 (u32s x.1.2.2.2.2.1), RoS 1 a tr.length cap (u32s tr), F]) (fun x => tr.length - x.1.1) ⟨(0, 0, (none, 0), [], [], []), by omega, KM.zero, ks_zero.symm, LI_zero.symm, rfl⟩ ?_
    (hl := by show Ent _ [LruAt pl [], MapA .u32 (fun n : Nat => .int .u32 (n : Nat)) bm [], obj bk 38 [.slice none 0 0], Vec 34 1 none 0 0 [], RoS 1 a tr.length cap (u32s tr), F]; exact en)
  rintro K ⟨⟨i, k, ⟨b, c⟩, kv, kl, L⟩, hi, hkm, hkl, hL, hk⟩ hK
  dsimp only at hi hkm hkl hL hk ⊢
  have hkn := ks_len (tr := tr) (i := i)
  rw [← hkl] at hkn
  by_cases hc : i < tr.length
  · have hxl := hlt _ (mem_getD hc)
    by_cases hin : tr.getD i 0 ∈ stk tr i
    · have hm := hkm.yes hin
      have hix := ix_lt hin
      obtain ⟨u1, u2⟩ := LI_use hc hin
      rw [← hkl] at hix
      rw [← hL] at u1 u2
      have hus := lru_useR u1
      rw [u2] at hus
      repeat' (first | refine stw ?_ | refine And.intro ?_ ?_ | (intro e; exfalso; omega) | (intro e; subst e) | intro _)
      rw [hus]
      exact again hK ⟨(i + 1, k, (b, c), kv, kl, LI tr (i + 1)), by omega, hkm.old hc hin, by dsimp only; rw [ks_old hc hin]; exact hkl, rfl, hk⟩
    · have hm := hkm.no hin
      obtain ⟨u1, u2⟩ := LI_add hc hin
      rw [← hL, ← hkl, ← hk] at u1 u2
      have had := lru_newR u1 (by omega)
      rw [u2] at had
      repeat' (first | refine stw ?_ | refine And.intro ?_ ?_ | (intro e; exfalso; omega) | (intro e; subst e) | intro _)
      rename_i _ b2 c2
      rw [had, ← u32s_snocU]
      exact again hK ⟨(i + 1, k + 1, (b2, c2), mput kv (tr.getD i 0) k, kl ++ [tr.getD i 0], LI tr (i + 1)), by omega, by dsimp only; rw [hk, hkl]; exact hkm.new hc hin, by dsimp only; rw [ks_new hc hin, hkl], rfl, by dsimp only; rw [hk]; simp⟩
  · obtain rfl : i = tr.length := by omega
    repeat' (first | refine stw ?_ | refine And.intro ?_ ?_ | (intro e; exfalso; omega) | (intro e; subst e) | intro _)
    rename_i bo c2
    have hx : (u32a L).length = L.length := by simp [u32a]
    refine tc_rangeFunc (xs := u32a L) (own := [SeqC c2 L]) (R := [LruAt pl L, MapA .u32 (fun n : Nat => .int .u32 (n : Nat)) bm kv, RoS 1 a tr.length cap (u32s tr), F]) (fun i => Exs (ι := Option Addr × Nat) fun q => [obj bo 38 [.slice q.1 i q.2], Vec 34 1 q.1 i q.2 (u32s ((L.take i).map fun n => kl.getD n 0)), obj bk 38 [.slice b k c], Vec 34 1 b k c (u32s kl)]) (fun _ _ => fact False) (seq_iter c2 _) rfl (by decide) (by intro a ha; simp only [u32a, List.mem_map] at ha; obtain ⟨_, _, rfl⟩ := ha; rfl) ?_ ?_ ?_ ?_
    · refine Ent.trans ?_ (Ent.exs (none, 0) (Ent.refl _))
      show Ent _ [obj bo 38 [.slice none 0 0], Vec 34 1 none 0 0 [], obj bk 38 [.slice b k c], Vec 34 1 b k c (u32s kl), SeqC c2 L, LruAt pl L, MapA .u32 (fun n : Nat => .int .u32 (n : Nat)) bm kv, RoS 1 a tr.length cap (u32s tr), F]
      exact en
    · intro lp rec i a hst hpe ha base F
      have hi : i < L.length := by rw [← hx]; exact (List.getElem?_eq_some_iff.1 ha).1
      obtain rfl : a = [.int .u32 (L.getD i 0 : Nat)] := by rw [u32a_get hi] at ha; exact (Option.some.inj ha).symm
      have hlt2 : L.getD i 0 < k := by
        rw [hk, hkl]
        exact LI_lt (i := tr.length) (by rw [← hL]; exact mem_getD hi)
      have hLl : L.length ≤ 4096 := by
        rw [hL, LI_len]
        have := stk_len_le (tr := tr) (i := tr.length)
        omega
      refine TC.exs (f := fun q : Option Addr × Nat => [obj bo 38 [.slice q.1 i q.2], Vec 34 1 q.1 i q.2 (u32s ((L.take i).map fun n => kl.getD n 0)), obj bk 38 [.slice b k c], Vec 34 1 b k c (u32s kl)]) (by (repeat (first | (with_reducible exact Rem.here _ _) | (with_reducible apply Rem.there) | fail)); done) fun ⟨q1, q2⟩ => ?_
      simp only [List.cons_append, List.nil_append, putsE]
      repeat' (first | refine stw ?_ | refine And.intro ?_ ?_ | (intro e; exfalso; omega) | (intro e; subst e) | intro _)
      refine rb hst ?_
      repeat' (first | ((fail_if_success (refine atD ?_)); refine stw ?_) | refine And.intro ?_ ?_ | (intro e; exfalso; omega) | (intro e; subst e) | intro _)
      refine drx [obj bo 38 [.slice q1 i q2], Vec 34 1 q1 i q2 (u32s ((L.take i).map fun n => kl.getD n 0))] ?_
      refine tks [1, 2, 3, 4] 4 ?_; repeat' (first | refine stw ?_ | refine And.intro ?_ ?_ | (intro e; exfalso; omega) | (intro e; subst e) | intro _)
      refine hvq 0 5 fun x5 => ?_
      refine hv 6 fun x6 => ?_
      refine hv0 7 fun x7 => ?_
      repeat' (first | refine stw ?_ | refine And.intro ?_ ?_ | (intro e; exfalso; omega) | (intro e; subst e) | intro _)
      refine rp hst hpe ?_
      refine Ent.trans ?_ (b := Exs (ι := Option Addr × Nat) (fun q => [obj bo 38 [.slice q.1 (i + 1) q.2], Vec 34 1 q.1 (i + 1) q.2 (u32s ((L.take (i + 1)).map fun n => kl.getD n 0)), obj bk 38 [.slice b k c], Vec 34 1 b k c (u32s kl)]) :: blk lp (.loop rec) :: [F]) en
      refine Ent.exs (x6.1, x6.2) ?_
      have e : u32s ((L.take i).map fun n => kl.getD n 0) ++ [.int .u32 (kl.getD (L.getD i 0) 0 : Nat)] = u32s ((L.take (i + 1)).map fun n => kl.getD n 0) := by
        rw [List.getD_eq_getElem?_getD (l := L), List.getElem?_eq_getElem hi]; simp only [u32s, Option.getD_some, ← List.take_append_getElem hi, List.map_append, List.map_cons, List.map_nil]
      rw [← e]
      exact en
    · intro rb
      rw [hx, List.take_length]
      have hks : (L.map fun n => kl.getD n 0) = (stk tr tr.length).reverse := by rw [hL, hkl]; exact LI_keys
      have hll : L.length = (stk tr tr.length).length := by rw [hL]; exact LI_len
      have hsl := stk_len_le (tr := tr) (i := tr.length)
      rw [hks, hll]
      simp only [List.cons_append, List.nil_append]
      refine TK.exs (f := fun q : Option Addr × Nat => [obj bo 38 [.slice q.1 (stk tr tr.length).length q.2], Vec 34 1 q.1 (stk tr tr.length).length q.2 (u32s (stk tr tr.length).reverse), obj bk 38 [.slice b k c], Vec 34 1 b k c (u32s kl)]) (by (repeat (first | (with_reducible exact Rem.here _ _) | (with_reducible apply Rem.there) | fail)); done) fun ⟨q1, q2⟩ => ?_
      simp only [List.cons_append, List.nil_append]
      have hml : (stk tr tr.length).length = (stk tr tr.length).reverse.length := by simp
      have hrv := List.reverse_reverse (stk tr tr.length)
      repeat' (first | refine stw ?_ | refine And.intro ?_ ?_ | (intro e; exfalso; omega) | (intro e; subst e) | intro _)
      rw [hrv]
      refine frz q1 ?_
      exact rm2 (q1, q2) rfl
    · intro rb i c
      exact tc_factF⟩
end Go.Proofs.Ytbkpojlbclehaaa
