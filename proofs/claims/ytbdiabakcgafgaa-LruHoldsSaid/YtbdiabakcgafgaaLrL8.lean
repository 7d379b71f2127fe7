/- The laws of lru, walked: slots that are used, and what stays. -/
import Derived.Test.YtbdiabakcgafgaaLrL2
import Derived.Test.YtbdiabakcgafgaaSlD
namespace Go.Sl
theorem tc_roTake {r0 : Option Nat} {P : Program} {base : World} {n : Nat} {ds : List Deferred} {Q : Exit → Act → World → Prop} {env : Env} {l r : List HP} {c : Code} {sz m cap : Nat} {a : Option Addr} {cs : List Value} (j : Nat) (hj : j ≤ m) (h : TC r0 P base n ds c Q env (RoS sz a j cap (cs.take (j * sz)) :: l)) (hr : Rem l (RoS sz a m cap cs) r := by (repeat (first | (with_reducible exact Rem.here _ _) | (with_reducible apply Rem.there) | fail)); done) : TC r0 P base n ds c Q env l :=
  TC.ent (l' := RoS sz a j cap (cs.take (j * sz)) :: l) (fun _ y => lst_cons_mono (fun _ z => roS_take j hj z) (fun _ z => z) (hr.keep y)) h
end Go.Sl
namespace Go.Lr
open Go.Lk Go.Sl
theorem used_add {L : List Nat} {s c : Nat} (hs : s ∉ L) (hb : s < 4194304) : addL L s = L ++ [s] ∧ (addL L s).length = L.length + 1 ∧ addE L s = 0 ∧ remE (addL L s) ((addL L s).headD 0) = remE (addL L s) ((addL L s).headD 0) ∧ (addL L s).erase ((addL L s).headD 0) = (addL L s).drop 1 ∧ ((addL L s).drop 1).length = L.length ∧ (addL L s).headD 0 ∈ addL L s ∧ usedL L s c = if c < L.length + 1 then (addL L s).drop 1 else addL L s := by
  have e : addL L s = L ++ [s] := by unfold addL; exact if_neg (fun h => by rcases h with h | h; omega; exact hs h)
  have e2 : addE L s = 0 := by unfold addE; rw [if_neg (by omega), if_neg hs]
  have hl : (L ++ [s]).length = L.length + 1 := by simp
  refine ⟨e, by rw [e, hl], e2, rfl, ?_, by rw [e, List.length_drop, hl]; omega, ?_, ?_⟩
  · rw [e]; cases L <;> simp
  · rw [e]; cases L <;> simp
  · unfold usedL usedM
    rw [if_neg hs, e, hl]
theorem addL_lt' {L : List Nat} {s : Nat} (h : ∀ x ∈ L, x < 4194304) : ∀ x ∈ addL L s, x < 4194304 := by
  unfold addL
  split
  · exact h
  · intro x hx
    rw [List.mem_append, List.mem_singleton] at hx
    rcases hx with hx | rfl
    · exact h x hx
    · omega
theorem used_use {L : List Nat} {s c : Nat} (hs : s ∈ L) (hb : s < 4194304) (hl : L.length ≤ c) : (useL L s).length = L.length ∧ remE L s = 0 ∧ usedL L s c = useL L s := by
  refine ⟨useL_len, by unfold remE; rw [if_neg (by omega), if_pos hs], ?_⟩
  have h1 := List.length_pos_of_mem hs
  have h2 := List.length_erase_of_mem hs
  unfold usedL usedM useL
  rw [if_pos hs, if_neg (by simp; omega), if_pos hs]
theorem full_drop {L : List Nat} {j : Nat} (h0 : 0 < j) (hj : j ≤ L.length) : full (L.drop (j - 1)) = if L.getD (j - 1) 0 ∈ full (L.drop j) then full (L.drop j) else L.getD (j - 1) 0 :: full (L.drop j) := by
  rw [List.drop_eq_getElem_cons (by omega : j - 1 < L.length), show j - 1 + 1 = j by omega, List.getD_eq_getElem?_getD, List.getElem?_eq_getElem (by omega : j - 1 < L.length)]
  rfl
end Go.Lr
namespace Go.Proofs.Ytbdiabakcgafgaa
open Go.Lk Go.Sl Go.Lr
attribute [local irreducible] TK TL TC Th Bk Nx fnPost WA TQ OpQ OpN SpecH Rd Ent IterH RoundH Rb Rp fnPostM
attribute [local irreducible] Lr.addE Lr.addL Lr.remE Lr.useL Lr.renE' Lr.renL Lr.findI Lr.usedL Lr.full Lr.lastN
set_option maxHeartbeats 4000000 in
instance lrl_used : Known Try.prog 40 (∀ (p : Nat) (L : List Nat) (xs : Int) (s : Nat) [NatI xs s] (xc : Int) (c : Nat) [NatI xc c], s < 4194304 → L.length ≤ c → c ≤ 100 → SpecH Try.prog 40 #[.pointer (some ⟨p, 0, none⟩), .int .u32 xs, .int .i64 xc] [LruAt p L] (fun _ : Unit => .bool true) (fun _ => [LruAt p (Lr.usedL L s c)])) := ⟨fun p L xs s _ xc c _ hs hl hc => by
  obtain rfl : xs = (s : Int) := NatI.out
  obtain rfl : xc = (c : Int) := NatI.out
  refine spec_of Try.func40 rfl Try.ntmps40 rfl [(0, _), (1, _), (2, _)] rfl ?_; intro base F l0 hl0; (try simp only [List.cons_append] at hl0); (try simp only [List.nil_append] at hl0); subst hl0
  refine LruAt.factsC fun f1 f2 f3 => ?_
  by_cases hm : s ∈ L
  · obtain ⟨e1, e2, e3⟩ := Lr.used_use (c := c) hm hs hl
    rw [e3]
    repeat' (first | refine stx ?_ | refine And.intro ?_ ?_ | (intro e; exfalso; (first | omega | (apply e; assumption) | exact absurd e (by assumption) | fail)) | (intro e; subst e) | intro _)
    exact rt1 () rfl
  · obtain ⟨_, e2, e3, _, e5, e6, e7, e8⟩ := Lr.used_add (c := c) hm hs
    have e9 : (Lr.addL L s).headD 0 < 4194304 := Lr.addL_lt' f2 _ e7
    have e4 : Lr.remE (Lr.addL L s) ((Lr.addL L s).headD 0) = 0 := by unfold Lr.remE; rw [if_neg (by omega), if_pos e7]
    have e10 : Lr.addL L s ≠ [] := List.ne_nil_of_mem e7
    haveI : Known Try.prog 75 (SpecH Try.prog 75 #[.pointer (some ⟨p, 0, none⟩)] [LruAt p (Lr.addL L s)] (fun _ : Unit => .tuple #[.int .u32 ((Lr.addL L s).headD 0 : Nat), .int .i64 0]) (fun _ => [LruAt p (Lr.addL L s)])) := ⟨by
      have := lr_oldest.out p (Lr.addL L s)
      rw [if_neg e10] at this; exact this⟩
    rw [e8]
    by_cases hlt : c < L.length + 1
    · rw [if_pos hlt, ← e5]
      rw [← e5] at e6
      repeat' (first | refine stx ?_ | refine And.intro ?_ ?_ | (intro e; exfalso; (first | omega | (apply e; assumption) | exact absurd e (by assumption) | fail)) | (intro e; subst e) | intro _)
      exact rt1 () rfl
    · rw [if_neg hlt]
      repeat' (first | refine stx ?_ | refine And.intro ?_ ?_ | (intro e; exfalso; (first | omega | (apply e; assumption) | exact absurd e (by assumption) | fail)) | (intro e; subst e) | intro _)
      exact rt1 () rfl⟩
set_option maxHeartbeats 4000000 in
instance lrl_last : Known Try.prog 43 (∀ (a : Option Addr) (m cap : Nat) (L : List Nat) (xc : Int) (c : Nat) [NatI xc c], m = L.length → m ≤ 4194304 → c ≤ 100 → SpecH Try.prog 43 #[.slice a m cap, .int .i64 xc] [RoS 1 a m cap (u32s L)] (fun q : Option Addr × Nat => .slice q.1 (Lr.lastN c (Lr.full L)).length q.2) (fun q => [RoS 1 q.1 (Lr.lastN c (Lr.full L)).length q.2 (u32s (Lr.lastN c (Lr.full L)))])) := ⟨fun a m cap L xc c _ hm hx hc => by
  obtain rfl : xc = (c : Int) := NatI.out
  subst hm
  refine spec_of Try.func43 rfl Try.ntmps43 rfl [(0, _), (1, _)] rfl ?_; intro base F l0 hl0; (try simp only [List.cons_append] at hl0); (try simp only [List.nil_append] at hl0); subst hl0
  repeat' (first | refine stx ?_ | refine And.intro ?_ ?_ | (intro e; exfalso; omega) | (intro e; subst e) | intro _)
  refine tc_lp (ι := {q : Nat × Option Addr × Nat × Nat × List Nat // q.1 ≤ L.length ∧ q.2.2.2.2 = Lr.full (L.drop q.1) ∧ q.2.2.1 = q.2.2.2.2.length ∧ q.2.2.2.2.length ≤ c}) [5, 6] (fun e q => (5, .slice q.1.2.1 q.1.2.2.1 q.1.2.2.2.1) :: (6, .int .i64 ((q.1.1 : Int) - 1)) :: e)
    (fun q => [RoS 1 q.1.2.1 q.1.2.2.1 q.1.2.2.2.1 (u32s q.1.2.2.2.2), RoS 1 a L.length cap (u32s L), F]) (fun q => q.1.1) ⟨(L.length, none, 0, 0, []), by dsimp only; omega, by dsimp only; rw [List.drop_length]; unfold Lr.full; rfl, rfl, Nat.zero_le _⟩ ?_ (hl := by show Ent _ [RoS 1 none 0 0 [], RoS 1 a L.length cap (u32s L), F]; exact en)
  rintro K ⟨⟨j, qa, qm, qc, M⟩, hj, hM, hm, hlen⟩ hK
  dsimp only at hj hM hm hlen ⊢
  subst hm
  haveI : AsNat ((j : Int) - 1) (j - 1) := ⟨fun _ => by omega⟩
  by_cases hj0 : 0 < j
  · by_cases hlt : M.length < c
    · have hf := Lr.findI_ge (L := M) (s := L.getD (j - 1) 0)
      have hfd := Lr.full_drop hj0 hj
      rw [← hM] at hfd
      by_cases hmem : L.getD (j - 1) 0 ∈ M
      · have := hf.2 hmem
        rw [if_pos hmem] at hfd
        repeat' (first | refine stx ?_ | refine And.intro ?_ ?_ | (intro e; exfalso; omega) | (intro e; subst e) | intro _)
        rw [show ((j : Int) - 1 - 1) = ((j - 1 : Nat) : Int) - 1 by omega]
        exact again hK ⟨(j - 1, qa, M.length, qc, M), by dsimp only; omega, hfd.symm, rfl, hlen⟩
      · have : ¬ 0 ≤ Lr.findI M (L.getD (j - 1) 0) := fun h => hmem (hf.1 h)
        rw [if_neg hmem] at hfd
        repeat' (first | refine stx ?_ | refine And.intro ?_ ?_ | (intro e; exfalso; omega) | (intro e; subst e) | intro _)
        rename_i b1 a5 c5
        rw [show ((j : Int) - 1 - 1) = ((j - 1 : Nat) : Int) - 1 by omega]
        have e1 : (Value.int .u32 (L.getD (j - 1) 0 : Nat) :: u32s M) = u32s (L.getD (j - 1) 0 :: M) := rfl
        rw [e1]
        refine frz a5 ?_
        exact again hK ⟨(j - 1, a5, 1 + M.length, c5, L.getD (j - 1) 0 :: M), by dsimp only; omega, hfd.symm, by dsimp only; rw [List.length_cons]; omega, by dsimp only; rw [List.length_cons]; omega⟩
    · have hq := Lr.last_stop (c := c) (xs := L.take j) (ys := L.drop j) (by rw [← hM]; omega)
      rw [List.take_append_drop, ← hM] at hq
      rw [← hq]
      repeat' (first | refine stx ?_ | refine And.intro ?_ ?_ | (intro e; exfalso; omega) | (intro e; subst e) | intro _)
      exact rt1 (qa, qc) rfl
  · obtain rfl : j = 0 := by omega
    rw [List.drop_zero] at hM
    have hq := Lr.last_all (c := c) (ys := L) (by rw [← hM]; exact hlen)
    rw [← hM] at hq
    rw [← hM, ← hq]
    repeat' (first | refine stx ?_ | refine And.intro ?_ ?_ | (intro e; exfalso; omega) | (intro e; subst e) | intro _)
    exact rt1 (qa, qc) rfl⟩
end Go.Proofs.Ytbdiabakcgafgaa
