/- The laws of segment, walked: few calls; what calls leave. -/
import Derived.Test.YtbkpojlbclehaaaSgL2
import Derived.Test.YtbkpojlbclehaaaSgR1
namespace Go.Sg
/-- A call. -/
structure SAct where
  what : Int
  slot : Nat
  n : Int
  to : List Nat
/-- What was demoted last is the newest one. -/
def LastOk (P : List It) (G : List Nat) : Prop := G.length ≤ P.length ∧ ((0 < G.length ∧ 0 < P.length ∧ (P.getD (P.length - 1) (0, 0)).1 = G.getD (G.length - 1) 0) ∨ G.length = 0)
theorem lastOk_nil {P : List It} : LastOk P [] := ⟨Nat.zero_le _, .inr rfl⟩
theorem lastOk_app {P X : List It} : LastOk (P ++ X) (sl X) := by
  have hl : (sl X).length = X.length := sl_len
  refine ⟨by rw [List.length_append]; omega, ?_⟩
  rcases Nat.eq_zero_or_pos X.length with hX | hX
  · exact .inr (by omega)
  refine .inl ⟨by omega, by rw [List.length_append]; omega, ?_⟩
  have e1 : (P ++ X).getD ((P ++ X).length - 1) (0, 0) = X.getD (X.length - 1) (0, 0) := by
    rw [List.getD_eq_getElem?_getD, List.getD_eq_getElem?_getD, List.length_append, List.getElem?_append_right (by omega)]
    congr 2; omega
  rw [e1, hl, sl_getD (by omega)]
section
variable {P T : List It} {L z : Int} {k : Nat}
theorem add_case : AddTo P T L k z (P ++ [(k, z.toNat)]) T 0 ∨ ∃ e, e ≠ 0 ∧ AddTo P T L k z P T e := by
  by_cases h1 : fair k z
  · by_cases h2 : isIn ⟨P, T, L⟩ k
    · refine .inr ⟨11, by decide, ?_, ?_, ?_⟩
      · unfold addS; rw [if_neg (fun h => h.2 h2)]
      · unfold addS; rw [if_neg (fun h => h.2 h2)]
      · unfold addE; rw [if_neg (fun h => h h1), if_pos h2]
    · refine .inl ⟨?_, ?_, ?_⟩
      · unfold addS; rw [if_pos ⟨h1, h2⟩]
      · unfold addS; rw [if_pos ⟨h1, h2⟩]
      · unfold addE; rw [if_neg (fun h => h h1), if_neg h2]
  · refine .inr ⟨2, by decide, ?_, ?_, ?_⟩
    · unfold addS; rw [if_neg (fun h => h1 h.1)]
    · unfold addS; rw [if_neg (fun h => h1 h.1)]
    · unfold addE; rw [if_pos h1]
theorem rm_len {X : List It} (hn : (sl X).Nodup) : (k ∈ sl X → (rm X k).length + 1 = X.length) ∧ (k ∉ sl X → (rm X k).length = X.length) := by
  constructor
  · intro h
    have e := congrArg List.length (rm_sl (k := k) hn)
    rw [sl_len, List.length_erase_of_mem h, sl_len] at e
    have : 0 < X.length := by rw [← sl_len]; exact List.length_pos_of_mem h
    omega
  · intro h; rw [rm_none h]
theorem rm_both (iv : Inv ⟨P, T, L⟩) (h : isIn ⟨P, T, L⟩ k) : (rm P k).length + (rm T k).length + 1 = P.length + T.length := by
  obtain ⟨n1, n2, n3⟩ := iv.parts
  rcases h with h | h
  · have := (rm_len n1).1 h
    have := (rm_len n2).2 (n3 _ h)
    omega
  · have := (rm_len n2).1 h
    have := (rm_len n1).2 (fun x => n3 _ x h)
    omega
theorem rem_case (iv : Inv ⟨P, T, L⟩) : (∃ P' T', RemTo P T L k P' T' 0 ∧ P'.length + T'.length + 1 = P.length + T.length) ∨ ∃ e, e ≠ 0 ∧ RemTo P T L k P T e := by
  by_cases h : isIn ⟨P, T, L⟩ k
  · refine .inl ⟨rm P k, rm T k, ⟨rfl, rfl, ?_⟩, rm_both iv h⟩
    have : k < 4194304 := h.elim (iv.pslot k) (iv.tslot k)
    unfold remE; rw [if_neg (by omega), if_pos h]
  · have e1 : rm P k = P := rm_none fun x => h (.inl x)
    have e2 : rm T k = T := rm_none fun x => h (.inr x)
    by_cases hk : 4194304 ≤ k
    · exact .inr ⟨2, by decide, e1, e2, if_pos hk⟩
    · exact .inr ⟨9, by decide, e1, e2, by unfold remE; rw [if_neg hk, if_neg h]⟩
theorem demS_len {s : St} : (demS s).P.length + (demS s).T.length = s.P.length + s.T.length := by
  unfold demS
  have := demN_le (L := s.L) (T := s.T)
  simp only [List.length_append, List.length_take, List.length_drop]
  omega
theorem demS_last {s : St} : LastOk (demS s).P (demG s) := lastOk_app
theorem lim_case : (∃ P' T' G, LimTo P T L z P' T' z G 0 ∧ P'.length + T'.length = P.length + T.length ∧ LastOk P' G) ∨ LimTo P T L z P T L [] 2 := by
  by_cases h : z < -1 ∨ 1099511627776 < z
  · refine .inr ⟨?_, ?_, ?_, ?_, ?_⟩
    · unfold limS; rw [if_pos h]
    · unfold limS; rw [if_pos h]
    · unfold limS; rw [if_pos h]
    · unfold limG; rw [if_pos h]
    · unfold limE; rw [if_pos h]
  · refine .inl ⟨(demS ⟨P, T, z⟩).P, (demS ⟨P, T, z⟩).T, demG ⟨P, T, z⟩, ⟨?_, ?_, ?_, ?_, ?_⟩, demS_len, demS_last⟩
    · unfold limS; rw [if_neg h]
    · unfold limS; rw [if_neg h]
    · unfold limS; rw [if_neg h]; rfl
    · unfold limG; rw [if_neg h]
    · unfold limE; rw [if_neg h]
theorem use_case (iv : Inv ⟨P, T, L⟩) : ∃ P' T' G e, UseTo P T L k z P' T' G e ∧ P'.length + T'.length = P.length + T.length ∧ LastOk P' G := by
  refine ⟨_, _, _, _, ⟨rfl, rfl, rfl, rfl⟩, ?_⟩
  unfold useS useG
  split
  · rename_i h
    refine ⟨?_, demS_last⟩
    rw [demS_len]
    have := rm_both iv h.2
    unfold midS
    dsimp only
    split
    · dsimp only; rw [List.length_append, List.length_singleton]; omega
    · dsimp only; rw [List.length_append, List.length_singleton]; omega
  · exact ⟨rfl, lastOk_nil⟩
end
end Go.Sg
namespace Go.Proofs.Ytbkpojlbclehaaa
open Go.Lk Go.Sl Go.Lr Go.Sg
section
variable {r0 : Option Nat} {P : Program} {base : World} {n : Nat} {ds : List Deferred} {Q : Exit → Act → World → Prop} {env : Env} {l r : List HP} {c : Code}
theorem sg_allR {α : Type} {g : Value → α → HP} {vs : List Value} {xs : List α} {i : Nat} {v : Value} {x : α} (hv : vs[i]? = some v) (hx : xs[i]? = some x) (h : TC r0 P base n ds c Q env (g v x :: l)) (hr : Rem l (AllR g vs xs) r := by (repeat (first | (with_reducible exact Rem.here _ _) | (with_reducible apply Rem.there) | fail)); done) : TC r0 P base n ds c Q env l := TC.ent (l' := g v x :: l) (fun _ y => allR_get hr hv hx y) h
theorem sg_to {As : Nat → Sg.SAct} {ta : Nat → Option Addr} {tc : Nat → Nat} {m i : Nat} (hi : i < m) (h : TC r0 P base n ds c Q env (RoS 1 (ta i) (As i).to.length (tc i) (u32s (As i).to) :: l)) (hr : Rem l (AllR RU ((List.range m).map fun i => .slice (ta i) (As i).to.length (tc i)) ((List.range m).map fun i => (As i).to)) r := by (repeat (first | (with_reducible exact Rem.here _ _) | (with_reducible apply Rem.there) | fail)); done) : TC r0 P base n ds c Q env l := by
  have hv1 : ((List.range m).map fun i => (.slice (ta i) (As i).to.length (tc i) : Value))[i]? = some (.slice (ta i) (As i).to.length (tc i)) := by simp [hi]
  have hx1 : ((List.range m).map fun i => (As i).to)[i]? = some (As i).to := by simp [hi]
  refine sg_allR (g := RU) hv1 hx1 ?_ hr
  refine RU.openC (.here _ _) fun a q e => ?_
  obtain ⟨rfl, rfl⟩ : ta i = a ∧ tc i = q := by simp at e; exact e
  exact TC.ent (Ent.cons (.here _ _) (fun _ y => lst_drop y)) h
end
attribute [local irreducible] TK TL TC Th Bk Nx fnPost WA TQ OpQ OpN SpecH Rd Ent IterH RoundH Rb Rp fnPostM
instance (As : Nat → Sg.SAct) (ta : Nat → Option Addr) (tc : Nat → Nat) : Width (fun i => ([.int .i64 (As i).what, .int .u32 ((As i).slot : Nat), .int .i64 (As i).n, .slice (ta i) (As i).to.length (tc i)] : List Value)) 4 := ⟨fun _ => rfl⟩
set_option maxRecDepth 20000 in
set_option maxHeartbeats 4000000 in
instance sgl_few : Known Try.prog 17 (∀ (a : Option Addr) (n cap : Nat) (As : Nat → Sg.SAct) (ta : Nat → Option Addr) (tc : Nat → Nat), SpecH Try.prog 17 #[.slice a n cap] [RoS 4 a n cap (rows n fun i => [.int .i64 (As i).what, .int .u32 ((As i).slot : Nat), .int .i64 (As i).n, .slice (ta i) (As i).to.length (tc i)]), AllR RU ((List.range n).map fun i => .slice (ta i) (As i).to.length (tc i)) ((List.range n).map fun i => (As i).to)]
    (fun b : {b : Bool // b = true → n ≤ 40 ∧ ∀ i, i < n → (As i).to.length ≤ 100} => .bool b.1) (fun _ => [])) := ⟨fun a n cap As ta tc => by
  refine spec_of Try.func17 rfl Try.ntmps17 rfl [(0, _)] rfl ?_; intro base F l0 hl0; (try simp only [List.cons_append] at hl0); (try simp only [List.nil_append] at hl0); subst hl0
  repeat' (first | refine stw ?_ | refine And.intro ?_ ?_ | (intro e; exfalso; omega) | (intro e; subst e) | intro _)
  refine tc_lp (ι := {i : Nat // i ≤ n ∧ i ≤ 41 ∧ ∀ j, j < i → (As j).to.length ≤ 100}) [3] (fun e x => (3, .int .i64 (x.1 : Nat)) :: e) (fun _ => [RoS 4 a n cap (rows n fun i => [.int .i64 (As i).what, .int .u32 ((As i).slot : Nat), .int .i64 (As i).n, .slice (ta i) (As i).to.length (tc i)]), AllR RU ((List.range n).map fun i => .slice (ta i) (As i).to.length (tc i)) ((List.range n).map fun i => (As i).to), F]) (fun x => 41 - x.1) ⟨0, by omega, by omega, by omega⟩ ?_
  rintro K ⟨i, h1, h2, h3⟩ hK
  dsimp only at h1 h2 h3 ⊢
  by_cases hc : i < n ∧ i < 41
  · by_cases hl : (As i).to.length ≤ 100
    · refine sg_to (As := As) (ta := ta) (tc := tc) hc.1 ?_
      rcases Classical.em (((As i).slot : Int) < 4194304) with h6 | h6
      all_goals (repeat' (first | refine stw ?_ | refine And.intro ?_ ?_ | (intro e; exfalso; omega) | (intro e; subst e) | intro _))
      all_goals first
        | exact rt1 ⟨false, fun h => by cases h⟩ rfl
        | (refine tc_lp (ι := {k : Nat // k ≤ (As i).to.length}) [4] (fun e x => (4, .int .i64 (x.1 : Nat)) :: e) (fun _ => [RoS 1 (ta i) (As i).to.length (tc i) (u32s (As i).to), RoS 4 a n cap (rows n fun i => [.int .i64 (As i).what, .int .u32 ((As i).slot : Nat), .int .i64 (As i).n, .slice (ta i) (As i).to.length (tc i)]), AllR RU ((List.range n).map fun i => .slice (ta i) (As i).to.length (tc i)) ((List.range n).map fun i => (As i).to), F]) (fun x => (As i).to.length - x.1) ⟨0, by omega⟩ ?_
           rintro K2 ⟨k, hk⟩ hK2
           dsimp only at hk ⊢
           by_cases hkl : k < (As i).to.length
           · rcases Classical.em ((((As i).to.getD k 0 : Nat) : Int) < 4194304) with h7 | h7
             all_goals (repeat' (first | refine stw ?_ | refine And.intro ?_ ?_ | (intro e; exfalso; omega) | (intro e; subst e) | intro _))
             all_goals first
               | exact rt1 ⟨false, fun h => by cases h⟩ rfl
               | exact again hK2 ⟨k + 1, by omega⟩
           · repeat' (first | refine stw ?_ | refine And.intro ?_ ?_ | (intro e; exfalso; omega) | (intro e; subst e) | intro _)
             exact again hK ⟨i + 1, by omega, by omega, fun j hj => by
               rcases Nat.lt_or_ge j i with h | h
               · exact h3 j h
               · obtain rfl : j = i := by omega
                 exact hl⟩)
    · repeat' (first | refine stw ?_ | refine And.intro ?_ ?_ | (intro e; exfalso; omega) | (intro e; subst e) | intro _)
      exact rt1 ⟨false, fun h => by cases h⟩ rfl
  · repeat' (first | refine stw ?_ | refine And.intro ?_ ?_ | (intro e; exfalso; omega) | (intro e; subst e) | intro _)
    all_goals first
      | exact rt1 ⟨false, fun h => by cases h⟩ rfl
      | exact rt1 ⟨true, fun _ => ⟨by omega, fun j hj => h3 j (by omega)⟩⟩ rfl
      | exact rt1 ⟨decide ((n : Int) ≤ 40), fun h => by
          have h4 : (n : Int) ≤ 40 := of_decide_eq_true h
          exact ⟨by omega, fun j hj => h3 j (by omega)⟩⟩ rfl⟩
end Go.Proofs.Ytbkpojlbclehaaa
