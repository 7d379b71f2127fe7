/- The laws of segment, walked: THE THEOREM OF STAGE 16. -/
import Derived.Test.YtbkpojlbclehaaaSgL3
import Derived.Test.YtbkpojlbclehaaaSlD
namespace Go.Sg
theorem still_case {P T : List It} {L : Int} (h : Still ⟨P, T, L⟩) (hl : -1 ≤ L ∧ L ≤ 1099511627776) : (0 ≤ L ∧ (sm T : Int) ≤ L) ∨ (L < 0 ∧ T.length = 0) := by
  by_cases hL : 0 ≤ L
  · refine .inl ⟨hL, ?_⟩
    by_cases hT : T = []
    · subst hT; exact hL
    · by_cases h2 : L < (sm T : Nat)
      · exact absurd ⟨hT, .inr h2⟩ h
      · omega
  · refine .inr ⟨by omega, ?_⟩
    by_cases hT : T = []
    · rw [hT]; rfl
    · exact absurd ⟨hT, .inl (by dsimp only; omega)⟩ h
end Go.Sg
namespace Go.Proofs.Ytbkpojlbclehaaa
open Go.Lk Go.Sl Go.Lr Go.Sg
theorem sgBlkH (id : Nat) {r0 : Option Nat} {P : Program} {base : World} {n : Nat} {ds : List Deferred} {Q : Exit → Act → World → Prop} {env : Env} {l : List HP} {c : Code} (h : TC r0 P base n ds (.block id c) Q env l) : TC r0 P base n ds (.block id c) Q env l := h
attribute [local irreducible] TK TL TC Th Bk Nx fnPost WA TQ OpQ OpN SpecH Rd Ent IterH RoundH Rb Rp fnPostM
attribute [local irreducible] Sg.sm Sg.sl Sg.rm Sg.demN Sg.addS Sg.addE Sg.remS Sg.remE Sg.useS Sg.useE Sg.useG Sg.limS Sg.limE Sg.limG
set_option maxHeartbeats 16000000 in
theorem sgl_holds (z : Int) (a : Option Addr) (n cap : Nat) (As : Nat → Sg.SAct) (ta : Nat → Option Addr) (tc : Nat → Nat) (hA : ∀ i, i < n → (As i).slot < 4294967296 ∧ ∀ x ∈ (As i).to, x < 4294967296) : SpecH Try.prog 4 #[.int .i64 z, .slice a n cap] [RoS 4 a n cap (rows n fun i => [.int .i64 (As i).what, .int .u32 ((As i).slot : Nat), .int .i64 (As i).n, .slice (ta i) (As i).to.length (tc i)]), AllR RU ((List.range n).map fun i => .slice (ta i) (As i).to.length (tc i)) ((List.range n).map fun i => (As i).to)] (fun _ : Unit => .bool true) (fun _ => []) := by
  by_cases hz : -1 ≤ z ∧ z ≤ 1099511627776
  · have hb : NewB z true := ⟨decide_eq_true hz⟩
    obtain ⟨hz1, hz2⟩ := hz
    refine spec_of Try.func4 rfl Try.ntmps4 rfl [(0, _), (1, _)] rfl ?_; intro base F l0 hl0; (try simp only [List.cons_append] at hl0); (try simp only [List.nil_append] at hl0); subst hl0
    haveI := sg_addT
    haveI := sg_removeT
    haveI := sg_useT
    haveI := sg_limitT
    repeat' (first | refine stw ?_ | refine And.intro ?_ ?_ | (intro e; exfalso; omega) | (intro e; subst e) | intro _)
    · exact rt1 () rfl
    · rename_i b5 x hx p
      obtain ⟨hn, hlen⟩ := x.2 (by simpa using hx)
      refine TC.weak (env' := [(0, .int .i64 z), (9, .int .i64 (0 : Nat)), (7, .pointer (some ⟨p, 0, none⟩)), (4, .bool false), (1, .slice a n cap)]) ?_ (by (repeat (first | exact Sub.nil | (apply Sub.cons; exact rfl))); done)
      refine tc_lp (ι := {x : Nat × St // x.1 ≤ n}) [0, 9] (fun e x => (0, .int .i64 x.1.2.L) :: (9, .int .i64 (x.1.1 : Nat)) :: e)
        (fun x => [SegAt p x.1.2.P x.1.2.T x.1.2.L, RoS 4 a n cap (rows n fun i => [.int .i64 (As i).what, .int .u32 ((As i).slot : Nat), .int .i64 (As i).n, .slice (ta i) (As i).to.length (tc i)]), AllR RU ((List.range n).map fun i => .slice (ta i) (As i).to.length (tc i)) ((List.range n).map fun i => (As i).to), F]) (fun x => n - x.1.1) ⟨(0, ⟨[], [], z⟩), by omega⟩ ?_
      rintro K ⟨⟨i, ⟨P, T, L⟩⟩, hi⟩ hK
      dsimp only at hi ⊢
      by_cases hc : i < n
      · obtain ⟨hk, _⟩ := hA i hc
        refine SegAt.factsC fun iv st lp lt => ?_
        have g0 : ListG 0 P T P := ⟨.inl ⟨rfl, rfl⟩⟩
        have g1 : ListG 1 P T T := ⟨.inr (.inl ⟨rfl, rfl⟩)⟩
        repeat' (first | ((fail_if_success (refine sgBlkH 2 ?_)); refine stw ?_) | refine And.intro ?_ ?_ | (intro e; exfalso; omega) | (intro e; subst e) | intro _)
        rename_i b10
        refine cut (ι := {y : St × List Nat × Int × Option Addr × Nat // y.2.2.1 = (y.1.P.length : Int) + (y.1.T.length : Int) ∧ LastOk y.1.P y.2.1}) (fun y => [(0, .int .i64 y.1.1.L), (9, .int .i64 (i : Nat)), (10, .pointer (some ⟨b10, 0, none⟩)), (11, .int .i64 y.1.2.2.1), (12, .slice y.1.2.2.2.1 y.1.2.1.length y.1.2.2.2.2), (7, .pointer (some ⟨p, 0, none⟩)), (4, .bool false), (1, .slice a n cap)])
          (fun y => [obj b10 40 [.int .i64 (As i).what, .int .u32 ((As i).slot : Nat), .int .i64 (As i).n, .slice (ta i) (As i).to.length (tc i)], SegAt p y.1.1.P y.1.1.T y.1.1.L, RoS 1 y.1.2.2.2.1 y.1.2.1.length y.1.2.2.2.2 (u32s y.1.2.1), RoS 4 a n cap (rows n fun i => [.int .i64 (As i).what, .int .u32 ((As i).slot : Nat), .int .i64 (As i).n, .slice (ta i) (As i).to.length (tc i)]), AllR RU ((List.range n).map fun i => .slice (ta i) (As i).to.length (tc i)) ((List.range n).map fun i => (As i).to), F]) ?_ ?_
        · intro K hK2
          by_cases h0 : (As i).what = 0
          · rcases add_case (P := P) (T := T) (L := L) (k := (As i).slot) (z := (As i).n) with u | ⟨e, he, u⟩
            · repeat' (first | refine stw ?_ | refine And.intro ?_ ?_ | (intro e; exfalso; omega) | (intro e; subst e) | intro _)
              exact fin hK2 ⟨(⟨P ++ [((As i).slot, (As i).n.toNat)], T, L⟩, [], (P.length : Int) + (T.length : Int) + 1, none, 0), by dsimp only; rw [List.length_append, List.length_singleton]; omega, lastOk_nil⟩
            · repeat' (first | refine stw ?_ | refine And.intro ?_ ?_ | (intro e; exfalso; omega) | (intro e; subst e) | intro _)
              exact fin hK2 ⟨(⟨P, T, L⟩, [], (P.length : Int) + (T.length : Int), none, 0), rfl, lastOk_nil⟩
          by_cases h1 : (As i).what = 1
          · obtain ⟨P', T', G, e, u, hl, ho⟩ := use_case (k := (As i).slot) (z := (As i).n) iv
            repeat' (first | refine stw ?_ | refine And.intro ?_ ?_ | (intro e; exfalso; omega) | (intro e; subst e) | intro _)
            rename_i qa qc
            exact fin hK2 ⟨(⟨P', T', L⟩, G, (P.length : Int) + (T.length : Int), qa, qc), by dsimp only; omega, ho⟩
          by_cases h2 : (As i).what = 2
          · rcases rem_case (k := (As i).slot) iv with ⟨P', T', u, hl⟩ | ⟨e, he, u⟩
            · repeat' (first | refine stw ?_ | refine And.intro ?_ ?_ | (intro e; exfalso; omega) | (intro e; subst e) | intro _)
              exact fin hK2 ⟨(⟨P', T', L⟩, [], (P.length : Int) + (T.length : Int) - 1, none, 0), by dsimp only; omega, lastOk_nil⟩
            · repeat' (first | refine stw ?_ | refine And.intro ?_ ?_ | (intro e; exfalso; omega) | (intro e; subst e) | intro _)
              exact fin hK2 ⟨(⟨P, T, L⟩, [], (P.length : Int) + (T.length : Int), none, 0), rfl, lastOk_nil⟩
          by_cases h3 : (As i).what = 3
          · rcases lim_case (P := P) (T := T) (L := L) (z := (As i).n) with ⟨P', T', G, u, hl, ho⟩ | u
            · repeat' (first | refine stw ?_ | refine And.intro ?_ ?_ | (intro e; exfalso; omega) | (intro e; subst e) | intro _)
              rename_i qa qc
              exact fin hK2 ⟨(⟨P', T', (As i).n⟩, G, (P.length : Int) + (T.length : Int), qa, qc), by dsimp only; omega, ho⟩
            · repeat' (first | refine stw ?_ | refine And.intro ?_ ?_ | (intro e; exfalso; omega) | (intro e; subst e) | intro _)
              exact fin hK2 ⟨(⟨P, T, L⟩, [], (P.length : Int) + (T.length : Int), none, 0), rfl, lastOk_nil⟩
          · repeat' (first | refine stw ?_ | refine And.intro ?_ ?_ | (intro e; exfalso; omega) | (intro e; subst e) | intro _)
            exact fin hK2 ⟨(⟨P, T, L⟩, [], (P.length : Int) + (T.length : Int), none, 0), rfl, lastOk_nil⟩
        · rintro ⟨⟨⟨P', T', L'⟩, G, many, ga, gc⟩, hm, ho⟩
          clear g0 g1 st iv lp lt
          dsimp only at hm ho ⊢
          subst hm
          refine SegAt.facts fun iv st lp lt => ?_
          have g0 : ListG 0 P' T' P' := ⟨.inl ⟨rfl, rfl⟩⟩
          have g1 : ListG 1 P' T' T' := ⟨.inr (.inl ⟨rfl, rfl⟩)⟩
          obtain ⟨n1, n2, n3⟩ := iv.parts
          have hlim := iv.lim
          dsimp only at hlim
          obtain ⟨hG1, hG2⟩ := ho
          have hdis : ∀ u v, u < P'.length → v < T'.length → (P'.getD u (0, 0)).1 ≠ (T'.getD v (0, 0)).1 := fun u v hu hv e => n3 _ (mem_sl.2 ⟨_, getD_inS hu⟩) (by rw [e]; exact mem_sl.2 ⟨_, getD_inS hv⟩)
          rcases still_case st hlim with ⟨hl0, hl1⟩ | ⟨hl0, hl1⟩
          all_goals (repeat' (first | ((fail_if_success (refine atD ?_)); refine stw ?_) | refine And.intro ?_ ?_ | (intro e; exfalso; omega) | (intro e; subst e) | intro _))
          all_goals (rename_i w1 w2 v1 v2)
          all_goals (rcases hG2 with ⟨hg, hp, he⟩ | hg)
          all_goals (refine drx [] ?_)
          all_goals (refine tks [0, 1, 2, 3, 4, 5, 6, 7, 8, 9, 15, 16, 10, 17, 11, 18, 12, 19, 13, 20, 14, 21, 22, 23] 0 ?_; repeat' (first | refine stw ?_ | refine And.intro ?_ ?_ | (intro e; exfalso; omega) | (intro e; subst e) | intro _))
          all_goals (refine TC.weak (env' := [(17, .int .i64 (0 : Nat)), (15, .slice w1 P'.length w2), (16, .slice v1 T'.length v2), (0, .int .i64 L'), (9, .int .i64 (i : Nat)), (7, .pointer (some ⟨p, 0, none⟩)), (4, .bool false), (1, .slice a n cap)]) ?_ (by (repeat (first | exact Sub.nil | (apply Sub.cons; exact rfl))); done))
          all_goals
            refine tc_lp (ι := {u : Nat // u ≤ P'.length}) [17] (fun e u => (17, .int .i64 (u.1 : Nat)) :: e) (fun _ => _) (fun u => P'.length - u.1) ⟨0, by omega⟩ ?_ (hl := Ent.refl _)
            rintro K2 ⟨u, hu⟩ hK2
            dsimp only at hu ⊢
            by_cases hcu : u < P'.length
            · repeat' (first | refine stw ?_ | refine And.intro ?_ ?_ | (intro e; exfalso; omega) | (intro e; subst e) | intro _)
              refine tc_lp (ι := {v : Nat // v ≤ T'.length}) [18] (fun e v => (18, .int .i64 (v.1 : Nat)) :: e) (fun _ => _) (fun v => T'.length - v.1) ⟨0, by omega⟩ ?_ (hl := Ent.refl _)
              rintro K3 ⟨v, hv⟩ hK3
              dsimp only at hv ⊢
              by_cases hcv : v < T'.length
              · try (exfalso; omega)
                all_goals
                  have hne : ¬ (((P'.getD u (0, 0)).1 : Nat) : Int) = (((T'.getD v (0, 0)).1 : Nat) : Int) := fun e => hdis u v hcu hcv (by omega)
                  repeat' (first | ((fail_if_success (refine atD ?_)); refine stw ?_) | refine And.intro ?_ ?_ | (intro e; exfalso; omega) | (intro e; subst e) | intro _)
                  refine drx [] ?_
                  refine tks [0, 1, 5, 6, 2, 7, 3, 8, 4, 9, 10] 0 ?_; repeat' (first | refine stw ?_ | refine And.intro ?_ ?_ | (intro e; exfalso; omega) | (intro e; subst e) | intro _)
                  exact again hK3 ⟨v + 1, by omega⟩ (by dsimp only; omega)
              · repeat' (first | refine stw ?_ | refine And.intro ?_ ?_ | (intro e; exfalso; omega) | (intro e; subst e) | intro _)
                exact again hK2 ⟨u + 1, by omega⟩ (by dsimp only; omega)
            · repeat' (first | refine stw ?_ | refine And.intro ?_ ?_ | (intro e; exfalso; omega) | (intro e; subst e) | intro _)
              exact again hK ⟨(i + 1, ⟨P', T', L'⟩), by omega⟩ (by dsimp only; omega)
      · repeat' (first | refine stw ?_ | refine And.intro ?_ ?_ | (intro e; exfalso; omega) | (intro e; subst e) | intro _)
        exact rt1 () rfl
  · have hb : NewB z false := ⟨decide_eq_false hz⟩
    refine spec_of Try.func4 rfl Try.ntmps4 rfl [(0, _), (1, _)] rfl ?_; intro base F l0 hl0; (try simp only [List.cons_append] at hl0); (try simp only [List.nil_append] at hl0); subst hl0
    repeat' (first | refine stw ?_ | refine And.intro ?_ ?_ | (intro e; exfalso; omega) | (intro e; subst e) | intro _)
    exact rt1 () rfl
end Go.Proofs.Ytbkpojlbclehaaa
