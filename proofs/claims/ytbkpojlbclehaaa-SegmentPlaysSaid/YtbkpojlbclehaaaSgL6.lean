/- The laws of segment, walked: the results of any calls. -/
import Derived.Test.YtbkpojlbclehaaaSgL3
import Derived.Test.YtbkpojlbclehaaaSgW8
import Derived.Test.YtbkpojlbclehaaaSgR6
namespace Go.Proofs.Ytbkpojlbclehaaa
open Go.Lk Go.Sl Go.Lr Go.Sg
attribute [local irreducible] TK TL TC Th Bk Nx fnPost WA TQ OpQ OpN SpecH Rd Ent IterH RoundH Rb Rp fnPostM
attribute [local irreducible] Sg.sm Sg.sl Sg.rm Sg.demN Sg.addS Sg.addE Sg.remS Sg.remE Sg.useS Sg.useE Sg.useG Sg.limS Sg.limE Sg.limG Sg.renX
set_option maxHeartbeats 16000000 in
instance sgl_step : Known Try.prog 31 (∀ (p : Nat) (a0 a1 : Option Addr) (c0 c1 : Nat) (P T : List It) (L : Int) (A : SAct) (ta : Option Addr) (tc : Nat), P.length + T.length ≤ 1000 → A.slot < 4294967296 → A.to.length ≤ 100 → (∀ x ∈ A.to, x < 4294967296) → SpecH Try.prog 31 #[.pointer (some ⟨p, 0, none⟩), .agg #[.slice a0 P.length c0, .slice a1 T.length c1, .int .i64 L], .agg #[.int .i64 A.what, .int .u32 (A.slot : Nat), .int .i64 A.n, .slice ta A.to.length tc]] [SegAt p P T L, RoS 2 a0 P.length c0 (wc P), RoS 2 a1 T.length c1 (wc T), RoS 1 ta A.to.length tc (u32s A.to)] (fun q : {q : Nat × S2 × St // q.2.2.P.length + q.2.2.T.length ≤ P.length + T.length + 1} => .tuple #[.pointer (some ⟨q.1.1, 0, none⟩), .agg #[.slice q.1.2.1.1.1 q.1.2.2.P.length q.1.2.1.1.2, .slice q.1.2.1.2.1 q.1.2.2.T.length q.1.2.1.2.2, .int .i64 q.1.2.2.L], .bool true]) (fun q => [SegAt q.1.1 q.1.2.2.P q.1.2.2.T q.1.2.2.L, RoS 2 q.1.2.1.1.1 q.1.2.2.P.length q.1.2.1.1.2 (wc q.1.2.2.P), RoS 2 q.1.2.1.2.1 q.1.2.2.T.length q.1.2.1.2.2 (wc q.1.2.2.T)])) := ⟨fun p a0 a1 c0 c1 P T L A ta tc hb hk ht hto => by
  obtain ⟨what, slot, n, to⟩ := A
  dsimp only at hk ht hto ⊢
  refine spec_of Try.func31 rfl Try.ntmps31 rfl [(0, _), (1, _), (2, _)] rfl ?_; intro base F l0 hl0; (try simp only [List.cons_append] at hl0); (try simp only [List.nil_append] at hl0); subst hl0
  refine SegAt.factsC fun iv st lp lt => ?_
  have bP : P.length ≤ 1000000 := by omega
  have bT : T.length ≤ 1000000 := by omega
  by_cases h0 : what = 0
  · subst h0
    haveI := sg_addT
    obtain ⟨P', T', e, u, hl⟩ : ∃ P' T' e, AddTo P T L slot n P' T' e ∧ P'.length + T'.length ≤ P.length + T.length + 1 := by
      rcases add_case (P := P) (T := T) (L := L) (k := slot) (z := n) with u | ⟨e, _, u⟩
      · exact ⟨_, _, _, u, by rw [List.length_append, List.length_singleton]; omega⟩
      · exact ⟨_, _, _, u, by omega⟩
    repeat' (first | ((fail_if_success (refine atD ?_)); refine stw ?_) | refine And.intro ?_ ?_ | (intro e; exfalso; omega) | (intro e; subst e) | intro _)
    rename_i b4 b5 b7 qa qb b9
    refine drx [SegAt p P T L, obj b7 29 [.slice none 0 0, .slice none 0 0, .int .i64 0]] ?_
    refine tks [0, 1, 2, 3, 5, 8, 4, 6] 5 ?_; repeat' (first | refine stw ?_ | refine And.intro ?_ ?_ | (intro e; exfalso; omega) | (intro e; subst e) | intro _)
    refine hv 7 fun x7 => ?_
    refine tks [9, 10] 2 ?_; repeat' (first | refine stw ?_ | refine And.intro ?_ ?_ | (intro e; exfalso; omega) | (intro e; subst e) | intro _)
    refine hv0 11 fun x11 => ?_
    refine tks [12] 0 ?_; repeat' (first | refine stw ?_ | refine And.intro ?_ ?_ | (intro e; exfalso; omega) | (intro e; subst e) | intro _)
    exact ram ⟨(p, (qa, qb), ⟨P', T', L⟩), hl⟩ rfl
  by_cases h1 : what = 1
  · subst h1
    obtain ⟨P', T', G, e, u, hl, hg⟩ := use_case (k := slot) (z := n) iv
    have hgl := hg.1
    have hG : G.length ≤ 4194304 := by omega
    repeat' (first | ((fail_if_success (refine atD ?_)); refine stw ?_) | refine And.intro ?_ ?_ | (intro e; exfalso; omega) | (intro e; subst e) | intro _)
    rename_i b4 b5 b7 qa qg b11
    refine drx [SegAt p P T L, obj b7 29 [.slice none 0 0, .slice none 0 0, .int .i64 0]] ?_
    refine tks [0, 1, 2, 3, 5, 7, 8, 4, 6] 4 ?_; repeat' (first | refine stw ?_ | refine And.intro ?_ ?_ | (intro e; exfalso; omega) | (intro e; subst e) | intro _)
    refine hv 9 fun x9 => ?_
    refine tks [10] 2 ?_; repeat' (first | refine stw ?_ | refine And.intro ?_ ?_ | (intro e; exfalso; omega) | (intro e; subst e) | intro _)
    refine hv0 11 fun x11 => ?_
    refine tks [12] 0 ?_; repeat' (first | refine stw ?_ | refine And.intro ?_ ?_ | (intro e; exfalso; omega) | (intro e; subst e) | intro _)
    exact ram ⟨(p, qa, ⟨P', T', L⟩), by dsimp only; omega⟩ rfl
  by_cases h2 : what = 2
  · subst h2
    haveI := sg_removeT
    obtain ⟨P', T', e, u, hl⟩ : ∃ P' T' e, RemTo P T L slot P' T' e ∧ P'.length + T'.length ≤ P.length + T.length := by
      rcases rem_case (k := slot) iv with ⟨P', T', u, hl⟩ | ⟨e, _, u⟩
      · exact ⟨_, _, _, u, by omega⟩
      · exact ⟨_, _, _, u, by omega⟩
    repeat' (first | ((fail_if_success (refine atD ?_)); refine stw ?_) | refine And.intro ?_ ?_ | (intro e; exfalso; omega) | (intro e; subst e) | intro _)
    rename_i b4 b5 b7 qa qb b9
    refine drx [SegAt p P T L, obj b7 29 [.slice none 0 0, .slice none 0 0, .int .i64 0]] ?_
    refine tks [0, 1, 2, 3, 6, 4] 5 ?_; repeat' (first | refine stw ?_ | refine And.intro ?_ ?_ | (intro e; exfalso; omega) | (intro e; subst e) | intro _)
    refine hv 5 fun x5 => ?_
    refine tks [7, 8] 2 ?_; repeat' (first | refine stw ?_ | refine And.intro ?_ ?_ | (intro e; exfalso; omega) | (intro e; subst e) | intro _)
    refine hv0 9 fun x9 => ?_
    refine tks [10] 0 ?_; repeat' (first | refine stw ?_ | refine And.intro ?_ ?_ | (intro e; exfalso; omega) | (intro e; subst e) | intro _)
    exact ram ⟨(p, (qa, qb), ⟨P', T', L⟩), by dsimp only; omega⟩ rfl
  by_cases h3 : what = 3
  · subst h3
    obtain ⟨P', T', L', G, e, u, hl, hG⟩ : ∃ P' T' L' G e, LimTo P T L n P' T' L' G e ∧ P'.length + T'.length = P.length + T.length ∧ G.length ≤ P'.length := by
      rcases lim_case (P := P) (T := T) (L := L) (z := n) with ⟨P', T', G, u, hl, ho⟩ | u
      · exact ⟨_, _, _, _, _, u, hl, ho.1⟩
      · exact ⟨_, _, _, _, _, u, rfl, Nat.zero_le _⟩
    have hG2 : G.length ≤ 4194304 := by omega
    repeat' (first | ((fail_if_success (refine atD ?_)); refine stw ?_) | refine And.intro ?_ ?_ | (intro e; exfalso; omega) | (intro e; subst e) | intro _)
    rename_i b4 b5 b7 qa qg b11
    refine drx [SegAt p P T L, obj b7 29 [.slice none 0 0, .slice none 0 0, .int .i64 0]] ?_
    refine tks [0, 1, 2, 3, 5, 6, 4] 4 ?_; repeat' (first | refine stw ?_ | refine And.intro ?_ ?_ | (intro e; exfalso; omega) | (intro e; subst e) | intro _)
    refine hv 7 fun x7 => ?_
    refine tks [8] 2 ?_; repeat' (first | refine stw ?_ | refine And.intro ?_ ?_ | (intro e; exfalso; omega) | (intro e; subst e) | intro _)
    refine hv0 9 fun x9 => ?_
    refine tks [10] 0 ?_; repeat' (first | refine stw ?_ | refine And.intro ?_ ?_ | (intro e; exfalso; omega) | (intro e; subst e) | intro _)
    exact ram ⟨(p, qa, ⟨P', T', L'⟩), by dsimp only; omega⟩ rfl
  by_cases h4 : what = 4
  · subst h4
    haveI := sgr_sameU
    have hs : SameU to to true := ⟨decide_eq_true rfl⟩
    obtain ⟨P', T', e, u, hl⟩ : ∃ P' T' e, RenTo P T to P' T' e ∧ P'.length + T'.length = P.length + T.length := by
      obtain ⟨P', T', e, u⟩ := ren_case (P := P) (T := T) (to := to)
      refine ⟨P', T', e, u, ?_⟩
      rcases u.out with ⟨_, rfl, rfl, _⟩ | ⟨_, rfl, rfl, _⟩
      · rw [renX_len, renX_len]
      · rfl
    have hto2 : to.length ≤ 4194304 := by omega
    repeat' (first | ((fail_if_success (refine atD ?_)); refine stw ?_) | refine And.intro ?_ ?_ | (intro e; exfalso; omega) | (intro e; subst e) | intro _)
    rename_i b4 b5 b7 qa qb b19 oa oc
    refine TC.freeze (.here _ _) ?_
    refine drx [SegAt p P T L, obj b7 29 [.slice none 0 0, .slice none 0 0, .int .i64 0]] ?_
    refine tks [0, 1, 2, 3, 5] 11 ?_; repeat' (first | refine stw ?_ | refine And.intro ?_ ?_ | (intro e; exfalso; omega) | (intro e; subst e) | intro _)
    refine hv 4 fun x4 => ?_
    refine tks [6, 7, 8, 9, 10] 5 ?_; repeat' (first | refine stw ?_ | refine And.intro ?_ ?_ | (intro e; exfalso; omega) | (intro e; subst e) | intro _)
    refine hv 11 fun x11 => ?_
    refine tks [12, 13] 2 ?_; repeat' (first | refine stw ?_ | refine And.intro ?_ ?_ | (intro e; exfalso; omega) | (intro e; subst e) | intro _)
    refine hv0 14 fun x14 => ?_
    refine tks [15] 0 ?_; repeat' (first | refine stw ?_ | refine And.intro ?_ ?_ | (intro e; exfalso; omega) | (intro e; subst e) | intro _)
    exact ram ⟨(p, (qa, qb), ⟨P', T', L⟩), by dsimp only; omega⟩ rfl
  · haveI := sg_addT
    haveI := sg_useT
    haveI := sg_removeT
    haveI := sg_limitT
    obtain ⟨P1, T1, e1, u1⟩ : ∃ P' T' e, AddTo P T L 99 1 P' T' e := ⟨_, _, _, ⟨rfl, rfl, rfl⟩⟩
    obtain ⟨P2, T2, G2, e2, u2⟩ : ∃ P' T' G e, UseTo P1 T1 L 0 5 P' T' G e := ⟨_, _, _, _, ⟨rfl, rfl, rfl, rfl⟩⟩
    obtain ⟨P3, T3, e3, u3⟩ : ∃ P' T' e, RemTo P2 T2 L 1 P' T' e := ⟨_, _, _, ⟨rfl, rfl, rfl⟩⟩
    obtain ⟨P4, T4, L4, G4, e4, u4⟩ : ∃ P' T' L' G e, LimTo P3 T3 L 0 P' T' L' G e := ⟨_, _, _, _, _, ⟨rfl, rfl, rfl, rfl, rfl⟩⟩
    repeat' (first | ((fail_if_success (refine atD ?_)); refine stw ?_) | refine And.intro ?_ ?_ | (intro e; exfalso; omega) | (intro e; subst e) | intro _)
    rename_i b4 b5 b7 c ga gb gc gd
    refine drx [obj b7 29 [.slice none 0 0, .slice none 0 0, .int .i64 0]] ?_
    refine tks [0, 1, 2, 3, 4] 2 ?_; repeat' (first | refine stw ?_ | refine And.intro ?_ ?_ | (intro e; exfalso; omega) | (intro e; subst e) | intro _)
    refine hv0 5 fun x5 => ?_
    refine tks [6] 0 ?_; repeat' (first | refine stw ?_ | refine And.intro ?_ ?_ | (intro e; exfalso; omega) | (intro e; subst e) | intro _)
    exact ram ⟨(c, ((a0, c0), a1, c1), ⟨P, T, L⟩), by dsimp only; omega⟩ rfl⟩
end Go.Proofs.Ytbkpojlbclehaaa
