/- The laws of segment, walked: the results of any calls, and the order after each of them. -/
import Derived.Test.YtbkpojlbclehaaaSgL6
import Derived.Test.YtbkpojlbclehaaaSgL5
namespace Go.Proofs.Ytbkpojlbclehaaa
open Go.Lk Go.Sl Go.Lr Go.Sg
attribute [local irreducible] TK TL TC Th Bk Nx fnPost WA TQ OpQ OpN SpecH Rd Ent IterH RoundH Rb Rp fnPostM
attribute [local irreducible] Sg.sm Sg.sl Sg.rm Sg.demN Sg.addS Sg.addE Sg.remS Sg.remE Sg.useS Sg.useE Sg.useG Sg.limS Sg.limE Sg.limG
set_option maxHeartbeats 16000000 in
theorem sgl_plays (z : Int) (a : Option Addr) (n cap : Nat) (As : Nat → Sg.SAct) (ta : Nat → Option Addr) (tc : Nat → Nat) (hA : ∀ i, i < n → (As i).slot < 4294967296 ∧ ∀ x ∈ (As i).to, x < 4294967296) : SpecH Try.prog 6 #[.int .i64 z, .slice a n cap] [RoS 4 a n cap (rows n fun i => [.int .i64 (As i).what, .int .u32 ((As i).slot : Nat), .int .i64 (As i).n, .slice (ta i) (As i).to.length (tc i)]), AllR RU ((List.range n).map fun i => .slice (ta i) (As i).to.length (tc i)) ((List.range n).map fun i => (As i).to)] (fun _ : Unit => .bool true) (fun _ => []) := by
  by_cases hz : -1 ≤ z ∧ z ≤ 1099511627776
  · have hb : NewB z true := ⟨decide_eq_true hz⟩
    obtain ⟨hz1, hz2⟩ := hz
    refine spec_of Try.func6 rfl Try.ntmps6 rfl [(0, _), (1, _)] rfl ?_; intro base F l0 hl0; (try simp only [List.cons_append] at hl0); (try simp only [List.nil_append] at hl0); subst hl0
    repeat' (first | refine stw ?_ | refine And.intro ?_ ?_ | (intro e; exfalso; omega) | (intro e; subst e) | intro _)
    · exact rt1 () rfl
    · rename_i b5 x hx p
      obtain ⟨hn, hlen⟩ := x.2 (by simpa using hx)
      refine TC.weak (env' := [(7, .pointer (some ⟨p, 0, none⟩)), (9, .int .i64 (0 : Nat)), (5, .pointer (some ⟨b5, 0, none⟩)), (1, .slice a n cap)]) ?_ (by (repeat (first | exact Sub.nil | (apply Sub.cons; exact rfl))); done)
      refine tc_lp (ι := {x : Nat × Nat × S2 × St // x.1 ≤ n ∧ x.2.2.2.P.length + x.2.2.2.T.length ≤ x.1}) [7, 9] (fun e x => (7, .pointer (some ⟨x.1.2.1, 0, none⟩)) :: (9, .int .i64 (x.1.1 : Nat)) :: e)
        (fun x => [SegAt x.1.2.1 x.1.2.2.2.P x.1.2.2.2.T x.1.2.2.2.L, obj b5 29 [.slice x.1.2.2.1.1.1 x.1.2.2.2.P.length x.1.2.2.1.1.2, .slice x.1.2.2.1.2.1 x.1.2.2.2.T.length x.1.2.2.1.2.2, .int .i64 x.1.2.2.2.L], RoS 2 x.1.2.2.1.1.1 x.1.2.2.2.P.length x.1.2.2.1.1.2 (wc x.1.2.2.2.P), RoS 2 x.1.2.2.1.2.1 x.1.2.2.2.T.length x.1.2.2.1.2.2 (wc x.1.2.2.2.T), RoS 4 a n cap (rows n fun i => [.int .i64 (As i).what, .int .u32 ((As i).slot : Nat), .int .i64 (As i).n, .slice (ta i) (As i).to.length (tc i)]), AllR RU ((List.range n).map fun i => .slice (ta i) (As i).to.length (tc i)) ((List.range n).map fun i => (As i).to), F]) (fun x => n - x.1.1) ⟨(0, p, ((none, 0), none, 0), ⟨[], [], z⟩), by simp⟩ ?_
        (hl := by show Ent _ [SegAt p [] [] z, obj b5 29 [.slice none 0 0, .slice none 0 0, .int .i64 z], RoS 2 none 0 0 [], RoS 2 none 0 0 [], RoS 4 a n cap (rows n fun i => [.int .i64 (As i).what, .int .u32 ((As i).slot : Nat), .int .i64 (As i).n, .slice (ta i) (As i).to.length (tc i)]), AllR RU ((List.range n).map fun i => .slice (ta i) (As i).to.length (tc i)) ((List.range n).map fun i => (As i).to), F]; exact en)
      clear hx hz1 hz2 hb
      rintro K ⟨⟨i, p, ⟨⟨a0, c0⟩, a1, c1⟩, ⟨P, T, L⟩⟩, hi, hPT⟩ hK
      dsimp only at hi hPT ⊢
      by_cases hc : i < n
      · obtain ⟨hk, hto⟩ := hA i hc
        have hlen := hlen i hc
        refine sg_to (As := As) (ta := ta) (tc := tc) hc ?_
        have hb1 : P.length + T.length ≤ 1000 := by omega
        repeat' (first | ((fail_if_success (refine atD ?_)); refine stw ?_) | refine And.intro ?_ ?_ | (intro e; exfalso; omega) | (intro e; subst e) | intro _)
        refine drx [SegAt p P T L] ?_
        refine tks [0, 1, 2, 3, 4, 5] 9 ?_; repeat' (first | refine stw ?_ | refine And.intro ?_ ?_ | (intro e; exfalso; omega) | (intro e; subst e) | intro _)
        refine hvB 6 11 (fun x6 => ?_) (fun x11 => ?_)
        · obtain ⟨⟨p2, ⟨⟨q0, d0⟩, q1, d1⟩, ⟨P2, T2, L2⟩⟩, hq⟩ := x6
          dsimp only at hq ⊢
          refine tks [7, 8, 9, 10] 4 ?_; repeat' (first | refine stw ?_ | refine And.intro ?_ ?_ | (intro e; exfalso; omega) | (intro e; subst e) | intro _)
          refine hv 11 fun x11 => ?_
          refine tks [12] 2 ?_; (repeat' (first | refine stw ?_ | refine And.intro ?_ ?_ | (intro e; exfalso; omega) | (intro e; subst e) | intro _)); refine hv0 13 fun x13 => ?_; refine tks [14] 0 ?_; (repeat' (first | ((fail_if_success (refine atD ?_)); refine stw ?_) | refine And.intro ?_ ?_ | (intro e; exfalso; omega) | (intro e; subst e) | intro _)); refine drx [SegAt p2 P2 T2 L2] ?_; refine tks [0, 1, 2, 3, 4, 5, 6, 7, 8, 9, 10, 11, 12, 13] 3 ?_; (repeat' (first | refine stw ?_ | refine And.intro ?_ ?_ | (intro e; exfalso; omega) | (intro e; subst e) | intro _)); refine hv 14 fun x14 => ?_; refine tks [15, 16] 0 ?_; (repeat' (first | ((fail_if_success (refine atD ?_)); refine stw ?_) | refine And.intro ?_ ?_ | (intro e; exfalso; omega) | (intro e; subst e) | intro _)); refine drx [obj b5 29 [.slice a0 P.length c0, .slice a1 T.length c1, .int .i64 L]] ?_; refine tks [0, 1, 2] 1 ?_; (repeat' (first | refine stw ?_ | refine And.intro ?_ ?_ | (intro e; exfalso; omega) | (intro e; subst e) | intro _)); refine hv0 3 fun x3 => ?_; (repeat' (first | refine stw ?_ | refine And.intro ?_ ?_ | (intro e; exfalso; omega) | (intro e; subst e) | intro _)); exact again hK ⟨(i + 1, p2, ((q0, d0), q1, d1), ⟨P2, T2, L2⟩), by dsimp only; omega⟩ (by dsimp only; omega)
        · refine hv 6 fun x6 => ?_
          obtain ⟨⟨p2, ⟨⟨q0, d0⟩, q1, d1⟩, ⟨P2, T2, L2⟩⟩, hq⟩ := x6
          dsimp only at hq ⊢
          refine tks [7, 8, 9, 10] 3 ?_; repeat' (first | refine stw ?_ | refine And.intro ?_ ?_ | (intro e; exfalso; omega) | (intro e; subst e) | intro _)
          refine tks [12] 2 ?_; (repeat' (first | refine stw ?_ | refine And.intro ?_ ?_ | (intro e; exfalso; omega) | (intro e; subst e) | intro _)); refine hv0 13 fun x13 => ?_; refine tks [14] 0 ?_; (repeat' (first | ((fail_if_success (refine atD ?_)); refine stw ?_) | refine And.intro ?_ ?_ | (intro e; exfalso; omega) | (intro e; subst e) | intro _)); refine drx [SegAt p2 P2 T2 L2] ?_; refine tks [0, 1, 2, 3, 4, 5, 6, 7, 8, 9, 10, 11, 12, 13] 3 ?_; (repeat' (first | refine stw ?_ | refine And.intro ?_ ?_ | (intro e; exfalso; omega) | (intro e; subst e) | intro _)); refine hv 14 fun x14 => ?_; refine tks [15, 16] 0 ?_; (repeat' (first | ((fail_if_success (refine atD ?_)); refine stw ?_) | refine And.intro ?_ ?_ | (intro e; exfalso; omega) | (intro e; subst e) | intro _)); refine drx [obj b5 29 [.slice a0 P.length c0, .slice a1 T.length c1, .int .i64 L]] ?_; refine tks [0, 1, 2] 1 ?_; (repeat' (first | refine stw ?_ | refine And.intro ?_ ?_ | (intro e; exfalso; omega) | (intro e; subst e) | intro _)); refine hv0 3 fun x3 => ?_; (repeat' (first | refine stw ?_ | refine And.intro ?_ ?_ | (intro e; exfalso; omega) | (intro e; subst e) | intro _)); exact again hK ⟨(i + 1, p2, ((q0, d0), q1, d1), ⟨P2, T2, L2⟩), by dsimp only; omega⟩ (by dsimp only; omega)
      · repeat' (first | refine stw ?_ | refine And.intro ?_ ?_ | (intro e; exfalso; omega) | (intro e; subst e) | intro _)
        exact rt1 () rfl
  · have hb : NewB z false := ⟨decide_eq_false hz⟩
    refine spec_of Try.func6 rfl Try.ntmps6 rfl [(0, _), (1, _)] rfl ?_; intro base F l0 hl0; (try simp only [List.cons_append] at hl0); (try simp only [List.nil_append] at hl0); subst hl0
    repeat' (first | refine stw ?_ | refine And.intro ?_ ?_ | (intro e; exfalso; omega) | (intro e; subst e) | intro _)
    exact rt1 () rfl
end Go.Proofs.Ytbkpojlbclehaaa
