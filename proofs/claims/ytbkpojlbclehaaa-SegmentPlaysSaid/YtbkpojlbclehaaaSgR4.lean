/- The reference of segment, walked: demote. -/
import Derived.Test.YtbkpojlbclehaaaSgR3
namespace Go.Proofs.Ytbkpojlbclehaaa
open Go.Lk Go.Sl Go.Lr Go.Sg
attribute [local irreducible] TK TL TC Th Bk Nx fnPost WA TQ OpQ OpN SpecH Rd Ent IterH RoundH Rb Rp fnPostM
attribute [local irreducible] Sg.sm Sg.sl Sg.demN
set_option maxHeartbeats 8000000 in
instance sgr_demote : Known Try.prog 101 (∀ (a0 a1 : Option Addr) (c0 c1 : Nat) (P T : List It) (L : Int), -1 ≤ L → P.length ≤ 2097152 → T.length ≤ 2097152 → (∀ x, x ∈ P ∨ x ∈ T → x.2 ≤ 1099511627776) → SpecH Try.prog 101 #[.agg #[.slice a0 P.length c0, .slice a1 T.length c1, .int .i64 L]] [RoS 2 a0 P.length c0 (wc P), RoS 2 a1 T.length c1 (wc T)] (fun q : S2 × Option Addr × Nat => .tuple #[.agg #[.slice q.1.1.1 (P ++ T.take (demN L T)).length q.1.1.2, .slice q.1.2.1 (T.drop (demN L T)).length q.1.2.2, .int .i64 L], .slice q.2.1 (demN L T) q.2.2]) (fun q => [RoS 2 q.1.1.1 (P ++ T.take (demN L T)).length q.1.1.2 (wc (P ++ T.take (demN L T))), RoS 2 q.1.2.1 (T.drop (demN L T)).length q.1.2.2 (wc (T.drop (demN L T))), RoS 1 q.2.1 (demN L T) q.2.2 (u32s (sl (T.take (demN L T))))])) := ⟨fun a0 a1 c0 c1 P T L hL hP hT hc => by
  refine spec_of Try.func101 rfl Try.ntmps101 rfl [(0, _)] rfl ?_; intro base F l0 hl0; (try simp only [List.cons_append] at hl0); (try simp only [List.nil_append] at hl0); subst hl0
  have hd := demN_le (L := L) (T := T)
  repeat' (first | refine stw ?_ | refine And.intro ?_ ?_ | (intro e; exfalso; omega) | (intro e; subst e) | intro _)
  rename_i b1 b2
  refine tc_lp (ι := {x : Nat × S2 × Option Addr × Nat // x.1 ≤ demN L T}) [4] (fun e x => (4, .slice x.1.2.2.1 x.1.1 x.1.2.2.2) :: e)
    (fun x => [obj b1 29 [.slice x.1.2.1.1.1 (P ++ T.take x.1.1).length x.1.2.1.1.2, .slice x.1.2.1.2.1 (T.drop x.1.1).length x.1.2.1.2.2, .int .i64 L], RoS 2 x.1.2.1.1.1 (P ++ T.take x.1.1).length x.1.2.1.1.2 (wc (P ++ T.take x.1.1)), RoS 2 x.1.2.1.2.1 (T.drop x.1.1).length x.1.2.1.2.2 (wc (T.drop x.1.1)), obj b2 29 [.slice none 0 0, .slice none 0 0, .int .i64 0], Vec 34 1 x.1.2.2.1 x.1.1 x.1.2.2.2 (u32s (sl (T.take x.1.1))), F]) (fun x => demN L T - x.1.1) ⟨(0, ((a0, c0), a1, c1), none, 0), by omega⟩ ?_
    (hl := by dsimp only; rw [List.take_zero, List.drop_zero, List.append_nil, sl_nil]; show Ent _ [obj b1 29 [.slice a0 P.length c0, .slice a1 T.length c1, .int .i64 L], RoS 2 a0 P.length c0 (wc P), RoS 2 a1 T.length c1 (wc T), obj b2 29 [.slice none 0 0, .slice none 0 0, .int .i64 0], Vec 34 1 none 0 0 [], F]; exact en)
  rintro K ⟨⟨i, ⟨⟨p1, p2⟩, t1, t2⟩, g1, g2⟩, hi⟩ hK
  dsimp only at hi ⊢
  have hn := demN_need (L := L) (T := T) hi
  have hl1 : (P ++ T.take i).length ≤ 4194304 := by rw [List.length_append, List.length_take]; omega
  have hl2 : (T.drop i).length ≤ 4194304 := by rw [List.length_drop]; omega
  have o1 : OneG 1 (P ++ T.take i) (T.drop i) (T.drop i) := ⟨.inr ⟨rfl, rfl⟩⟩
  have hc1 : ∀ x, x ∈ P ++ T.take i ∨ x ∈ T.drop i → x.2 ≤ 1099511627776 := fun x hx => hc x (by
    rcases hx with hx | hx
    · rcases List.mem_append.1 hx with hx | hx
      · exact .inl hx
      · exact .inr (List.mem_of_mem_take hx)
    · exact .inr (List.mem_of_mem_drop hx))
  by_cases hcd : i < demN L T
  · have hneed := hn.2 hcd
    obtain ⟨k, w, R, hR, hR2, hR3⟩ := drop_cons hneed
    obtain ⟨hne, hor⟩ := hneed
    rw [hR] at hl2 o1 hc1 hor ⊢
    have hRl : ((k, w) :: R).length = R.length + 1 := rfl
    have ho : OOut 1 0 (P ++ T.take i) ((k, w) :: R) (P ++ T.take i) R := ⟨0, rfl, .inr ⟨rfl, by omega, rfl, rfl⟩⟩
    have hp : OPut 0 (P ++ T.take i) R k w (P ++ T.take (i + 1)) R := ⟨.inl ⟨rfl, by rw [hR3, List.append_assoc], rfl⟩⟩
    have hgd : ((k, w) :: R).getD 0 (0, 0) = (k, w) := rfl
    have hRm : R.length ≤ 4194304 := by omega
    rcases Int.lt_or_le L 0 with hL0 | hL0
    · repeat' (first | ((fail_if_success (refine atD ?_)); refine stw ?_) | refine And.intro ?_ ?_ | (intro e; exfalso; omega) | (intro e; subst e) | intro _)
      refine drx [] ?_
      refine tks [0, 1, 2, 3, 4, 5, 6, 7, 8, 9, 10, 12, 13] 4 ?_; repeat' (first | refine stw ?_ | refine And.intro ?_ ?_ | (intro e; exfalso; omega) | (intro e; subst e) | intro _)
      refine hvs 11 ?_
      refine tks [14, 15, 16] 0 ?_; repeat' (first | ((fail_if_success (refine atD ?_)); refine stw ?_) | refine And.intro ?_ ?_ | (intro e; exfalso; omega) | (intro e; subst e) | intro _)
      rename_i b5 bs a3 c3
      refine drx [obj b1 29 [.slice p1 (P ++ T.take i).length p2, .slice t1 ((k, w) :: R).length t2, .int .i64 L]] ?_
      refine tks [2] 4 ?_; repeat' (first | refine stw ?_ | refine And.intro ?_ ?_ | (intro e; exfalso; omega) | (intro e; subst e) | intro _)
      refine hvr 0 ?_
      refine hv 1 fun x1 => ?_
      refine hv 3 fun x3 => ?_
      refine hv0 4 fun x4 => ?_
      repeat' (first | refine stw ?_ | refine And.intro ?_ ?_ | (intro e; exfalso; omega) | (intro e; subst e) | intro _)
      have hgk : (((k, w) :: R).getD 0 (0, 0)).1 = k := rfl
      have e1 : sl (T.take (i + 1)) = sl (T.take i) ++ [k] := by rw [hR3, sl_append, sl_one]
      rw [hgk, ← u32s_snocS, ← e1, ← hR2]
      exact again hK ⟨(i + 1, x3, a3, c3), by omega⟩
    · have hlt : L < (sm ((k, w) :: R) : Nat) := by
        rcases hor with h | h
        · omega
        · exact h
      repeat' (first | ((fail_if_success (refine atD ?_)); refine stw ?_) | refine And.intro ?_ ?_ | (intro e; exfalso; omega) | (intro e; subst e) | intro _)
      refine drx [] ?_
      refine tks [0, 1, 2, 3, 4, 5, 6, 7, 8, 9, 10, 12, 13] 4 ?_; repeat' (first | refine stw ?_ | refine And.intro ?_ ?_ | (intro e; exfalso; omega) | (intro e; subst e) | intro _)
      refine hv 11 fun x11 => ?_
      refine tks [14, 15, 16] 0 ?_; repeat' (first | ((fail_if_success (refine atD ?_)); refine stw ?_) | refine And.intro ?_ ?_ | (intro e; exfalso; omega) | (intro e; subst e) | intro _)
      rename_i b5 bs a3 c3
      refine drx [obj b1 29 [.slice p1 (P ++ T.take i).length p2, .slice t1 ((k, w) :: R).length t2, .int .i64 L]] ?_
      refine tks [2] 4 ?_; repeat' (first | refine stw ?_ | refine And.intro ?_ ?_ | (intro e; exfalso; omega) | (intro e; subst e) | intro _)
      refine hvr 0 ?_
      refine hv 1 fun x1 => ?_
      refine hv 3 fun x3 => ?_
      refine hv0 4 fun x4 => ?_
      repeat' (first | refine stw ?_ | refine And.intro ?_ ?_ | (intro e; exfalso; omega) | (intro e; subst e) | intro _)
      have hgk : (((k, w) :: R).getD 0 (0, 0)).1 = k := rfl
      have e1 : sl (T.take (i + 1)) = sl (T.take i) ++ [k] := by rw [hR3, sl_append, sl_one]
      rw [hgk, ← u32s_snocS, ← e1, ← hR2]
      exact again hK ⟨(i + 1, x3, a3, c3), by omega⟩
  · have hnn : ¬ need L (T.drop i) := fun h => hcd (hn.1 h)
    obtain rfl : i = demN L T := by omega
    by_cases hT0 : (T.drop (demN L T)).length = 0
    · repeat' (first | ((fail_if_success (refine atD ?_)); refine stw ?_) | refine And.intro ?_ ?_ | (intro e; exfalso; omega) | (intro e; subst e) | intro _)
      refine drx [] ?_
      refine tks [0, 1, 2, 3, 4, 5, 6, 7, 8, 9, 10, 12, 13] 4 ?_; repeat' (first | refine stw ?_ | refine And.intro ?_ ?_ | (intro e; exfalso; omega) | (intro e; subst e) | intro _)
      refine hvs 11 ?_
      refine tks [14, 15, 16] 0 ?_; repeat' (first | refine stw ?_ | refine And.intro ?_ ?_ | (intro e; exfalso; omega) | (intro e; subst e) | intro _)
      refine frz g1 ?_
      exact ra2 (((p1, p2), t1, t2), g1, g2) rfl
    · have hne : T.drop (demN L T) ≠ [] := fun e => hT0 (by rw [e]; rfl)
      have hL0 : ¬ L < 0 := fun h => hnn ⟨hne, .inl (by omega)⟩
      have hlt : ¬ L < (sm (T.drop (demN L T)) : Nat) := fun h => hnn ⟨hne, .inr h⟩
      repeat' (first | ((fail_if_success (refine atD ?_)); refine stw ?_) | refine And.intro ?_ ?_ | (intro e; exfalso; omega) | (intro e; subst e) | intro _)
      refine drx [] ?_
      refine tks [0, 1, 2, 3, 4, 5, 6, 7, 8, 9, 10, 12, 13] 4 ?_; repeat' (first | refine stw ?_ | refine And.intro ?_ ?_ | (intro e; exfalso; omega) | (intro e; subst e) | intro _)
      refine hv 11 fun x11 => ?_
      refine tks [14, 15, 16] 0 ?_; repeat' (first | refine stw ?_ | refine And.intro ?_ ?_ | (intro e; exfalso; omega) | (intro e; subst e) | intro _)
      refine frz g1 ?_
      exact ra2 (((p1, p2), t1, t2), g1, g2) rfl⟩
end Go.Proofs.Ytbkpojlbclehaaa
