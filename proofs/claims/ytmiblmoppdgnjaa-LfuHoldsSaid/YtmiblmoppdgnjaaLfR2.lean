/- The reference of lfu, walked: with; requests. -/
import Derived.Test.YtmiblmoppdgnjaaLfR1
import Derived.Test.YtmiblmoppdgnjaaSlCv
namespace Go.Proofs.Ytmiblmoppdgnjaa
open Go.Lk Go.Sl Go.Lf
attribute [local irreducible] TK TL TC Th Bk Nx fnPost WA TQ OpQ OpN SpecH Rd Ent IterH RoundH Rb Rp fnPostM
attribute [local irreducible] Lf.wo Lf.ins Lf.cntOf Lf.halveL Lf.lo Lf.hi
set_option maxHeartbeats 4000000 in
instance lfr_with : Known Try.prog 49 (∀ (a : Option Addr) (m c : Nat) (l : List It) (k n : Nat), Srt l → m = l.length → m ≤ 1024 → SpecH Try.prog 49 #[.slice a m c, .agg #[.int .u32 (k : Nat), .int .i64 (n : Nat)]] [RoS 2 a m c (itv l)] (fun q : Option Addr × Nat => .slice q.1 (l.length + 1) q.2) (fun q => [RoS 2 q.1 (l.length + 1) q.2 (itv (Lf.ins l (k, n)))])) := ⟨fun a m c l k n hs hm hx => by
  subst hm
  have hlo : (lo l n).length ≤ l.length := by unfold lo; exact List.filter_sublist.length_le
  obtain ⟨t1, t2⟩ := lo_take hs (n := n)
  refine spec_of Try.func49 rfl Try.ntmps49 rfl [(0, _), (1, _)] rfl ?_; intro base F l0 hl0; (try simp only [List.cons_append] at hl0); (try simp only [List.nil_append] at hl0); subst hl0
  repeat' (first | refine sty ?_ | refine And.intro ?_ ?_ | (intro e; exfalso; omega) | (intro e; subst e) | intro _)
  rename_i bx
  refine tc_lp (ι := {i : Nat // i ≤ (lo l n).length}) [5] (fun e i => (5, .int .i64 (i.1 : Nat)) :: e) (fun _ => [obj bx 73 [.int .u32 (k : Nat), .int .i64 (n : Nat)], RoS 2 a l.length c (itv l), F]) (fun i => l.length - i.1) ⟨0, by omega⟩ ?_
  rintro K ⟨i, hi⟩ hK
  dsimp only
  by_cases hlt : i < (lo l n).length
  · have hil : i < l.length := by omega
    have hle : (l.getD i default).2 ≤ n := by rw [getD_get hil]; exact (lo_at hs hil).2 hlt
    repeat' (first | refine sty ?_ | refine And.intro ?_ ?_ | (intro e; exfalso; omega) | (intro e; subst e) | intro _)
    exact again hK ⟨i + 1, by omega⟩
  · obtain rfl : i = (lo l n).length := by omega
    have hcut : (lo l n).length < l.length → ¬ (l.getD (lo l n).length default).2 ≤ n := fun hil => by
      rw [getD_get hil]; exact fun h => absurd ((lo_at hs hil).1 h) (by omega)
    have hm : (lo l n).length + 1 + (l.length - (lo l n).length) = l.length + 1 := by omega
    have hc : (itv l).take ((lo l n).length * 2) ++ [.int .u32 (k : Nat), .int .i64 (n : Nat)] ++ (itv l).drop ((lo l n).length * 2) = itv (Lf.ins l (k, n)) := by
      rw [itv_take, itv_drop, t1, t2]
      unfold Lf.ins itv
      rw [cellsOf_append, List.append_assoc]; rfl
    by_cases hil : (lo l n).length < l.length
    · have := hcut hil
      repeat' (first | refine sty ?_ | refine And.intro ?_ ?_ | (intro e; exfalso; omega) | (intro e; subst e) | intro _)
      rename_i a5 c5
      rw [hm, hc]
      refine frz a5 ?_
      exact rt1 (a5, c5) rfl
    · repeat' (first | refine sty ?_ | refine And.intro ?_ ?_ | (intro e; exfalso; omega) | (intro e; subst e) | intro _)
      rename_i a5 c5
      rw [hm, hc]
      refine frz a5 ?_
      exact rt1 (a5, c5) rfl⟩
/-- Half of a count. -/
def _root_.Go.Lf.half (x : It) : It := (x.1, max 1 (x.2 / 2))
theorem _root_.Go.Lf.halveL_nil : halveL [] = [] := by unfold halveL; rfl
theorem _root_.Go.Lf.halveL_snoc {l : List It} {x : It} : halveL (l ++ [x]) = halveL l ++ [half x] := by unfold halveL half; rw [List.map_append]; rfl
set_option maxHeartbeats 8000000 in
instance lfr_use : Known Try.prog 36 (∀ (size age req : Nat) (a : Option Addr) (m c : Nat) (l : List It) (xk : Int) (k : Nat) [NatI xk k], Ok size l → m = l.length → 1 ≤ size → size ≤ 1024 → age ≤ 1048576 → req < 1000000000 → k < 4294967296 → SpecH Try.prog 36 #[.agg #[.int .i64 (size : Nat), .int .i64 (age : Nat), .int .i64 (req : Nat), .slice a m c], .int .u32 xk] [RoS 2 a m c (itv l)]
    (fun q : Option Addr × Nat => .tuple #[.agg #[.int .i64 (size : Nat), .int .i64 (age : Nat), .int .i64 ((useS size age (req, l) k).1 : Nat), .slice q.1 (useS size age (req, l) k).2.length q.2], .agg #[.bool (useH l k), .bool (useB size l k), .int .u32 (useO size l k : Nat)]])
    (fun q => [RoS 2 q.1 (useS size age (req, l) k).2.length q.2 (itv (useS size age (req, l) k).2)])) := ⟨fun size age req a m c l xk k _ o hm h1 h2 h3 h4 hk => by
  obtain rfl : xk = (k : Int) := NatI.out
  subst hm
  obtain ⟨L, hLe⟩ : ∃ L, useL size l k = L := ⟨_, rfl⟩
  have oL : Ok size L := hLe ▸ o.useL h1
  have hLl := oL.len
  have hl := o.len
  refine spec_of Try.func36 rfl Try.ntmps36 rfl [(0, _), (1, _)] rfl ?_; intro base F l0 hl0; (try simp only [List.cons_append] at hl0); (try simp only [List.nil_append] at hl0); subst hl0
  repeat' (first | ((fail_if_success (refine atCond ?_)); refine sty ?_) | refine And.intro ?_ ?_ | (intro e; exfalso; omega) | (intro e; subst e) | intro _)
  rename_i b2 b4 b5 b6
  refine cut (ι := Option Addr × Nat) (fun q => [(2, .pointer (some ⟨b2, 0, none⟩)), (4, .pointer (some ⟨b4, 0, none⟩)), (5, .pointer (some ⟨b5, 0, none⟩)), (6, .pointer (some ⟨b6, 0, none⟩))])
    (fun q => [obj b2 48 [.int .i64 (size : Nat), .int .i64 (age : Nat), .int .i64 (req : Nat), .slice q.1 L.length q.2], obj b6 30 [.bool (useH l k), .bool (useB size l k), .int .u32 (useO size l k : Nat)], obj b4 48 [.int .i64 0, .int .i64 0, .int .i64 0, .slice none 0 0], obj b5 30 [.bool false, .bool false, .int .u32 0], RoS 2 q.1 L.length q.2 (itv L), F]) ?_ ?_
  · intro K hK
    by_cases hks : k ∈ ks l
    · have hcp : 0 < cntOf l k := (cnt_iff o).2 hks
      have hc2 := cnt_le o (j := k)
      have hw := (o.wo (k := k)).len
      have hsw : Srt (Lf.wo l k) := (o.wo (k := k)).srt
      have hL2 : L = Lf.ins (Lf.wo l k) (k, min 255 (cntOf l k + 1)) := by rw [← hLe]; unfold Lf.useL; rw [if_pos hks]
      have hmin : min (255 : Int) ((cntOf l k : Nat) + 1) = ((min 255 (cntOf l k + 1) : Nat) : Int) := by omega
      have hH : useH l k = true := decide_eq_true hks
      have hB : useB size l k = false := decide_eq_false (fun h => h.1 hks)
      have hO : ((useO size l k : Nat) : Int) = 0 := by rw [show useO size l k = 0 from if_neg (fun h => h.1 hks)]; rfl
      have hlen : (Lf.wo l k).length + 1 = L.length := by rw [hL2, ins_len hsw]
      rw [hH, hB, hO] at hK
      repeat' (first | ((fail_if_success (refine atCall 49 ?_)); refine sty ?_) | refine And.intro ?_ ?_ | (intro e; exfalso; omega) | (intro e; subst e) | intro _)
      rw [hmin]
      repeat' (first | refine sty ?_ | refine And.intro ?_ ?_ | (intro e; exfalso; omega) | (intro e; subst e) | intro _)
      rename_i a5 c5
      rw [hlen, ← hL2]
      exact fin hK (a5, c5)
    · have hc0 : cntOf l k = 0 := cntOf_not hks
      have hH : useH l k = false := decide_eq_false hks
      by_cases hfull : l.length = size
      · obtain ⟨⟨k0, n0⟩, t, el⟩ : ∃ x t, l = x :: t := by
          cases l with
          | nil => rw [List.length_nil] at hfull; omega
          | cons x t => exact ⟨x, t, rfl⟩
        have hst : Srt t := by have := o.srt; rw [el] at this; unfold Srt at this ⊢; rw [List.pairwise_cons] at this; exact this.2
        have hL2 : L = Lf.ins t (k, 1) := by rw [← hLe]; unfold Lf.useL; rw [if_neg hks, if_pos hfull, el]; rfl
        have hB : useB size l k = true := decide_eq_true ⟨hks, hfull⟩
        have hO : useO size l k = k0 := by rw [show useO size l k = (ks l).headD 0 from if_pos ⟨hks, hfull⟩, el]; rfl
        have hg : (l.getD 0 default).1 = k0 := by rw [el]; rfl
        have hdr : (itv l).drop (1 * 2) = itv t := by rw [itv_drop, el]; rfl
        have htl : l.length - 1 = t.length := by rw [el]; rfl
        have hlen : t.length + 1 = L.length := by rw [hL2, ins_len hst]
        rw [hH, hB, hO] at hK
        repeat' (first | refine sty ?_ | refine And.intro ?_ ?_ | (intro e; exfalso; omega) | (intro e; subst e) | intro _)
        refine drx [obj b6 30 [.bool false, .bool false, .int .u32 0]] ?_
        refine tks [0, 5, 1, 2, 3, 4] 3 ?_; repeat' (first | refine sty ?_ | refine And.intro ?_ ?_ | (intro e; exfalso; omega) | (intro e; subst e) | intro _)
        refine hv0 6 fun x6 => ?_
        refine tks [7] 1 ?_; repeat' (first | refine sty ?_ | refine And.intro ?_ ?_ | (intro e; exfalso; omega) | (intro e; subst e) | intro _)
        refine hv0 8 fun x8 => ?_
        rw [hg]
        repeat' (first | ((fail_if_success (refine atCall 49 ?_)); refine sty ?_) | refine And.intro ?_ ?_ | (intro e; exfalso; omega) | (intro e; subst e) | intro _)
        rw [hdr, htl]
        repeat' (first | refine sty ?_ | refine And.intro ?_ ?_ | (intro e; exfalso; omega) | (intro e; subst e) | intro _)
        rename_i a5 c5
        rw [hlen, ← hL2]
        exact fin hK (a5, c5)
      · have hL2 : L = Lf.ins l (k, 1) := by rw [← hLe]; unfold Lf.useL; rw [if_neg hks, if_neg hfull]
        have hB : useB size l k = false := decide_eq_false (fun h => hfull h.2)
        have hO : ((useO size l k : Nat) : Int) = 0 := by rw [show useO size l k = 0 from if_neg (fun h => hfull h.2)]; rfl
        have hlen : l.length + 1 = L.length := by rw [hL2, ins_len o.srt]
        have hsl := o.srt
        rw [hH, hB, hO] at hK
        repeat' (first | refine sty ?_ | refine And.intro ?_ ?_ | (intro e; exfalso; omega) | (intro e; subst e) | intro _)
        rename_i a5 c5
        rw [hlen, ← hL2]
        exact fin hK (a5, c5)
  · rintro ⟨a1, c1⟩
    by_cases hq : req + 1 = age
    · have hS : useS size age (req, l) k = (0, halveL L) := by unfold useS; rw [if_pos hq, hLe]
      have hlen : (halveL L).length = L.length := halve_len
      rw [hS]
      dsimp only
      rw [hlen, Int.natCast_zero]
      repeat' (first | refine sty ?_ | refine And.intro ?_ ?_ | (intro e; exfalso; omega) | (intro e; subst e) | intro _)
      refine tc_lp (ι := {q : Nat × Option Addr × Nat // q.1 ≤ L.length}) [8, 9] (fun e q => (8, .slice q.1.2.1 q.1.1 q.1.2.2) :: (9, .int .i64 (q.1.1 : Nat)) :: e)
        (fun q => [Vec 73 2 q.1.2.1 q.1.1 q.1.2.2 (itv (halveL (L.take q.1.1))), obj b2 48 [.int .i64 (size : Nat), .int .i64 (age : Nat), .int .i64 0, .slice a1 L.length c1], obj b6 30 [.bool (useH l k), .bool (useB size l k), .int .u32 (useO size l k : Nat)], obj b4 48 [.int .i64 0, .int .i64 0, .int .i64 0, .slice none 0 0], obj b5 30 [.bool false, .bool false, .int .u32 0], RoS 2 a1 L.length c1 (itv L), F]) (fun q => L.length - q.1.1) ⟨(0, none, 0), by simp⟩ ?_
        (hl := by dsimp only; rw [List.take_zero, halveL_nil]; show Ent _ [Vec 73 2 none 0 0 [], _, _, _, _, _, _]; exact en)
      rintro K ⟨⟨i, a2, c2⟩, hi⟩ hK
      dsimp only at hi ⊢
      by_cases hlt : i < L.length
      · have hsn : itv (halveL (L.take (i + 1))) = itv (halveL (L.take i)) ++ [.int .u32 ((L.getD i default).1 : Nat), .int .i64 ((max 1 ((L.getD i default).2 / 2) : Nat))] := by rw [take_snoc' hlt, halveL_snoc, itv_snoc]; rfl
        have hmx : max (1 : Int) (((L.getD i default).2 : Nat) / 2) = ((max 1 ((L.getD i default).2 / 2) : Nat) : Int) := by omega
        have hcn : (L.getD i default).2 ≤ 255 := by rw [getD_get hlt]; exact (oL.cnt _ (List.getElem_mem hlt)).2
        repeat' (first | ((fail_if_success (refine atD ?_)); refine sty ?_) | refine And.intro ?_ ?_ | (intro e; exfalso; omega) | (intro e; subst e) | intro _)
        refine drx [Vec 73 2 a2 i c2 (itv (halveL (L.take i)))] ?_
        refine tks [0, 1, 3, 7, 9, 2, 8, 4, 10, 5, 11, 6, 12, 13, 14, 15] 3 ?_; repeat' (first | refine sty ?_ | refine And.intro ?_ ?_ | (intro e; exfalso; omega) | (intro e; subst e) | intro _)
        refine hvb 16 fun x16 => ?_
        refine hv 17 fun x17 => ?_
        refine tks [18] 0 ?_; repeat' (first | refine sty ?_ | refine And.intro ?_ ?_ | (intro e; exfalso; omega) | (intro e; subst e) | intro _)
        rw [hmx, ← hsn]
        exact again hK ⟨(i + 1, x17.1, x17.2), by omega⟩
      · obtain rfl : i = L.length := by omega
        rw [List.take_length]
        repeat' (first | refine sty ?_ | refine And.intro ?_ ?_ | (intro e; exfalso; omega) | (intro e; subst e) | intro _)
        refine drx [obj b4 48 [.int .i64 0, .int .i64 0, .int .i64 0, .slice none 0 0], obj b5 30 [.bool false, .bool false, .int .u32 0]] ?_
        refine tks [0, 1] 2 ?_; repeat' (first | refine sty ?_ | refine And.intro ?_ ?_ | (intro e; exfalso; omega) | (intro e; subst e) | intro _)
        refine hv0 2 fun x2 => ?_
        refine hv0 3 fun x3 => ?_
        repeat' (first | refine sty ?_ | refine And.intro ?_ ?_ | (intro e; exfalso; omega) | (intro e; subst e) | intro _)
        refine frz a2 ?_
        exact raa (a2, c2) rfl
    · have hS : useS size age (req, l) k = (req + 1, L) := by unfold useS; rw [if_neg hq, hLe]
      rw [hS]
      dsimp only
      rw [show ((req + 1 : Nat) : Int) = (req : Int) + 1 from rfl]
      rcases Nat.eq_zero_or_pos age with h0 | h0
      all_goals (repeat' (first | refine sty ?_ | refine And.intro ?_ ?_ | (intro e; exfalso; omega) | (intro e; subst e) | intro _))
      all_goals (refine drx [obj b4 48 [.int .i64 0, .int .i64 0, .int .i64 0, .slice none 0 0], obj b5 30 [.bool false, .bool false, .int .u32 0]] ?_)
      all_goals (refine tks [0, 1] 2 ?_; repeat' (first | refine sty ?_ | refine And.intro ?_ ?_ | (intro e; exfalso; omega) | (intro e; subst e) | intro _))
      all_goals (refine hv0 2 fun x2 => ?_; refine hv0 3 fun x3 => ?_; repeat' (first | refine sty ?_ | refine And.intro ?_ ?_ | (intro e; exfalso; omega) | (intro e; subst e) | intro _))
      all_goals exact raa (a1, c1) rfl⟩
end Go.Proofs.Ytmiblmoppdgnjaa
