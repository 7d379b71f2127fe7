/- The reference of segment, walked: Renumber. -/
import Derived.Test.YtbkpojlbclehaaaSgR5
import Derived.Test.YtbkpojlbclehaaaSgRen
namespace Go.Sg
def aA (P T : List It) : Nat → List Nat
  | 0 => []
  | 1 => sl P
  | _ + 2 => sl P ++ sl T
def aN (P T : List It) : Nat → Nat
  | 0 => 0
  | 1 => P.length
  | _ + 2 => P.length + T.length
def rA (P T : List It) (to : List Nat) : Nat → List Nat
  | 0 => sl (renX P to) ++ sl (renX T to)
  | 1 => sl (renX T to)
  | _ + 2 => []
def rN (P T : List It) : Nat → Nat
  | 0 => P.length + T.length
  | 1 => T.length
  | _ + 2 => 0
def rP (P : List It) (to : List Nat) : Nat → List It
  | 0 => []
  | _ + 1 => renX P to
def rT (T : List It) (to : List Nat) : Nat → List It
  | 0 => []
  | 1 => []
  | _ + 2 => renX T to
theorem ren_drop {X : List It} {to : List Nat} {i : Nat} (h : i < X.length) : sl (renX (X.drop i) to) = to.getD (X.getD i (0, 0)).1 0 :: sl (renX (X.drop (i + 1)) to) := by
  rw [List.drop_eq_getElem_cons h, List.getD_eq_getElem?_getD (l := X), List.getElem?_eq_getElem h]; rfl
end Go.Sg
namespace Go.Proofs.Ytbkpojlbclehaaa
open Go.Lk Go.Sl Go.Lr Go.Sg
attribute [local irreducible] TK TL TC Th Bk Nx fnPost WA TQ OpQ OpN SpecH Rd Ent IterH RoundH Rb Rp fnPostM
attribute [local irreducible] Sg.sm Sg.sl Sg.demN Sg.rm Sg.renX
set_option maxHeartbeats 8000000 in
instance sgr_renumber : Known Try.prog 72 (∀ (a0 a1 a : Option Addr) (c0 c1 m cap : Nat) (P T : List It) (L : Int) (to : List Nat) (P' T' : List It) (e : Int), RenTo P T to P' T' e → Inv ⟨P, T, L⟩ → m = to.length → m ≤ 4194304 → (∀ x ∈ to, x < 4294967296) → P.length ≤ 1000000 → T.length ≤ 1000000 → SpecH Try.prog 72 #[.agg #[.slice a0 P.length c0, .slice a1 T.length c1, .int .i64 L], .slice a m cap] [RoS 2 a0 P.length c0 (wc P), RoS 2 a1 T.length c1 (wc T), RoS 1 a m cap (u32s to)] (fun q : S2 => .tuple #[.agg #[.slice q.1.1 P'.length q.1.2, .slice q.2.1 T'.length q.2.2, .int .i64 L], .int .i64 e]) (fun q => [RoS 2 q.1.1 P'.length q.1.2 (wc P'), RoS 2 q.2.1 T'.length q.2.2 (wc T')])) := ⟨fun a0 a1 a c0 c1 m cap P T L to P' T' e u iv hm hml hto hp ht => by
  subst hm
  refine spec_of Try.func72 rfl Try.ntmps72 rfl [(0, _), (1, _)] rfl ?_; intro base F l0 hl0; (try simp only [List.cons_append] at hl0); (try simp only [List.nil_append] at hl0); subst hl0
  repeat' (first | refine stw ?_ | refine And.intro ?_ ?_ | (intro e; exfalso; omega) | (intro e; subst e) | intro _)
  rename_i b2 b4
  refine tc_lp (ι := {x : Nat × Option Addr × Nat // x.1 ≤ 2}) [6, 7] (fun e x => (6, .slice x.1.2.1 (aN P T x.1.1) x.1.2.2) :: (7, .int .i64 (x.1.1 : Nat)) :: e) (fun x => [Vec 34 1 x.1.2.1 (aN P T x.1.1) x.1.2.2 (u32s (aA P T x.1.1)), obj b2 29 [.slice a0 P.length c0, .slice a1 T.length c1, .int .i64 L], RoS 2 a0 P.length c0 (wc P), RoS 2 a1 T.length c1 (wc T), RoS 1 a to.length cap (u32s to), obj b4 29 [.slice none 0 0, .slice none 0 0, .int .i64 0], F]) (fun x => 2 - x.1.1) ⟨(0, none, 0), by omega⟩ ?_
    (hl := by show Ent _ [Vec 34 1 none 0 0 [], obj b2 29 [.slice a0 P.length c0, .slice a1 T.length c1, .int .i64 L], RoS 2 a0 P.length c0 (wc P), RoS 2 a1 T.length c1 (wc T), RoS 1 a to.length cap (u32s to), obj b4 29 [.slice none 0 0, .slice none 0 0, .int .i64 0], F]; exact en)
  rintro K ⟨⟨v, a6, c6⟩, hle⟩ hK
  dsimp only at hle ⊢
  rcases v with _ | _ | v
  · show TC _ _ _ _ _ _ _ ((6, .slice a6 0 c6) :: _) (Vec 34 1 a6 0 c6 (u32s []) :: _)
    repeat' (first | refine stw ?_ | refine And.intro ?_ ?_ | (intro e; exfalso; omega) | (intro e; subst e) | intro _)
    refine tc_lp (ι := {x : Nat × Option Addr × Nat // x.1 ≤ P.length}) [6, 8] (fun e x => (6, .slice x.1.2.1 x.1.1 x.1.2.2) :: (8, .int .i64 (x.1.1 : Nat)) :: e) (fun x => [Vec 34 1 x.1.2.1 x.1.1 x.1.2.2 (u32s (sl (P.take x.1.1))), obj b2 29 [.slice a0 P.length c0, .slice a1 T.length c1, .int .i64 L], RoS 2 a0 P.length c0 (wc P), RoS 2 a1 T.length c1 (wc T), RoS 1 a to.length cap (u32s to), obj b4 29 [.slice none 0 0, .slice none 0 0, .int .i64 0], F]) (fun x => P.length - x.1.1) ⟨(0, a6, c6), by omega⟩ ?_
      (hl := by dsimp only; rw [List.take_zero, sl_nil]; exact en)
    rintro K2 ⟨⟨i, a7, c7⟩, hi⟩ hK2
    dsimp only at hi ⊢
    by_cases hc : i < P.length
    · have hsn := take_snocS hc
      have e1 : sl (P.take (i + 1)) = sl (P.take i) ++ [(P.getD i (0, 0)).1] := by rw [hsn, sl_append, sl_one]
      repeat' (first | refine stw ?_ | refine And.intro ?_ ?_ | (intro e; exfalso; omega) | (intro e; subst e) | intro _)
      rename_i a8 c8
      rw [← u32s_snocS, ← e1]
      exact again hK2 ⟨(i + 1, a8, c8), by omega⟩ (by dsimp only; omega)
    · obtain rfl : i = P.length := by omega
      rw [List.take_length]
      repeat' (first | refine stw ?_ | refine And.intro ?_ ?_ | (intro e; exfalso; omega) | (intro e; subst e) | intro _)
      exact again hK ⟨(1, a7, c7), by omega⟩ (by dsimp only; omega) (he := by show Ent _ [Vec 34 1 a7 P.length c7 (u32s (sl P)), obj b2 29 [.slice a0 P.length c0, .slice a1 T.length c1, .int .i64 L], RoS 2 a0 P.length c0 (wc P), RoS 2 a1 T.length c1 (wc T), RoS 1 a to.length cap (u32s to), obj b4 29 [.slice none 0 0, .slice none 0 0, .int .i64 0], F]; exact en)
  · show TC _ _ _ _ _ _ _ ((6, .slice a6 P.length c6) :: _) (Vec 34 1 a6 P.length c6 (u32s (sl P)) :: _)
    repeat' (first | refine stw ?_ | refine And.intro ?_ ?_ | (intro e; exfalso; omega) | (intro e; subst e) | intro _)
    refine tc_lp (ι := {x : Nat × Option Addr × Nat // x.1 ≤ T.length}) [6, 8] (fun e x => (6, .slice x.1.2.1 (P.length + x.1.1) x.1.2.2) :: (8, .int .i64 (x.1.1 : Nat)) :: e) (fun x => [Vec 34 1 x.1.2.1 (P.length + x.1.1) x.1.2.2 (u32s (sl P ++ sl (T.take x.1.1))), obj b2 29 [.slice a0 P.length c0, .slice a1 T.length c1, .int .i64 L], RoS 2 a0 P.length c0 (wc P), RoS 2 a1 T.length c1 (wc T), RoS 1 a to.length cap (u32s to), obj b4 29 [.slice none 0 0, .slice none 0 0, .int .i64 0], F]) (fun x => T.length - x.1.1) ⟨(0, a6, c6), by omega⟩ ?_
      (hl := by dsimp only; rw [List.take_zero, sl_nil, List.append_nil, Nat.add_zero]; exact en)
    rintro K2 ⟨⟨i, a7, c7⟩, hi⟩ hK2
    dsimp only at hi ⊢
    by_cases hc : i < T.length
    · have hsn := take_snocS hc
      have e1 : sl P ++ sl (T.take (i + 1)) = (sl P ++ sl (T.take i)) ++ [(T.getD i (0, 0)).1] := by rw [hsn, sl_append, sl_one, List.append_assoc]
      repeat' (first | refine stw ?_ | refine And.intro ?_ ?_ | (intro e; exfalso; omega) | (intro e; subst e) | intro _)
      rename_i a8 c8
      rw [← u32s_snocS, ← e1, Nat.add_assoc P.length i 1]
      exact again hK2 ⟨(i + 1, a8, c8), by omega⟩ (by dsimp only; omega)
    · obtain rfl : i = T.length := by omega
      rw [List.take_length]
      repeat' (first | refine stw ?_ | refine And.intro ?_ ?_ | (intro e; exfalso; omega) | (intro e; subst e) | intro _)
      exact again hK ⟨(2, a7, c7), by omega⟩ (by dsimp only; omega) (he := by show Ent _ [Vec 34 1 a7 (P.length + T.length) c7 (u32s (sl P ++ sl T)), obj b2 29 [.slice a0 P.length c0, .slice a1 T.length c1, .int .i64 L], RoS 2 a0 P.length c0 (wc P), RoS 2 a1 T.length c1 (wc T), RoS 1 a to.length cap (u32s to), obj b4 29 [.slice none 0 0, .slice none 0 0, .int .i64 0], F]; exact en)
  · obtain rfl : v = 0 := by omega
    show TC _ _ _ _ _ _ _ ((6, .slice a6 (P.length + T.length) c6) :: _) (Vec 34 1 a6 (P.length + T.length) c6 (u32s (sl P ++ sl T)) :: _)
    refine TC.freeze (.here _ _) ?_
    have hall : (sl P ++ sl T).length = P.length + T.length := by rw [List.length_append, sl_len, sl_len]
    have hlt : ∀ x ∈ sl P ++ sl T, x < 4194304 := fun x hx => (List.mem_append.1 hx).elim (iv.pslot x) (iv.tslot x)
    rcases u.out with ⟨hok, rfl, rfl, rfl⟩ | ⟨hok, rfl, rfl, rfl⟩
    · have b1 : Lr.renE' (sl P ++ sl T) to = 0 := by unfold Lr.renE'; exact if_pos hok
      have b2 : Lr.renL (sl P ++ sl T) to = sl (renX P to) ++ sl (renX T to) := by unfold Lr.renL; rw [sl_renX, sl_renX, ← List.map_append]; exact if_pos hok
      haveI : Known Try.prog 102 (∀ (a a2 : Option Addr) (c c2 : Nat), SpecH Try.prog 102 #[.slice a (P.length + T.length) c, .slice a2 to.length c2] [RoS 1 a (P.length + T.length) c (u32s (sl P ++ sl T)), RoS 1 a2 to.length c2 (u32s to)] (fun q : Option Addr × Nat => .tuple #[.slice q.1 (P.length + T.length) q.2, .int .i64 0]) (fun q => [RoS 1 q.1 (P.length + T.length) q.2 (u32s (sl (renX P to) ++ sl (renX T to)))])) := ⟨fun a a2 c c2 => by
        have h := lrr_renumber.out a a2 (P.length + T.length) to.length c c2 (sl P ++ sl T) to hall.symm (by omega) rfl hml hto hlt
        rwa [b1, b2, hall] at h⟩
      clear u b1 b2 hok hall hlt
      repeat' (first | refine stw ?_ | refine And.intro ?_ ?_ | (intro e; exfalso; omega) | (intro e; subst e) | intro _)
      rename_i a5 c5 b10
      refine tc_lp (ι := {x : Nat × S2 × Option Addr × Nat // x.1 ≤ 2}) [6, 11] (fun e x => (6, .slice x.1.2.2.1 (rN P T x.1.1) x.1.2.2.2) :: (11, .int .i64 (x.1.1 : Nat)) :: e) (fun x => [RoS 1 x.1.2.2.1 (rN P T x.1.1) x.1.2.2.2 (u32s (rA P T to x.1.1)), obj b10 29 [.slice x.1.2.1.1.1 (rP P to x.1.1).length x.1.2.1.1.2, .slice x.1.2.1.2.1 (rT T to x.1.1).length x.1.2.1.2.2, .int .i64 L], RoS 2 x.1.2.1.1.1 (rP P to x.1.1).length x.1.2.1.1.2 (wc (rP P to x.1.1)), RoS 2 x.1.2.1.2.1 (rT T to x.1.1).length x.1.2.1.2.2 (wc (rT T to x.1.1)), obj b2 29 [.slice a0 P.length c0, .slice a1 T.length c1, .int .i64 L], RoS 2 a0 P.length c0 (wc P), RoS 2 a1 T.length c1 (wc T), RoS 1 a to.length cap (u32s to), obj b4 29 [.slice none 0 0, .slice none 0 0, .int .i64 0], F]) (fun x => 2 - x.1.1) ⟨(0, ((none, 0), none, 0), a5, c5), by omega⟩ ?_
        (hl := by show Ent _ [RoS 1 a5 (P.length + T.length) c5 (u32s (sl (renX P to) ++ sl (renX T to))), obj b10 29 [.slice none 0 0, .slice none 0 0, .int .i64 L], RoS 2 none 0 0 [], RoS 2 none 0 0 [], obj b2 29 [.slice a0 P.length c0, .slice a1 T.length c1, .int .i64 L], RoS 2 a0 P.length c0 (wc P), RoS 2 a1 T.length c1 (wc T), RoS 1 a to.length cap (u32s to), obj b4 29 [.slice none 0 0, .slice none 0 0, .int .i64 0], F]; exact en)
      rintro K ⟨⟨v, ⟨⟨p1, p2⟩, t1, t2⟩, a6, c6⟩, hle⟩ hK
      dsimp only at hle ⊢
      rcases v with _ | _ | v
      · show TC _ _ _ _ _ _ _ ((6, .slice a6 (P.length + T.length) c6) :: _) (RoS 1 a6 (P.length + T.length) c6 (u32s (sl (renX P to) ++ sl (renX T to))) :: obj b10 29 [.slice p1 ([] : List It).length p2, .slice t1 ([] : List It).length t2, .int .i64 L] :: RoS 2 p1 ([] : List It).length p2 (wc []) :: RoS 2 t1 ([] : List It).length t2 (wc []) :: _)
        repeat' (first | refine stw ?_ | refine And.intro ?_ ?_ | (intro e; exfalso; omega) | (intro e; subst e) | intro _)
        refine tc_lp (ι := {x : Nat × S2 × Option Addr × Nat // x.1 ≤ P.length}) [6, 12] (fun e x => (6, .slice x.1.2.2.1 (P.length - x.1.1 + T.length) x.1.2.2.2) :: (12, .int .i64 (x.1.1 : Nat)) :: e) (fun x => [RoS 1 x.1.2.2.1 (P.length - x.1.1 + T.length) x.1.2.2.2 (u32s (sl (renX (P.drop x.1.1) to) ++ sl (renX T to))), obj b10 29 [.slice x.1.2.1.1.1 (renX (P.take x.1.1) to).length x.1.2.1.1.2, .slice x.1.2.1.2.1 ([] : List It).length x.1.2.1.2.2, .int .i64 L], RoS 2 x.1.2.1.1.1 (renX (P.take x.1.1) to).length x.1.2.1.1.2 (wc (renX (P.take x.1.1) to)), RoS 2 x.1.2.1.2.1 ([] : List It).length x.1.2.1.2.2 (wc []), obj b2 29 [.slice a0 P.length c0, .slice a1 T.length c1, .int .i64 L], RoS 2 a0 P.length c0 (wc P), RoS 2 a1 T.length c1 (wc T), RoS 1 a to.length cap (u32s to), obj b4 29 [.slice none 0 0, .slice none 0 0, .int .i64 0], F]) (fun x => P.length - x.1.1) ⟨(0, ((p1, p2), t1, t2), a6, c6), by omega⟩ ?_
          (hl := by dsimp only; rw [List.take_zero, renX_nil, List.drop_zero, Nat.sub_zero]; exact en)
        rintro K2 ⟨⟨i, ⟨⟨p1, p2⟩, t1, t2⟩, a7, c7⟩, hi⟩ hK2
        dsimp only at hi ⊢
        by_cases hc : i < P.length
        · have hsn := take_snocS hc
          obtain ⟨y, hy⟩ : ∃ y, to.getD (P.getD i (0, 0)).1 0 = y := ⟨_, rfl⟩
          obtain ⟨R, hR⟩ : ∃ R, sl (renX (P.drop (i + 1)) to) ++ sl (renX T to) = R := ⟨_, rfl⟩
          have hd : sl (renX (P.drop i) to) ++ sl (renX T to) = y :: R := by rw [ren_drop hc, hy, List.cons_append, hR]
          have hnil : ([] : List It).length ≤ 4194304 := by decide
          have hput : OPut 0 (renX (P.take i) to) [] y (P.getD i (0, 0)).2 (renX (P.take (i + 1)) to) [] := ⟨.inl ⟨rfl, by rw [hsn, renX_app, renX_one, hy], rfl⟩⟩
          have hln : (renX (P.take i) to).length ≤ 4194304 := by rw [renX_len, List.length_take]; omega
          have hpos : 0 < (y :: R).length := Nat.succ_pos _
          rw [hd]
          repeat' (first | ((fail_if_success (refine atD ?_)); refine stw ?_) | refine And.intro ?_ ?_ | (intro e; exfalso; omega) | (intro e; subst e) | intro _)
          refine drx [obj b10 29 [.slice p1 (renX (P.take i) to).length p2, .slice t1 ([] : List It).length t2, .int .i64 L]] ?_
          refine tks [1, 2, 5, 6, 9, 3, 7, 4, 8, 10, 11, 12, 13] 3 ?_; repeat' (first | refine stw ?_ | refine And.intro ?_ ?_ | (intro e; exfalso; omega) | (intro e; subst e) | intro _)
          refine hvr 0 ?_
          refine hv 14 fun x14 => ?_
          refine hv0 15 fun x15 => ?_
          repeat' (first | refine stw ?_ | refine And.intro ?_ ?_ | (intro e; exfalso; omega) | (intro e; subst e) | intro _)
          rename_i a8 c8
          rw [show P.length - i + T.length - 1 = P.length - (i + 1) + T.length by omega, show (u32s (y :: R)).drop (1 * 1) = u32s R from rfl, ← hR]
          exact again hK2 ⟨(i + 1, x14, a8, c8), by omega⟩ (by dsimp only; omega)
        · obtain rfl : i = P.length := by omega
          rw [List.take_length, List.drop_length, renX_nil, sl_nil, List.nil_append, Nat.sub_self, Nat.zero_add]
          repeat' (first | refine stw ?_ | refine And.intro ?_ ?_ | (intro e; exfalso; omega) | (intro e; subst e) | intro _)
          exact again hK ⟨(1, ((p1, p2), t1, t2), a7, c7), by omega⟩ (by dsimp only; omega) (he := by show Ent _ [RoS 1 a7 T.length c7 (u32s (sl (renX T to))), obj b10 29 [.slice p1 (renX P to).length p2, .slice t1 (([] : List It)).length t2, .int .i64 L], RoS 2 p1 (renX P to).length p2 (wc (renX P to)), RoS 2 t1 (([] : List It)).length t2 (wc (([] : List It))), obj b2 29 [.slice a0 P.length c0, .slice a1 T.length c1, .int .i64 L], RoS 2 a0 P.length c0 (wc P), RoS 2 a1 T.length c1 (wc T), RoS 1 a to.length cap (u32s to), obj b4 29 [.slice none 0 0, .slice none 0 0, .int .i64 0], F]; exact en)
      · show TC _ _ _ _ _ _ _ ((6, .slice a6 T.length c6) :: _) (RoS 1 a6 T.length c6 (u32s (sl (renX T to))) :: obj b10 29 [.slice p1 (renX P to).length p2, .slice t1 (([] : List It)).length t2, .int .i64 L] :: RoS 2 p1 (renX P to).length p2 (wc (renX P to)) :: RoS 2 t1 (([] : List It)).length t2 (wc (([] : List It))) :: _)
        repeat' (first | refine stw ?_ | refine And.intro ?_ ?_ | (intro e; exfalso; omega) | (intro e; subst e) | intro _)
        refine tc_lp (ι := {x : Nat × S2 × Option Addr × Nat // x.1 ≤ T.length}) [6, 12] (fun e x => (6, .slice x.1.2.2.1 (T.length - x.1.1) x.1.2.2.2) :: (12, .int .i64 (x.1.1 : Nat)) :: e) (fun x => [RoS 1 x.1.2.2.1 (T.length - x.1.1) x.1.2.2.2 (u32s (sl (renX (T.drop x.1.1) to))), obj b10 29 [.slice x.1.2.1.1.1 (renX P to).length x.1.2.1.1.2, .slice x.1.2.1.2.1 (renX (T.take x.1.1) to).length x.1.2.1.2.2, .int .i64 L], RoS 2 x.1.2.1.1.1 (renX P to).length x.1.2.1.1.2 (wc (renX P to)), RoS 2 x.1.2.1.2.1 (renX (T.take x.1.1) to).length x.1.2.1.2.2 (wc (renX (T.take x.1.1) to)), obj b2 29 [.slice a0 P.length c0, .slice a1 T.length c1, .int .i64 L], RoS 2 a0 P.length c0 (wc P), RoS 2 a1 T.length c1 (wc T), RoS 1 a to.length cap (u32s to), obj b4 29 [.slice none 0 0, .slice none 0 0, .int .i64 0], F]) (fun x => T.length - x.1.1) ⟨(0, ((p1, p2), t1, t2), a6, c6), by omega⟩ ?_
          (hl := by dsimp only; rw [List.take_zero, renX_nil, List.drop_zero, Nat.sub_zero]; exact en)
        rintro K2 ⟨⟨i, ⟨⟨p1, p2⟩, t1, t2⟩, a7, c7⟩, hi⟩ hK2
        dsimp only at hi ⊢
        by_cases hc : i < T.length
        · have hsn := take_snocS hc
          obtain ⟨y, hy⟩ : ∃ y, to.getD (T.getD i (0, 0)).1 0 = y := ⟨_, rfl⟩
          obtain ⟨R, hR⟩ : ∃ R, sl (renX (T.drop (i + 1)) to) = R := ⟨_, rfl⟩
          have hd : sl (renX (T.drop i) to) = y :: R := by rw [ren_drop hc, hy, hR]
          have hput : OPut 1 (renX P to) (renX (T.take i) to) y (T.getD i (0, 0)).2 (renX P to) (renX (T.take (i + 1)) to) := ⟨.inr ⟨rfl, rfl, by rw [hsn, renX_app, renX_one, hy]⟩⟩
          have hln : (renX (T.take i) to).length ≤ 4194304 := by rw [renX_len, List.length_take]; omega
          have hln2 : (renX P to).length ≤ 4194304 := by rw [renX_len]; omega
          have hpos : 0 < (y :: R).length := Nat.succ_pos _
          rw [hd]
          repeat' (first | ((fail_if_success (refine atD ?_)); refine stw ?_) | refine And.intro ?_ ?_ | (intro e; exfalso; omega) | (intro e; subst e) | intro _)
          refine drx [obj b10 29 [.slice p1 (renX P to).length p2, .slice t1 (renX (T.take i) to).length t2, .int .i64 L]] ?_
          refine tks [1, 2, 5, 6, 9, 3, 7, 4, 8, 10, 11, 12, 13] 3 ?_; repeat' (first | refine stw ?_ | refine And.intro ?_ ?_ | (intro e; exfalso; omega) | (intro e; subst e) | intro _)
          refine hvr 0 ?_
          refine hv 14 fun x14 => ?_
          refine hv0 15 fun x15 => ?_
          repeat' (first | refine stw ?_ | refine And.intro ?_ ?_ | (intro e; exfalso; omega) | (intro e; subst e) | intro _)
          rename_i a8 c8
          rw [show T.length - i - 1 = T.length - (i + 1) by omega, show (u32s (y :: R)).drop (1 * 1) = u32s R from rfl, ← hR]
          exact again hK2 ⟨(i + 1, x14, a8, c8), by omega⟩ (by dsimp only; omega)
        · obtain rfl : i = T.length := by omega
          rw [List.take_length, List.drop_length, renX_nil, sl_nil, Nat.sub_self]
          repeat' (first | refine stw ?_ | refine And.intro ?_ ?_ | (intro e; exfalso; omega) | (intro e; subst e) | intro _)
          exact again hK ⟨(2, ((p1, p2), t1, t2), a7, c7), by omega⟩ (by dsimp only; omega) (he := by show Ent _ [RoS 1 a7 0 c7 (u32s []), obj b10 29 [.slice p1 (renX P to).length p2, .slice t1 (renX T to).length t2, .int .i64 L], RoS 2 p1 (renX P to).length p2 (wc (renX P to)), RoS 2 t1 (renX T to).length t2 (wc (renX T to)), obj b2 29 [.slice a0 P.length c0, .slice a1 T.length c1, .int .i64 L], RoS 2 a0 P.length c0 (wc P), RoS 2 a1 T.length c1 (wc T), RoS 1 a to.length cap (u32s to), obj b4 29 [.slice none 0 0, .slice none 0 0, .int .i64 0], F]; exact en)
      · obtain rfl : v = 0 := by omega
        show TC _ _ _ _ _ _ _ ((6, .slice a6 0 c6) :: _) (RoS 1 a6 0 c6 (u32s []) :: obj b10 29 [.slice p1 (renX P to).length p2, .slice t1 (renX T to).length t2, .int .i64 L] :: RoS 2 p1 (renX P to).length p2 (wc (renX P to)) :: RoS 2 t1 (renX T to).length t2 (wc (renX T to)) :: _)
        repeat' (first | refine stw ?_ | refine And.intro ?_ ?_ | (intro e; exfalso; omega) | (intro e; subst e) | intro _)
        exact ra2 ((p1, p2), t1, t2) rfl
    · have b1 : Lr.renE' (sl P' ++ sl T') to = 2 := by unfold Lr.renE'; exact if_neg hok
      haveI : Known Try.prog 102 (∀ (a a2 : Option Addr) (c c2 : Nat), SpecH Try.prog 102 #[.slice a (P'.length + T'.length) c, .slice a2 to.length c2] [RoS 1 a (P'.length + T'.length) c (u32s (sl P' ++ sl T')), RoS 1 a2 to.length c2 (u32s to)] (fun q : Option Addr × Nat => .tuple #[.slice q.1 (P'.length + T'.length) q.2, .int .i64 2]) (fun q => [RoS 1 q.1 (P'.length + T'.length) q.2 (u32s (Lr.renL (sl P' ++ sl T') to))])) := ⟨fun a a2 c c2 => by
        have h := lrr_renumber.out a a2 (P'.length + T'.length) to.length c c2 (sl P' ++ sl T') to hall.symm (by omega) rfl hml hto hlt
        rwa [b1, hall] at h⟩
      repeat' (first | refine stw ?_ | refine And.intro ?_ ?_ | (intro e; exfalso; omega) | (intro e; subst e) | intro _)
      exact ra2 ((a0, c0), a1, c1) rfl⟩
end Go.Proofs.Ytbkpojlbclehaaa
