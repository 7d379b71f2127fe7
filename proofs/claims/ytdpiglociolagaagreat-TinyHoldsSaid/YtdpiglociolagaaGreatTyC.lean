/- TyC: TyW5, TyW6, TyW7, TyW8, TyW9, TyW10, TyMem, TyW11. -/
import Derived.Test.YtdpiglociolagaaGreatTyB
import Derived.Test.YtdpiglociolagaaGreatLrA
/- sketch, walked: halved; a copy; a new one. -/
namespace Go.Ty
open Go.Lk Go.Sl
theorem half_at {W : List (BitVec 64)} {i : Nat} (h : i < W.length) : at64 ((W.take i).map halfW ++ W.drop i) i = at64 W i ∧ ((W.take i).map halfW ++ W.drop i).set i (halfW (at64 W i)) = (W.take (i + 1)).map halfW ++ W.drop (i + 1) ∧ ((W.take i).map halfW ++ W.drop i).length = W.length := by
  have hl : ((W.take i).map halfW).length = i := by rw [List.length_map, List.length_take]; omega
  have e0 : at64 W i = W[i] := by unfold at64; rw [List.getD_eq_getElem?_getD, List.getElem?_eq_getElem h]; rfl
  refine ⟨?_, ?_, by rw [List.length_append, hl, List.length_drop]; omega⟩
  · unfold at64
    rw [List.getD_eq_getElem?_getD, List.getD_eq_getElem?_getD, List.getElem?_append_right (by omega), hl, Nat.sub_self, List.getElem?_drop, Nat.add_zero]
  · rw [List.set_append_right _ _ (by omega), hl, Nat.sub_self, List.drop_eq_getElem_cons h, List.set_cons_zero, e0, List.take_succ_eq_append_getElem h, List.map_append, List.append_assoc]; rfl
theorem SkOk.half {w : Nat} {C0 C1 C2 C3 : List Nat} {W0 W1 W2 W3 : List (BitVec 64)} (h : SkOk w C0 C1 C2 C3 W0 W1 W2 W3) : SkOk w (C0.map (· / 2)) (C1.map (· / 2)) (C2.map (· / 2)) (C3.map (· / 2)) (W0.map halfW) (W1.map halfW) (W2.map halfW) (W3.map halfW) :=
  ⟨h.k0.half, h.k1.half, h.k2.half, h.k3.half, by rw [List.length_map]; exact h.l0, by rw [List.length_map]; exact h.l1, by rw [List.length_map]; exact h.l2, by rw [List.length_map]; exact h.l3, h.pw⟩
def hw4 (W : List (BitVec 64)) (j v : Nat) : List (BitVec 64) := if j < v then W.map halfW else W
theorem halfW_def {w : BitVec 64} : w >>> 1 &&& 8608480567731124087#64 = halfW w := rfl
end Go.Ty
namespace Go.Proofs.YtdpiglociolagaaGreat
open Go.Lk Go.Sl Go.Ty
attribute [local irreducible] TK TL TC Th Bk Nx fnPost WA TQ OpQ OpN SpecH Rd Ent IterH RoundH Rb Rp fnPostM
attribute [local irreducible] Ty.sumB Ty.plS Ty.at64 Ty.cAdd Ty.halfW
set_option maxHeartbeats 8000000 in
instance sk_halve : Known Tryz.prog 69 (∀ (q : Nat) (seed : BitVec 64) (w : Nat) (C0 C1 C2 C3 : List Nat) (ad : Nat), ad ≤ 4611686018427387904 → SpecH Tryz.prog 69 #[.pointer (some ⟨q, 0, none⟩)] [SketchAt q seed w C0 C1 C2 C3 ad] (fun _ : Unit => .int .i64 0) (fun _ => [SketchAt q seed w (C0.map (· / 2)) (C1.map (· / 2)) (C2.map (· / 2)) (C3.map (· / 2)) (ad / 2)])) := ⟨fun q seed w C0 C1 C2 C3 ad hadd => by
  refine spec_of Tryz.func69 rfl Tryz.ntmps69 rfl [(0, _)] rfl ?_; intro base F l0 hl0; (try simp only [List.cons_append] at hl0); (try simp only [List.nil_append] at hl0); subst hl0
  repeat' (first | ((fail_if_success (refine atLoad 157 ?_)); refine sts ?_) | refine And.intro ?_ ?_ | (intro e; exfalso; omega) | (intro e; subst e) | intro _)
  refine SketchAt.openL fun W0 W1 W2 W3 b0 b1 b2 b3 c0 c1 c2 c3 ok => ?_
  obtain ⟨e, he⟩ := ok.pw
  obtain ⟨hw1, hw2, _⟩ := pow_le16 he
  have n0 : W0.length ≤ 65536 := by have := ok.k0.len; have := ok.l0; omega
  have n1 : W1.length ≤ 65536 := by have := ok.k1.len; have := ok.l1; omega
  have n2 : W2.length ≤ 65536 := by have := ok.k2.len; have := ok.l2; omega
  have n3 : W3.length ≤ 65536 := by have := ok.k3.len; have := ok.l3; omega
  have ok2 := ok.half
  repeat' (first | refine sts ?_ | refine And.intro ?_ ?_ | (intro e; exfalso; omega) | (intro e; subst e) | intro _)
  refine tc_lp (ι := {v : Nat // v ≤ 4}) [13] (fun e v => (13, .int .i64 (v.1 : Nat)) :: e) (fun v => [obj q 159 [.int .i64 (w : Nat), .int .i64 0, .int .i64 (ad : Nat), .int .u64 (seed.toNat : Nat), .bool false, .slice (some ⟨b0, 0, none⟩) W0.length c0, .slice (some ⟨b1, 0, none⟩) W1.length c1, .slice (some ⟨b2, 0, none⟩) W2.length c2, .slice (some ⟨b3, 0, none⟩) W3.length c3], Vec 22 1 (some ⟨b0, 0, none⟩) W0.length c0 (w64 (hw4 W0 0 v.1)), Vec 22 1 (some ⟨b1, 0, none⟩) W1.length c1 (w64 (hw4 W1 1 v.1)), Vec 22 1 (some ⟨b2, 0, none⟩) W2.length c2 (w64 (hw4 W2 2 v.1)), Vec 22 1 (some ⟨b3, 0, none⟩) W3.length c3 (w64 (hw4 W3 3 v.1)), F]) (fun v => 4 - v.1) ⟨0, by omega⟩ ?_ (hl := by show Ent _ [obj q 159 [.int .i64 (w : Nat), .int .i64 0, .int .i64 (ad : Nat), .int .u64 (seed.toNat : Nat), .bool false, .slice (some ⟨b0, 0, none⟩) W0.length c0, .slice (some ⟨b1, 0, none⟩) W1.length c1, .slice (some ⟨b2, 0, none⟩) W2.length c2, .slice (some ⟨b3, 0, none⟩) W3.length c3], Vec 22 1 (some ⟨b0, 0, none⟩) W0.length c0 (w64 W0), Vec 22 1 (some ⟨b1, 0, none⟩) W1.length c1 (w64 W1), Vec 22 1 (some ⟨b2, 0, none⟩) W2.length c2 (w64 W2), Vec 22 1 (some ⟨b3, 0, none⟩) W3.length c3 (w64 W3), F]; exact en)
  rintro K ⟨v, hv4⟩ hK
  dsimp only at hv4 ⊢
  rcases v with _ | _ | _ | _ | v
  · show TC _ _ _ _ _ _ _ _ [obj q 159 [.int .i64 (w : Nat), .int .i64 0, .int .i64 (ad : Nat), .int .u64 (seed.toNat : Nat), .bool false, .slice (some ⟨b0, 0, none⟩) W0.length c0, .slice (some ⟨b1, 0, none⟩) W1.length c1, .slice (some ⟨b2, 0, none⟩) W2.length c2, .slice (some ⟨b3, 0, none⟩) W3.length c3], Vec 22 1 (some ⟨b0, 0, none⟩) W0.length c0 (w64 W0), Vec 22 1 (some ⟨b1, 0, none⟩) W1.length c1 (w64 W1), Vec 22 1 (some ⟨b2, 0, none⟩) W2.length c2 (w64 W2), Vec 22 1 (some ⟨b3, 0, none⟩) W3.length c3 (w64 W3), F]
    repeat' (first | refine sts ?_ | refine And.intro ?_ ?_ | (intro e; exfalso; omega) | (intro e; subst e) | intro _)
    refine tc_lp (ι := {i : Nat // i ≤ W0.length}) [18] (fun e i => (18, .int .i64 (i.1 : Nat)) :: e) (fun x => [obj q 159 [.int .i64 (w : Nat), .int .i64 0, .int .i64 (ad : Nat), .int .u64 (seed.toNat : Nat), .bool false, .slice (some ⟨b0, 0, none⟩) W0.length c0, .slice (some ⟨b1, 0, none⟩) W1.length c1, .slice (some ⟨b2, 0, none⟩) W2.length c2, .slice (some ⟨b3, 0, none⟩) W3.length c3], Vec 22 1 (some ⟨b0, 0, none⟩) W0.length c0 (w64 ((W0.take x.1).map halfW ++ W0.drop x.1)), Vec 22 1 (some ⟨b1, 0, none⟩) W1.length c1 (w64 W1), Vec 22 1 (some ⟨b2, 0, none⟩) W2.length c2 (w64 W2), Vec 22 1 (some ⟨b3, 0, none⟩) W3.length c3 (w64 W3), F]) (fun i => W0.length - i.1) ⟨0, by omega⟩ ?_ (hl := by dsimp only; rw [List.take_zero, List.map_nil, List.nil_append, List.drop_zero]; exact en)
    rintro K2 ⟨i, hi⟩ hK2
    dsimp only at hi ⊢
    by_cases hc : i < W0.length
    · obtain ⟨e1, e2, e3⟩ := half_at hc
      repeat' (first | refine sts ?_ | refine And.intro ?_ ?_ | (intro e; exfalso; omega) | (intro e; subst e) | intro _)
      rw [e1, halfW_def, e2]
      exact again hK2 ⟨i + 1, by omega⟩ (by dsimp only; omega)
    · obtain rfl : i = W0.length := by omega
      rw [List.take_length, List.drop_length, List.append_nil]
      repeat' (first | refine sts ?_ | refine And.intro ?_ ?_ | (intro e; exfalso; omega) | (intro e; subst e) | intro _)
      exact again hK ⟨1, by omega⟩ (by dsimp only; omega) (he := by show Ent _ [obj q 159 [.int .i64 (w : Nat), .int .i64 0, .int .i64 (ad : Nat), .int .u64 (seed.toNat : Nat), .bool false, .slice (some ⟨b0, 0, none⟩) W0.length c0, .slice (some ⟨b1, 0, none⟩) W1.length c1, .slice (some ⟨b2, 0, none⟩) W2.length c2, .slice (some ⟨b3, 0, none⟩) W3.length c3], Vec 22 1 (some ⟨b0, 0, none⟩) W0.length c0 (w64 (W0.map halfW)), Vec 22 1 (some ⟨b1, 0, none⟩) W1.length c1 (w64 W1), Vec 22 1 (some ⟨b2, 0, none⟩) W2.length c2 (w64 W2), Vec 22 1 (some ⟨b3, 0, none⟩) W3.length c3 (w64 W3), F]; exact en)
  · show TC _ _ _ _ _ _ _ _ [obj q 159 [.int .i64 (w : Nat), .int .i64 0, .int .i64 (ad : Nat), .int .u64 (seed.toNat : Nat), .bool false, .slice (some ⟨b0, 0, none⟩) W0.length c0, .slice (some ⟨b1, 0, none⟩) W1.length c1, .slice (some ⟨b2, 0, none⟩) W2.length c2, .slice (some ⟨b3, 0, none⟩) W3.length c3], Vec 22 1 (some ⟨b0, 0, none⟩) W0.length c0 (w64 (W0.map halfW)), Vec 22 1 (some ⟨b1, 0, none⟩) W1.length c1 (w64 W1), Vec 22 1 (some ⟨b2, 0, none⟩) W2.length c2 (w64 W2), Vec 22 1 (some ⟨b3, 0, none⟩) W3.length c3 (w64 W3), F]
    repeat' (first | refine sts ?_ | refine And.intro ?_ ?_ | (intro e; exfalso; omega) | (intro e; subst e) | intro _)
    refine tc_lp (ι := {i : Nat // i ≤ W1.length}) [18] (fun e i => (18, .int .i64 (i.1 : Nat)) :: e) (fun x => [obj q 159 [.int .i64 (w : Nat), .int .i64 0, .int .i64 (ad : Nat), .int .u64 (seed.toNat : Nat), .bool false, .slice (some ⟨b0, 0, none⟩) W0.length c0, .slice (some ⟨b1, 0, none⟩) W1.length c1, .slice (some ⟨b2, 0, none⟩) W2.length c2, .slice (some ⟨b3, 0, none⟩) W3.length c3], Vec 22 1 (some ⟨b0, 0, none⟩) W0.length c0 (w64 (W0.map halfW)), Vec 22 1 (some ⟨b1, 0, none⟩) W1.length c1 (w64 ((W1.take x.1).map halfW ++ W1.drop x.1)), Vec 22 1 (some ⟨b2, 0, none⟩) W2.length c2 (w64 W2), Vec 22 1 (some ⟨b3, 0, none⟩) W3.length c3 (w64 W3), F]) (fun i => W1.length - i.1) ⟨0, by omega⟩ ?_ (hl := by dsimp only; rw [List.take_zero, List.map_nil, List.nil_append, List.drop_zero]; exact en)
    rintro K2 ⟨i, hi⟩ hK2
    dsimp only at hi ⊢
    by_cases hc : i < W1.length
    · obtain ⟨e1, e2, e3⟩ := half_at hc
      repeat' (first | refine sts ?_ | refine And.intro ?_ ?_ | (intro e; exfalso; omega) | (intro e; subst e) | intro _)
      rw [e1, halfW_def, e2]
      exact again hK2 ⟨i + 1, by omega⟩ (by dsimp only; omega)
    · obtain rfl : i = W1.length := by omega
      rw [List.take_length, List.drop_length, List.append_nil]
      repeat' (first | refine sts ?_ | refine And.intro ?_ ?_ | (intro e; exfalso; omega) | (intro e; subst e) | intro _)
      exact again hK ⟨2, by omega⟩ (by dsimp only; omega) (he := by show Ent _ [obj q 159 [.int .i64 (w : Nat), .int .i64 0, .int .i64 (ad : Nat), .int .u64 (seed.toNat : Nat), .bool false, .slice (some ⟨b0, 0, none⟩) W0.length c0, .slice (some ⟨b1, 0, none⟩) W1.length c1, .slice (some ⟨b2, 0, none⟩) W2.length c2, .slice (some ⟨b3, 0, none⟩) W3.length c3], Vec 22 1 (some ⟨b0, 0, none⟩) W0.length c0 (w64 (W0.map halfW)), Vec 22 1 (some ⟨b1, 0, none⟩) W1.length c1 (w64 (W1.map halfW)), Vec 22 1 (some ⟨b2, 0, none⟩) W2.length c2 (w64 W2), Vec 22 1 (some ⟨b3, 0, none⟩) W3.length c3 (w64 W3), F]; exact en)
  · show TC _ _ _ _ _ _ _ _ [obj q 159 [.int .i64 (w : Nat), .int .i64 0, .int .i64 (ad : Nat), .int .u64 (seed.toNat : Nat), .bool false, .slice (some ⟨b0, 0, none⟩) W0.length c0, .slice (some ⟨b1, 0, none⟩) W1.length c1, .slice (some ⟨b2, 0, none⟩) W2.length c2, .slice (some ⟨b3, 0, none⟩) W3.length c3], Vec 22 1 (some ⟨b0, 0, none⟩) W0.length c0 (w64 (W0.map halfW)), Vec 22 1 (some ⟨b1, 0, none⟩) W1.length c1 (w64 (W1.map halfW)), Vec 22 1 (some ⟨b2, 0, none⟩) W2.length c2 (w64 W2), Vec 22 1 (some ⟨b3, 0, none⟩) W3.length c3 (w64 W3), F]
    repeat' (first | refine sts ?_ | refine And.intro ?_ ?_ | (intro e; exfalso; omega) | (intro e; subst e) | intro _)
    refine tc_lp (ι := {i : Nat // i ≤ W2.length}) [18] (fun e i => (18, .int .i64 (i.1 : Nat)) :: e) (fun x => [obj q 159 [.int .i64 (w : Nat), .int .i64 0, .int .i64 (ad : Nat), .int .u64 (seed.toNat : Nat), .bool false, .slice (some ⟨b0, 0, none⟩) W0.length c0, .slice (some ⟨b1, 0, none⟩) W1.length c1, .slice (some ⟨b2, 0, none⟩) W2.length c2, .slice (some ⟨b3, 0, none⟩) W3.length c3], Vec 22 1 (some ⟨b0, 0, none⟩) W0.length c0 (w64 (W0.map halfW)), Vec 22 1 (some ⟨b1, 0, none⟩) W1.length c1 (w64 (W1.map halfW)), Vec 22 1 (some ⟨b2, 0, none⟩) W2.length c2 (w64 ((W2.take x.1).map halfW ++ W2.drop x.1)), Vec 22 1 (some ⟨b3, 0, none⟩) W3.length c3 (w64 W3), F]) (fun i => W2.length - i.1) ⟨0, by omega⟩ ?_ (hl := by dsimp only; rw [List.take_zero, List.map_nil, List.nil_append, List.drop_zero]; exact en)
    rintro K2 ⟨i, hi⟩ hK2
    dsimp only at hi ⊢
    by_cases hc : i < W2.length
    · obtain ⟨e1, e2, e3⟩ := half_at hc
      repeat' (first | refine sts ?_ | refine And.intro ?_ ?_ | (intro e; exfalso; omega) | (intro e; subst e) | intro _)
      rw [e1, halfW_def, e2]
      exact again hK2 ⟨i + 1, by omega⟩ (by dsimp only; omega)
    · obtain rfl : i = W2.length := by omega
      rw [List.take_length, List.drop_length, List.append_nil]
      repeat' (first | refine sts ?_ | refine And.intro ?_ ?_ | (intro e; exfalso; omega) | (intro e; subst e) | intro _)
      exact again hK ⟨3, by omega⟩ (by dsimp only; omega) (he := by show Ent _ [obj q 159 [.int .i64 (w : Nat), .int .i64 0, .int .i64 (ad : Nat), .int .u64 (seed.toNat : Nat), .bool false, .slice (some ⟨b0, 0, none⟩) W0.length c0, .slice (some ⟨b1, 0, none⟩) W1.length c1, .slice (some ⟨b2, 0, none⟩) W2.length c2, .slice (some ⟨b3, 0, none⟩) W3.length c3], Vec 22 1 (some ⟨b0, 0, none⟩) W0.length c0 (w64 (W0.map halfW)), Vec 22 1 (some ⟨b1, 0, none⟩) W1.length c1 (w64 (W1.map halfW)), Vec 22 1 (some ⟨b2, 0, none⟩) W2.length c2 (w64 (W2.map halfW)), Vec 22 1 (some ⟨b3, 0, none⟩) W3.length c3 (w64 W3), F]; exact en)
  · show TC _ _ _ _ _ _ _ _ [obj q 159 [.int .i64 (w : Nat), .int .i64 0, .int .i64 (ad : Nat), .int .u64 (seed.toNat : Nat), .bool false, .slice (some ⟨b0, 0, none⟩) W0.length c0, .slice (some ⟨b1, 0, none⟩) W1.length c1, .slice (some ⟨b2, 0, none⟩) W2.length c2, .slice (some ⟨b3, 0, none⟩) W3.length c3], Vec 22 1 (some ⟨b0, 0, none⟩) W0.length c0 (w64 (W0.map halfW)), Vec 22 1 (some ⟨b1, 0, none⟩) W1.length c1 (w64 (W1.map halfW)), Vec 22 1 (some ⟨b2, 0, none⟩) W2.length c2 (w64 (W2.map halfW)), Vec 22 1 (some ⟨b3, 0, none⟩) W3.length c3 (w64 W3), F]
    repeat' (first | refine sts ?_ | refine And.intro ?_ ?_ | (intro e; exfalso; omega) | (intro e; subst e) | intro _)
    refine tc_lp (ι := {i : Nat // i ≤ W3.length}) [18] (fun e i => (18, .int .i64 (i.1 : Nat)) :: e) (fun x => [obj q 159 [.int .i64 (w : Nat), .int .i64 0, .int .i64 (ad : Nat), .int .u64 (seed.toNat : Nat), .bool false, .slice (some ⟨b0, 0, none⟩) W0.length c0, .slice (some ⟨b1, 0, none⟩) W1.length c1, .slice (some ⟨b2, 0, none⟩) W2.length c2, .slice (some ⟨b3, 0, none⟩) W3.length c3], Vec 22 1 (some ⟨b0, 0, none⟩) W0.length c0 (w64 (W0.map halfW)), Vec 22 1 (some ⟨b1, 0, none⟩) W1.length c1 (w64 (W1.map halfW)), Vec 22 1 (some ⟨b2, 0, none⟩) W2.length c2 (w64 (W2.map halfW)), Vec 22 1 (some ⟨b3, 0, none⟩) W3.length c3 (w64 ((W3.take x.1).map halfW ++ W3.drop x.1)), F]) (fun i => W3.length - i.1) ⟨0, by omega⟩ ?_ (hl := by dsimp only; rw [List.take_zero, List.map_nil, List.nil_append, List.drop_zero]; exact en)
    rintro K2 ⟨i, hi⟩ hK2
    dsimp only at hi ⊢
    by_cases hc : i < W3.length
    · obtain ⟨e1, e2, e3⟩ := half_at hc
      repeat' (first | refine sts ?_ | refine And.intro ?_ ?_ | (intro e; exfalso; omega) | (intro e; subst e) | intro _)
      rw [e1, halfW_def, e2]
      exact again hK2 ⟨i + 1, by omega⟩ (by dsimp only; omega)
    · obtain rfl : i = W3.length := by omega
      rw [List.take_length, List.drop_length, List.append_nil]
      repeat' (first | refine sts ?_ | refine And.intro ?_ ?_ | (intro e; exfalso; omega) | (intro e; subst e) | intro _)
      exact again hK ⟨4, by omega⟩ (by dsimp only; omega) (he := by show Ent _ [obj q 159 [.int .i64 (w : Nat), .int .i64 0, .int .i64 (ad : Nat), .int .u64 (seed.toNat : Nat), .bool false, .slice (some ⟨b0, 0, none⟩) W0.length c0, .slice (some ⟨b1, 0, none⟩) W1.length c1, .slice (some ⟨b2, 0, none⟩) W2.length c2, .slice (some ⟨b3, 0, none⟩) W3.length c3], Vec 22 1 (some ⟨b0, 0, none⟩) W0.length c0 (w64 (W0.map halfW)), Vec 22 1 (some ⟨b1, 0, none⟩) W1.length c1 (w64 (W1.map halfW)), Vec 22 1 (some ⟨b2, 0, none⟩) W2.length c2 (w64 (W2.map halfW)), Vec 22 1 (some ⟨b3, 0, none⟩) W3.length c3 (w64 (W3.map halfW)), F]; exact en)
  · obtain rfl : v = 0 := by omega
    show TC _ _ _ _ _ _ _ _ [obj q 159 [.int .i64 (w : Nat), .int .i64 0, .int .i64 (ad : Nat), .int .u64 (seed.toNat : Nat), .bool false, .slice (some ⟨b0, 0, none⟩) W0.length c0, .slice (some ⟨b1, 0, none⟩) W1.length c1, .slice (some ⟨b2, 0, none⟩) W2.length c2, .slice (some ⟨b3, 0, none⟩) W3.length c3], Vec 22 1 (some ⟨b0, 0, none⟩) W0.length c0 (w64 (W0.map halfW)), Vec 22 1 (some ⟨b1, 0, none⟩) W1.length c1 (w64 (W1.map halfW)), Vec 22 1 (some ⟨b2, 0, none⟩) W2.length c2 (w64 (W2.map halfW)), Vec 22 1 (some ⟨b3, 0, none⟩) W3.length c3 (w64 (W3.map halfW)), F]
    repeat' (first | refine sts ?_ | refine And.intro ?_ ?_ | (intro e; exfalso; omega) | (intro e; subst e) | intro _)

    exact rt1 () rfl (he := en2 (SketchAt.shutN (za := (ad : Int) / 2) (n0 := W0.length) (n1 := W1.length) (n2 := W2.length) (n3 := W3.length) ok2 (by omega) (by rw [List.length_map]) (by rw [List.length_map]) (by rw [List.length_map]) (by rw [List.length_map])))⟩
end Go.Proofs.YtdpiglociolagaaGreat

/- sketch, walked: a copy. -/
namespace Go.Proofs.YtdpiglociolagaaGreat
open Go.Lk Go.Sl Go.Ty
attribute [local irreducible] TK TL TC Th Bk Nx fnPost WA TQ OpQ OpN SpecH Rd Ent IterH RoundH Rb Rp fnPostM
attribute [local irreducible] Ty.sumB Ty.plS Ty.at64 Ty.cAdd Ty.halfW
structure Cp4 where
  d0 : Nat
  d1 : Nat
  d2 : Nat
  d3 : Nat
  e0 : Nat
  e1 : Nat
  e2 : Nat
  e3 : Nat
end Go.Proofs.YtdpiglociolagaaGreat

/- sketch, walked: a new one. -/
namespace Go.Ty
def ones1 (a : BitVec 64) : BitVec 64 := (a >>> 1 &&& 6148914691236517205#64) + (a &&& 6148914691236517205#64)
def ones2 (a : BitVec 64) : BitVec 64 := (a >>> 2 &&& 3689348814741910323#64) + (a &&& 3689348814741910323#64)
def ones3 (a : BitVec 64) : BitVec 64 := (a >>> 4 + a) &&& 1085102592571150095#64
def ones4 (a : BitVec 64) (k : Nat) : BitVec 64 := a + a >>> k
def onesB (a : BitVec 64) : BitVec 64 := ones4 (ones4 (ones4 (ones3 (ones2 (ones1 a))) 8) 16) 32
theorem ones_one : ∀ e, e ≤ 20 → (onesB (1#64 <<< e)).toNat % 128 = 1 := by decide +kernel
structure OneBit (a : BitVec 64) : Prop where
  out : ∃ e, e ≤ 20 ∧ a = 1#64 <<< e
theorem OneBit.of {w e : Nat} (h : w = 2 ^ e) (he : e ≤ 20) : OneBit (BitVec.ofNat 64 w) := ⟨e, he, by
  subst h
  apply BitVec.eq_of_toNat_eq
  rw [BitVec.toNat_ofNat, BitVec.toNat_shiftLeft, Nat.shiftLeft_eq, show (1#64).toNat = 1 from rfl, Nat.one_mul]⟩
end Go.Ty
namespace Go.Proofs.YtdpiglociolagaaGreat
open Go.Lk Go.Sl Go.Ty
attribute [local irreducible] TK TL TC Th Bk Nx fnPost WA TQ OpQ OpN SpecH Rd Ent IterH RoundH Rb Rp fnPostM
attribute [local irreducible] Ty.sumB Ty.plS Ty.at64 Ty.cAdd Ty.halfW
instance : BV 6148914691236517205 6148914691236517205#64 := ⟨rfl⟩
instance : BV 3689348814741910323 3689348814741910323#64 := ⟨rfl⟩
instance : BV 1085102592571150095 1085102592571150095#64 := ⟨rfl⟩
instance : MaskI 127 128 := ⟨rfl, 7, by decide, rfl⟩
instance ones64 : Known Tryz.prog 124 (∀ (x : Int) (a : BitVec 64) [BV x a], OneBit a → SpecH Tryz.prog 124 #[.int .u64 x] [] (fun _ : Unit => .int .i64 1) (fun _ => [])) := ⟨fun x a _ h => by
  obtain rfl : x = ((a.toNat : Nat) : Int) := BV.out
  have e1 : ((onesB a).toNat % 128 : Nat) = 1 := by
    obtain ⟨e, he, rfl⟩ := h.out
    exact ones_one e he
  refine spec_of Tryz.func124 rfl Tryz.ntmps124 rfl [(0, _)] rfl ?_; intro base F l0 hl0; (try simp only [List.cons_append] at hl0); (try simp only [List.nil_append] at hl0); subst hl0
  repeat' (first | refine sts ?_ | refine And.intro ?_ ?_ | (intro e; exfalso; omega) | (intro e; subst e) | intro _)
  exact rt1 () (congrArg (fun n : Nat => Value.int IntKind.i64 (n : Int)) e1)⟩
instance onesC : Known Tryz.prog 86 (∀ (x : Int) (a : BitVec 64) [BV x a], OneBit a → SpecH Tryz.prog 86 #[.int .u64 x] [] (fun _ : Unit => .int .i64 1) (fun _ => [])) := ⟨fun x a _ h => by
  obtain rfl : x = ((a.toNat : Nat) : Int) := BV.out
  refine spec_of Tryz.func86 rfl Tryz.ntmps86 rfl [(0, _)] rfl ?_; intro base F l0 hl0; (try simp only [List.cons_append] at hl0); (try simp only [List.nil_append] at hl0); subst hl0
  repeat' (first | refine sts ?_ | refine And.intro ?_ ?_ | (intro e; exfalso; omega) | (intro e; subst e) | intro _)
  exact rt1 () rfl⟩
instance hash_new : Known Tryz.prog 87 (∀ (x : Int), SpecH Tryz.prog 87 #[.int .u64 x, .bool false] [] (fun _ : Unit => .agg #[.int .u64 x, .bool false]) (fun _ => [])) := ⟨fun x => by
  refine spec_of Tryz.func87 rfl Tryz.ntmps87 rfl [(0, _), (1, _)] rfl ?_; intro base F l0 hl0; (try simp only [List.cons_append] at hl0); (try simp only [List.nil_append] at hl0); subst hl0
  repeat' (first | refine sts ?_ | refine And.intro ?_ ?_ | (intro e; exfalso; omega) | (intro e; subst e) | intro _)
  exact ra1 () rfl⟩
set_option maxHeartbeats 8000000 in
instance sk_new : Known Tryz.prog 41 (∀ (xw : Int) (w : Nat) [NatI xw w] (x : Int) (seed : BitVec 64) [BV x seed], (∃ e, 4 ≤ e ∧ e ≤ 16 ∧ w = 2 ^ e) → SpecH Tryz.prog 41 #[.int .i64 xw, .int .u64 x, .int .i64 0] [] (fun q : Nat => .tuple #[.pointer (some ⟨q, 0, none⟩), .int .i64 0]) (fun q => [SketchAt q seed w (List.replicate w 0) (List.replicate w 0) (List.replicate w 0) (List.replicate w 0) 0])) := ⟨fun xw w _ x seed _ hpw => by
  obtain rfl : xw = (w : Int) := NatI.out
  obtain rfl : x = ((seed.toNat : Nat) : Int) := BV.out
  obtain ⟨e, he⟩ := hpw
  obtain ⟨hw1, hw2, hw3⟩ := pow_le16 he
  have hob : OneBit (BitVec.ofNat 64 w) := OneBit.of he.2.2 (by omega)
  haveI : BV (w : Int) (BitVec.ofNat 64 w) := ⟨by rw [BitVec.toNat_ofNat, Nat.mod_eq_of_lt (by omega)]⟩
  have hz : Pk (List.replicate (w / 16) 0#64) (List.replicate w 0) := by
    have := Pk.zero (n := w / 16)
    rwa [show 16 * (w / 16) = w by omega] at this
  have ok : SkOk w (List.replicate w 0) (List.replicate w 0) (List.replicate w 0) (List.replicate w 0) (List.replicate (w / 16) 0#64) (List.replicate (w / 16) 0#64) (List.replicate (w / 16) 0#64) (List.replicate (w / 16) 0#64) := ⟨hz, hz, hz, hz, by simp, by simp, by simp, by simp, e, he⟩
  refine spec_of Tryz.func41 rfl Tryz.ntmps41 rfl [(0, _), (1, _), (2, _)] rfl ?_; intro base F l0 hl0; (try simp only [List.cons_append] at hl0); (try simp only [List.nil_append] at hl0); subst hl0
  repeat' (first | refine sts ?_ | refine And.intro ?_ ?_ | (intro e; exfalso; omega) | (intro e; subst e) | intro _)
  rename_i q
  refine tc_lp (ι := {v : Nat × Nat × Nat × Nat × Nat // v.1 ≤ 4}) [36] (fun e v => (36, .int .i64 (v.1.1 : Nat)) :: e) (fun v => match v.1.1, v.1.2 with
    | 0, (b0, b1, b2, b3) => [obj q 159 [.int .i64 (w : Nat), .int .i64 0, .int .i64 0, .int .u64 (seed.toNat : Nat), .bool false, .slice none 0 0, .slice none 0 0, .slice none 0 0, .slice none 0 0], F]
    | 1, (b0, b1, b2, b3) => [obj q 159 [.int .i64 (w : Nat), .int .i64 0, .int .i64 0, .int .u64 (seed.toNat : Nat), .bool false, .slice (some ⟨b0, 0, none⟩) (w / 16) (w / 16), .slice none 0 0, .slice none 0 0, .slice none 0 0], Vec 22 1 (some ⟨b0, 0, none⟩) (w / 16) (w / 16) (w64 (List.replicate (w / 16) 0#64)), F]
    | 2, (b0, b1, b2, b3) => [obj q 159 [.int .i64 (w : Nat), .int .i64 0, .int .i64 0, .int .u64 (seed.toNat : Nat), .bool false, .slice (some ⟨b0, 0, none⟩) (w / 16) (w / 16), .slice (some ⟨b1, 0, none⟩) (w / 16) (w / 16), .slice none 0 0, .slice none 0 0], Vec 22 1 (some ⟨b0, 0, none⟩) (w / 16) (w / 16) (w64 (List.replicate (w / 16) 0#64)), Vec 22 1 (some ⟨b1, 0, none⟩) (w / 16) (w / 16) (w64 (List.replicate (w / 16) 0#64)), F]
    | 3, (b0, b1, b2, b3) => [obj q 159 [.int .i64 (w : Nat), .int .i64 0, .int .i64 0, .int .u64 (seed.toNat : Nat), .bool false, .slice (some ⟨b0, 0, none⟩) (w / 16) (w / 16), .slice (some ⟨b1, 0, none⟩) (w / 16) (w / 16), .slice (some ⟨b2, 0, none⟩) (w / 16) (w / 16), .slice none 0 0], Vec 22 1 (some ⟨b0, 0, none⟩) (w / 16) (w / 16) (w64 (List.replicate (w / 16) 0#64)), Vec 22 1 (some ⟨b1, 0, none⟩) (w / 16) (w / 16) (w64 (List.replicate (w / 16) 0#64)), Vec 22 1 (some ⟨b2, 0, none⟩) (w / 16) (w / 16) (w64 (List.replicate (w / 16) 0#64)), F]
    | _ + 4, (b0, b1, b2, b3) => [obj q 159 [.int .i64 (w : Nat), .int .i64 0, .int .i64 0, .int .u64 (seed.toNat : Nat), .bool false, .slice (some ⟨b0, 0, none⟩) (w / 16) (w / 16), .slice (some ⟨b1, 0, none⟩) (w / 16) (w / 16), .slice (some ⟨b2, 0, none⟩) (w / 16) (w / 16), .slice (some ⟨b3, 0, none⟩) (w / 16) (w / 16)], Vec 22 1 (some ⟨b0, 0, none⟩) (w / 16) (w / 16) (w64 (List.replicate (w / 16) 0#64)), Vec 22 1 (some ⟨b1, 0, none⟩) (w / 16) (w / 16) (w64 (List.replicate (w / 16) 0#64)), Vec 22 1 (some ⟨b2, 0, none⟩) (w / 16) (w / 16) (w64 (List.replicate (w / 16) 0#64)), Vec 22 1 (some ⟨b3, 0, none⟩) (w / 16) (w / 16) (w64 (List.replicate (w / 16) 0#64)), F]
    ) (fun v => 4 - v.1.1) ⟨(0, 0, 0, 0, 0), by omega⟩ ?_
    (hl := by show Ent _ [obj q 159 [.int .i64 (w : Nat), .int .i64 0, .int .i64 0, .int .u64 (seed.toNat : Nat), .bool false, .slice none 0 0, .slice none 0 0, .slice none 0 0, .slice none 0 0], F]; exact en)
  rintro K ⟨⟨v, b0, b1, b2, b3⟩, hv4⟩ hK
  dsimp only at hv4 ⊢
  rcases v with _ | _ | _ | _ | v
  · show TC _ _ _ _ _ _ _ _ [obj q 159 [.int .i64 (w : Nat), .int .i64 0, .int .i64 0, .int .u64 (seed.toNat : Nat), .bool false, .slice none 0 0, .slice none 0 0, .slice none 0 0, .slice none 0 0], F]
    repeat' (first | ((fail_if_success (refine atD ?_)); refine sts ?_) | refine And.intro ?_ ?_ | (intro e; exfalso; omega) | (intro e; subst e) | intro _)
    refine drx [obj q 159 [.int .i64 (w : Nat), .int .i64 0, .int .i64 0, .int .u64 (seed.toNat : Nat), .bool false, .slice none 0 0, .slice none 0 0, .slice none 0 0, .slice none 0 0]] ?_
    refine tks [0, 1, 2, 3, 5, 6] 3 ?_; repeat' (first | refine sts ?_ | refine And.intro ?_ ?_ | (intro e; exfalso; omega) | (intro e; subst e) | intro _)
    refine hv 4 fun b0 => ?_
    refine tks [7] 1 ?_; repeat' (first | refine sts ?_ | refine And.intro ?_ ?_ | (intro e; exfalso; omega) | (intro e; subst e) | intro _)
    refine hv0 8 fun x8 => ?_
    rw [w64_zero]
    repeat' (first | refine sts ?_ | refine And.intro ?_ ?_ | (intro e; exfalso; omega) | (intro e; subst e) | intro _)
    exact again hK ⟨(1, b0, b1, b2, b3), by omega⟩ (by dsimp only; omega) (he := by show Ent _ [obj q 159 [.int .i64 (w : Nat), .int .i64 0, .int .i64 0, .int .u64 (seed.toNat : Nat), .bool false, .slice (some ⟨b0, 0, none⟩) (w / 16) (w / 16), .slice none 0 0, .slice none 0 0, .slice none 0 0], Vec 22 1 (some ⟨b0, 0, none⟩) (w / 16) (w / 16) (w64 (List.replicate (w / 16) 0#64)), F]; exact en)
  · show TC _ _ _ _ _ _ _ _ [obj q 159 [.int .i64 (w : Nat), .int .i64 0, .int .i64 0, .int .u64 (seed.toNat : Nat), .bool false, .slice (some ⟨b0, 0, none⟩) (w / 16) (w / 16), .slice none 0 0, .slice none 0 0, .slice none 0 0], Vec 22 1 (some ⟨b0, 0, none⟩) (w / 16) (w / 16) (w64 (List.replicate (w / 16) 0#64)), F]
    repeat' (first | ((fail_if_success (refine atD ?_)); refine sts ?_) | refine And.intro ?_ ?_ | (intro e; exfalso; omega) | (intro e; subst e) | intro _)
    refine drx [obj q 159 [.int .i64 (w : Nat), .int .i64 0, .int .i64 0, .int .u64 (seed.toNat : Nat), .bool false, .slice (some ⟨b0, 0, none⟩) (w / 16) (w / 16), .slice none 0 0, .slice none 0 0, .slice none 0 0]] ?_
    refine tks [0, 1, 2, 3, 5, 6] 3 ?_; repeat' (first | refine sts ?_ | refine And.intro ?_ ?_ | (intro e; exfalso; omega) | (intro e; subst e) | intro _)
    refine hv 4 fun b1 => ?_
    refine tks [7] 1 ?_; repeat' (first | refine sts ?_ | refine And.intro ?_ ?_ | (intro e; exfalso; omega) | (intro e; subst e) | intro _)
    refine hv0 8 fun x8 => ?_
    rw [w64_zero]
    repeat' (first | refine sts ?_ | refine And.intro ?_ ?_ | (intro e; exfalso; omega) | (intro e; subst e) | intro _)
    exact again hK ⟨(2, b0, b1, b2, b3), by omega⟩ (by dsimp only; omega) (he := by show Ent _ [obj q 159 [.int .i64 (w : Nat), .int .i64 0, .int .i64 0, .int .u64 (seed.toNat : Nat), .bool false, .slice (some ⟨b0, 0, none⟩) (w / 16) (w / 16), .slice (some ⟨b1, 0, none⟩) (w / 16) (w / 16), .slice none 0 0, .slice none 0 0], Vec 22 1 (some ⟨b0, 0, none⟩) (w / 16) (w / 16) (w64 (List.replicate (w / 16) 0#64)), Vec 22 1 (some ⟨b1, 0, none⟩) (w / 16) (w / 16) (w64 (List.replicate (w / 16) 0#64)), F]; exact en)
  · show TC _ _ _ _ _ _ _ _ [obj q 159 [.int .i64 (w : Nat), .int .i64 0, .int .i64 0, .int .u64 (seed.toNat : Nat), .bool false, .slice (some ⟨b0, 0, none⟩) (w / 16) (w / 16), .slice (some ⟨b1, 0, none⟩) (w / 16) (w / 16), .slice none 0 0, .slice none 0 0], Vec 22 1 (some ⟨b0, 0, none⟩) (w / 16) (w / 16) (w64 (List.replicate (w / 16) 0#64)), Vec 22 1 (some ⟨b1, 0, none⟩) (w / 16) (w / 16) (w64 (List.replicate (w / 16) 0#64)), F]
    repeat' (first | ((fail_if_success (refine atD ?_)); refine sts ?_) | refine And.intro ?_ ?_ | (intro e; exfalso; omega) | (intro e; subst e) | intro _)
    refine drx [obj q 159 [.int .i64 (w : Nat), .int .i64 0, .int .i64 0, .int .u64 (seed.toNat : Nat), .bool false, .slice (some ⟨b0, 0, none⟩) (w / 16) (w / 16), .slice (some ⟨b1, 0, none⟩) (w / 16) (w / 16), .slice none 0 0, .slice none 0 0]] ?_
    refine tks [0, 1, 2, 3, 5, 6] 3 ?_; repeat' (first | refine sts ?_ | refine And.intro ?_ ?_ | (intro e; exfalso; omega) | (intro e; subst e) | intro _)
    refine hv 4 fun b2 => ?_
    refine tks [7] 1 ?_; repeat' (first | refine sts ?_ | refine And.intro ?_ ?_ | (intro e; exfalso; omega) | (intro e; subst e) | intro _)
    refine hv0 8 fun x8 => ?_
    rw [w64_zero]
    repeat' (first | refine sts ?_ | refine And.intro ?_ ?_ | (intro e; exfalso; omega) | (intro e; subst e) | intro _)
    exact again hK ⟨(3, b0, b1, b2, b3), by omega⟩ (by dsimp only; omega) (he := by show Ent _ [obj q 159 [.int .i64 (w : Nat), .int .i64 0, .int .i64 0, .int .u64 (seed.toNat : Nat), .bool false, .slice (some ⟨b0, 0, none⟩) (w / 16) (w / 16), .slice (some ⟨b1, 0, none⟩) (w / 16) (w / 16), .slice (some ⟨b2, 0, none⟩) (w / 16) (w / 16), .slice none 0 0], Vec 22 1 (some ⟨b0, 0, none⟩) (w / 16) (w / 16) (w64 (List.replicate (w / 16) 0#64)), Vec 22 1 (some ⟨b1, 0, none⟩) (w / 16) (w / 16) (w64 (List.replicate (w / 16) 0#64)), Vec 22 1 (some ⟨b2, 0, none⟩) (w / 16) (w / 16) (w64 (List.replicate (w / 16) 0#64)), F]; exact en)
  · show TC _ _ _ _ _ _ _ _ [obj q 159 [.int .i64 (w : Nat), .int .i64 0, .int .i64 0, .int .u64 (seed.toNat : Nat), .bool false, .slice (some ⟨b0, 0, none⟩) (w / 16) (w / 16), .slice (some ⟨b1, 0, none⟩) (w / 16) (w / 16), .slice (some ⟨b2, 0, none⟩) (w / 16) (w / 16), .slice none 0 0], Vec 22 1 (some ⟨b0, 0, none⟩) (w / 16) (w / 16) (w64 (List.replicate (w / 16) 0#64)), Vec 22 1 (some ⟨b1, 0, none⟩) (w / 16) (w / 16) (w64 (List.replicate (w / 16) 0#64)), Vec 22 1 (some ⟨b2, 0, none⟩) (w / 16) (w / 16) (w64 (List.replicate (w / 16) 0#64)), F]
    repeat' (first | ((fail_if_success (refine atD ?_)); refine sts ?_) | refine And.intro ?_ ?_ | (intro e; exfalso; omega) | (intro e; subst e) | intro _)
    refine drx [obj q 159 [.int .i64 (w : Nat), .int .i64 0, .int .i64 0, .int .u64 (seed.toNat : Nat), .bool false, .slice (some ⟨b0, 0, none⟩) (w / 16) (w / 16), .slice (some ⟨b1, 0, none⟩) (w / 16) (w / 16), .slice (some ⟨b2, 0, none⟩) (w / 16) (w / 16), .slice none 0 0]] ?_
    refine tks [0, 1, 2, 3, 5, 6] 3 ?_; repeat' (first | refine sts ?_ | refine And.intro ?_ ?_ | (intro e; exfalso; omega) | (intro e; subst e) | intro _)
    refine hv 4 fun b3 => ?_
    refine tks [7] 1 ?_; repeat' (first | refine sts ?_ | refine And.intro ?_ ?_ | (intro e; exfalso; omega) | (intro e; subst e) | intro _)
    refine hv0 8 fun x8 => ?_
    rw [w64_zero]
    repeat' (first | refine sts ?_ | refine And.intro ?_ ?_ | (intro e; exfalso; omega) | (intro e; subst e) | intro _)
    exact again hK ⟨(4, b0, b1, b2, b3), by omega⟩ (by dsimp only; omega) (he := by show Ent _ [obj q 159 [.int .i64 (w : Nat), .int .i64 0, .int .i64 0, .int .u64 (seed.toNat : Nat), .bool false, .slice (some ⟨b0, 0, none⟩) (w / 16) (w / 16), .slice (some ⟨b1, 0, none⟩) (w / 16) (w / 16), .slice (some ⟨b2, 0, none⟩) (w / 16) (w / 16), .slice (some ⟨b3, 0, none⟩) (w / 16) (w / 16)], Vec 22 1 (some ⟨b0, 0, none⟩) (w / 16) (w / 16) (w64 (List.replicate (w / 16) 0#64)), Vec 22 1 (some ⟨b1, 0, none⟩) (w / 16) (w / 16) (w64 (List.replicate (w / 16) 0#64)), Vec 22 1 (some ⟨b2, 0, none⟩) (w / 16) (w / 16) (w64 (List.replicate (w / 16) 0#64)), Vec 22 1 (some ⟨b3, 0, none⟩) (w / 16) (w / 16) (w64 (List.replicate (w / 16) 0#64)), F]; exact en)
  · obtain rfl : v = 0 := by omega
    show TC _ _ _ _ _ _ _ _ [obj q 159 [.int .i64 (w : Nat), .int .i64 0, .int .i64 0, .int .u64 (seed.toNat : Nat), .bool false, .slice (some ⟨b0, 0, none⟩) (w / 16) (w / 16), .slice (some ⟨b1, 0, none⟩) (w / 16) (w / 16), .slice (some ⟨b2, 0, none⟩) (w / 16) (w / 16), .slice (some ⟨b3, 0, none⟩) (w / 16) (w / 16)], Vec 22 1 (some ⟨b0, 0, none⟩) (w / 16) (w / 16) (w64 (List.replicate (w / 16) 0#64)), Vec 22 1 (some ⟨b1, 0, none⟩) (w / 16) (w / 16) (w64 (List.replicate (w / 16) 0#64)), Vec 22 1 (some ⟨b2, 0, none⟩) (w / 16) (w / 16) (w64 (List.replicate (w / 16) 0#64)), Vec 22 1 (some ⟨b3, 0, none⟩) (w / 16) (w / 16) (w64 (List.replicate (w / 16) 0#64)), F]
    repeat' (first | refine sts ?_ | refine And.intro ?_ ?_ | (intro e; exfalso; omega) | (intro e; subst e) | intro _)
    exact rt2 q rfl (he := en2 (SketchAt.shutN (za := 0) (n0 := w / 16) (n1 := w / 16) (n2 := w / 16) (n3 := w / 16) ok rfl (by rw [List.length_replicate]) (by rw [List.length_replicate]) (by rw [List.length_replicate]) (by rw [List.length_replicate])))⟩
end Go.Proofs.YtdpiglociolagaaGreat

/- bloom, walked: places; bits asked for. -/
namespace Go.Ty
open Go.Lk Go.Sl Go.Proofs.YtdpiglociolagaaGreat
structure FlOk (B : List Bool) (W : List (BitVec 64)) (m : Nat) : Prop where
  k : Fb W B
  l : m = W.length
  pw : ∃ e, 6 ≤ e ∧ e ≤ 20 ∧ B.length = 2 ^ e
def FilterAt (f : Nat) (seed : BitVec 64) (B : List Bool) : HP := Exs (ι := List (BitVec 64) × Nat × Nat × Nat) fun x => [fact (FlOk B x.1 x.2.2.1), obj f 161 [.int .i64 3, .int .u64 (seed.toNat : Nat), .int .u64 (seed.toNat : Nat), .bool false, .slice (some ⟨x.2.1, 0, none⟩) x.2.2.1 x.2.2.2], Vec 22 1 (some ⟨x.2.1, 0, none⟩) x.2.2.1 x.2.2.2 (w64 x.1)]
section
variable {r0 : Option Nat} {P : Program} {base : World} {n : Nat} {ds : List Deferred} {X : Exit → Act → World → Prop} {env : Env} {l r : List HP} {KK : Act → World → Prop} {cd : Code} {all : Array Oper} {ro : List Oper} {f : Nat} {seed : BitVec 64} {B : List Bool}
theorem FilterAt.openK (h : ∀ (W : List (BitVec 64)) (b m c : Nat), FlOk B W m → TK base n ds KK env (obj f 161 [.int .i64 3, .int .u64 (seed.toNat : Nat), .int .u64 (seed.toNat : Nat), .bool false, .slice (some ⟨b, 0, none⟩) m c] :: Vec 22 1 (some ⟨b, 0, none⟩) m c (w64 W) :: r)) (hr : Rem l (FilterAt f seed B) r := by (repeat (first | (with_reducible exact Rem.here _ _) | (with_reducible apply Rem.there) | fail)); done) : TK base n ds KK env l := by
  unfold FilterAt at hr
  refine TK.exs hr fun ⟨W, b, m, c⟩ => ?_
  exact TK.fact fun h1 => h W b m c h1
theorem FilterAt.openC (h : ∀ (W : List (BitVec 64)) (b m c : Nat), FlOk B W m → TC r0 P base n ds cd X env (obj f 161 [.int .i64 3, .int .u64 (seed.toNat : Nat), .int .u64 (seed.toNat : Nat), .bool false, .slice (some ⟨b, 0, none⟩) m c] :: Vec 22 1 (some ⟨b, 0, none⟩) m c (w64 W) :: r)) (hr : Rem l (FilterAt f seed B) r := by (repeat (first | (with_reducible exact Rem.here _ _) | (with_reducible apply Rem.there) | fail)); done) : TC r0 P base n ds cd X env l := FilterAt.openK h hr
theorem FilterAt.openL (h : ∀ (W : List (BitVec 64)) (b m c : Nat), FlOk B W m → TL r0 P base n ds all ro X env (obj f 161 [.int .i64 3, .int .u64 (seed.toNat : Nat), .int .u64 (seed.toNat : Nat), .bool false, .slice (some ⟨b, 0, none⟩) m c] :: Vec 22 1 (some ⟨b, 0, none⟩) m c (w64 W) :: r)) (hr : Rem l (FilterAt f seed B) r := by (repeat (first | (with_reducible exact Rem.here _ _) | (with_reducible apply Rem.there) | fail)); done) : TL r0 P base n ds all ro X env l := FilterAt.openK h hr
theorem FilterAt.shut {W : List (BitVec 64)} {b m c : Nat} (h1 : FlOk B W m) : Ent (obj f 161 [.int .i64 3, .int .u64 (seed.toNat : Nat), .int .u64 (seed.toNat : Nat), .bool false, .slice (some ⟨b, 0, none⟩) m c] :: Vec 22 1 (some ⟨b, 0, none⟩) m c (w64 W) :: r) (FilterAt f seed B :: r) := by
  refine Ent.exs (W, b, m, c) ?_
  exact Ent.fact h1 (Ent.refl _)
end
theorem FlOk.facts {B : List Bool} {W : List (BitVec 64)} {m : Nat} (h : FlOk B W m) : B.length = 64 * m ∧ W.length = m ∧ 1 ≤ m ∧ m ≤ 16384 ∧ ∃ e, e ≤ 62 ∧ 64 * m = 2 ^ e := by
  obtain ⟨e, h1, h2, h3⟩ := h.pw
  have hl := h.k.len
  rw [← h.l] at hl
  have a : (2 : Nat) ^ 6 ≤ 2 ^ e := Nat.pow_le_pow_right (by decide) h1
  have b : (2 : Nat) ^ e ≤ 2 ^ 20 := Nat.pow_le_pow_right (by decide) h2
  have c6 : (2 : Nat) ^ 6 = 64 := rfl
  have c20 : (2 : Nat) ^ 20 = 1048576 := rfl
  exact ⟨hl, h.l.symm, by omega, by omega, e, by omega, by omega⟩
theorem at_succ {h : BitVec 64} {i : Nat} : bA h + BitVec.ofNat 64 i * bS h + bS h = bA h + BitVec.ofNat 64 (i + 1) * bS h := by
  rw [BitVec.ofNat_add, BitVec.add_mul, BitVec.one_mul, BitVec.add_assoc]
theorem at_zero {h : BitVec 64} : h &&& 4294967295#64 = bA h + BitVec.ofNat 64 0 * bS h := by
  rw [BitVec.zero_mul, BitVec.add_zero]; rfl
theorem plB_def {h : BitVec 64} {n i : Nat} : (bA h + BitVec.ofNat 64 i * bS h).toNat % n = plB h n i := rfl
theorem bS_def {h : BitVec 64} : h >>> 32 ||| 1#64 = bS h := rfl
end Go.Ty
namespace Go.Proofs.YtdpiglociolagaaGreat
open Go.Lk Go.Sl Go.Ty
attribute [local irreducible] TK TL TC Th Bk Nx fnPost WA TQ OpQ OpN SpecH Rd Ent IterH RoundH Rb Rp fnPostM
attribute [local irreducible] Ty.sumB Ty.plS Ty.at64 Ty.bA Ty.bS Ty.plB
instance fl_zero : Known Tryz.prog 98 (∀ (f : Nat) (seed : BitVec 64) (B : List Bool), SpecH Tryz.prog 98 #[.pointer (some ⟨f, 0, none⟩)] [FilterAt f seed B] (fun _ : Unit => .bool false) (fun _ => [FilterAt f seed B])) := ⟨fun f seed B => by
  refine spec_of Tryz.func98 rfl Tryz.ntmps98 rfl [(0, _)] rfl ?_; intro base F l0 hl0; (try simp only [List.cons_append] at hl0); (try simp only [List.nil_append] at hl0); subst hl0
  refine FilterAt.openC fun W b m c ok => ?_
  repeat' (first | refine sts ?_ | refine And.intro ?_ ?_ | (intro e; exfalso; omega) | (intro e; subst e) | intro _)
  exact rt1 () rfl (he := en2 (FilterAt.shut ok))⟩
set_option maxHeartbeats 4000000 in
theorem fl_each (f b m c k : Nat) (seed h : BitVec 64) (hh : sumB seed (txt k) = h) (fv : FuncId) (caps : Array Value) [CF Tryz.prog fv] (R : Nat → HP) (hm : 1 ≤ m ∧ m ≤ 16384) (hp : ∃ e, e ≤ 62 ∧ 64 * m = 2 ^ e)
    (hv : ∀ i, i < 3 → SpecH Tryz.prog fv (#[] ++ [Value.int .i64 (plB h (64 * m) i : Nat)].toArray ++ caps) [obj f 161 [.int .i64 3, .int .u64 (seed.toNat : Nat), .int .u64 (seed.toNat : Nat), .bool false, .slice (some ⟨b, 0, none⟩) m c], R i] (fun _ : Unit => .tuple #[]) (fun _ => [obj f 161 [.int .i64 3, .int .u64 (seed.toNat : Nat), .int .u64 (seed.toNat : Nat), .bool false, .slice (some ⟨b, 0, none⟩) m c], R (i + 1)])) : SpecH Tryz.prog 107 #[.pointer (some ⟨f, 0, none⟩), .string (txt k), .func (.func fv) #[] caps] [obj f 161 [.int .i64 3, .int .u64 (seed.toNat : Nat), .int .u64 (seed.toNat : Nat), .bool false, .slice (some ⟨b, 0, none⟩) m c], R 0] (fun _ : Unit => .tuple #[]) (fun _ => [obj f 161 [.int .i64 3, .int .u64 (seed.toNat : Nat), .int .u64 (seed.toNat : Nat), .bool false, .slice (some ⟨b, 0, none⟩) m c], R 3]) := by
  refine spec_of Tryz.func107 rfl Tryz.ntmps107 rfl [(0, _), (1, _), (2, _)] rfl ?_; intro base F l0 hl0; (try simp only [List.cons_append] at hl0); (try simp only [List.nil_append] at hl0); subst hl0
  have hts := txt_size (k := k)
  obtain ⟨e, he1, he2⟩ := hp
  haveI : MaskI ((m : Int) * 64 - 1) (64 * m) := ⟨by omega, e, he1, he2⟩
  haveI : Known Tryz.prog 134 (SpecH Tryz.prog 134 #[.agg #[.int .u64 (seed.toNat : Nat), .bool false], .string (txt k)] [] (fun _ : Unit => .int .u64 (h.toNat : Nat)) (fun _ => [])) := ⟨by
    have := ty_sum.out (seed.toNat : Nat) seed (txt k) (by omega)
    rwa [hh] at this⟩
  repeat' (first | refine sts ?_ | refine And.intro ?_ ?_ | (intro e; exfalso; omega) | (intro e; subst e) | intro _)
  rw [at_zero, bS_def]
  refine tc_lp (ι := {i : Nat // i ≤ 3}) [7, 24] (fun e i => (7, .int .u64 ((bA h + BitVec.ofNat 64 i.1 * bS h).toNat : Nat)) :: (24, .int .i64 (i.1 : Nat)) :: e) (fun i => [obj f 161 [.int .i64 3, .int .u64 (seed.toNat : Nat), .int .u64 (seed.toNat : Nat), .bool false, .slice (some ⟨b, 0, none⟩) m c], R i.1, F]) (fun i => 3 - i.1) ⟨0, by omega⟩ ?_
  rintro K ⟨i, hi⟩ hK
  dsimp only at hi ⊢
  by_cases hc : i < 3
  · repeat' (first | refine sts ?_ | refine And.intro ?_ ?_ | (intro e; exfalso; omega) | (intro e; subst e) | intro _)
    rw [plB_def]
    refine callV (hv i hc) ?_
    repeat' (first | refine sts ?_ | refine And.intro ?_ ?_ | (intro e; exfalso; omega) | (intro e; subst e) | intro _)
    rw [at_succ]
    exact again hK ⟨i + 1, by omega⟩
  · obtain rfl : i = 3 := by omega
    repeat' (first | refine sts ?_ | refine And.intro ?_ ?_ | (intro e; exfalso; omega) | (intro e; subst e) | intro _)
    exact re0 () rfl
end Go.Proofs.YtdpiglociolagaaGreat

/- bloom, walked: a key asked for, and put. -/
namespace Go.Ty
open Go.Lk Go.Sl Go.Proofs.YtdpiglociolagaaGreat
def HasR (f b m c x5 x2 : Nat) (W : List (BitVec 64)) (acc : Bool) : HP := Exs (ι := Unit) fun _ => [obj x5 4 [.bool acc], obj x2 72 [.pointer (some ⟨f, 0, none⟩)], Vec 22 1 (some ⟨b, 0, none⟩) m c (w64 W)]
def AddR (f b m c x2 : Nat) (W : List (BitVec 64)) : HP := Exs (ι := Unit) fun _ => [obj x2 72 [.pointer (some ⟨f, 0, none⟩)], Vec 22 1 (some ⟨b, 0, none⟩) m c (w64 W)]
section
variable {r0 : Option Nat} {P : Program} {base : World} {n : Nat} {ds : List Deferred} {X : Exit → Act → World → Prop} {env : Env} {l r : List HP} {KK : Act → World → Prop} {cd : Code} {f b m c x5 x2 : Nat} {W : List (BitVec 64)} {acc : Bool}
theorem HasR.openK (h : TK base n ds KK env (obj x5 4 [.bool acc] :: obj x2 72 [.pointer (some ⟨f, 0, none⟩)] :: Vec 22 1 (some ⟨b, 0, none⟩) m c (w64 W) :: r)) (hr : Rem l (HasR f b m c x5 x2 W acc) r := by (repeat (first | (with_reducible exact Rem.here _ _) | (with_reducible apply Rem.there) | fail)); done) : TK base n ds KK env l := by
  unfold HasR at hr
  exact TK.exs hr fun _ => h
theorem HasR.openC (h : TC r0 P base n ds cd X env (obj x5 4 [.bool acc] :: obj x2 72 [.pointer (some ⟨f, 0, none⟩)] :: Vec 22 1 (some ⟨b, 0, none⟩) m c (w64 W) :: r)) (hr : Rem l (HasR f b m c x5 x2 W acc) r := by (repeat (first | (with_reducible exact Rem.here _ _) | (with_reducible apply Rem.there) | fail)); done) : TC r0 P base n ds cd X env l := HasR.openK h hr
theorem HasR.openL {all : Array Oper} {ro : List Oper} (h : TL r0 P base n ds all ro X env (obj x5 4 [.bool acc] :: obj x2 72 [.pointer (some ⟨f, 0, none⟩)] :: Vec 22 1 (some ⟨b, 0, none⟩) m c (w64 W) :: r)) (hr : Rem l (HasR f b m c x5 x2 W acc) r := by (repeat (first | (with_reducible exact Rem.here _ _) | (with_reducible apply Rem.there) | fail)); done) : TL r0 P base n ds all ro X env l := HasR.openK h hr
theorem HasR.shut : Ent (obj x5 4 [.bool acc] :: obj x2 72 [.pointer (some ⟨f, 0, none⟩)] :: Vec 22 1 (some ⟨b, 0, none⟩) m c (w64 W) :: r) (HasR f b m c x5 x2 W acc :: r) := Ent.exs () (Ent.refl _)
theorem AddR.openK (h : TK base n ds KK env (obj x2 72 [.pointer (some ⟨f, 0, none⟩)] :: Vec 22 1 (some ⟨b, 0, none⟩) m c (w64 W) :: r)) (hr : Rem l (AddR f b m c x2 W) r := by (repeat (first | (with_reducible exact Rem.here _ _) | (with_reducible apply Rem.there) | fail)); done) : TK base n ds KK env l := by
  unfold AddR at hr
  exact TK.exs hr fun _ => h
theorem AddR.openC (h : TC r0 P base n ds cd X env (obj x2 72 [.pointer (some ⟨f, 0, none⟩)] :: Vec 22 1 (some ⟨b, 0, none⟩) m c (w64 W) :: r)) (hr : Rem l (AddR f b m c x2 W) r := by (repeat (first | (with_reducible exact Rem.here _ _) | (with_reducible apply Rem.there) | fail)); done) : TC r0 P base n ds cd X env l := AddR.openK h hr
theorem AddR.openL {all : Array Oper} {ro : List Oper} (h : TL r0 P base n ds all ro X env (obj x2 72 [.pointer (some ⟨f, 0, none⟩)] :: Vec 22 1 (some ⟨b, 0, none⟩) m c (w64 W) :: r)) (hr : Rem l (AddR f b m c x2 W) r := by (repeat (first | (with_reducible exact Rem.here _ _) | (with_reducible apply Rem.there) | fail)); done) : TL r0 P base n ds all ro X env l := AddR.openK h hr
theorem AddR.shut : Ent (obj x2 72 [.pointer (some ⟨f, 0, none⟩)] :: Vec 22 1 (some ⟨b, 0, none⟩) m c (w64 W) :: r) (AddR f b m c x2 W :: r) := Ent.exs () (Ent.refl _)
end
def hasN (B : List Bool) (h : BitVec 64) : Nat → Bool
  | 0 => true
  | i + 1 => hasN B h i && B.getD (plB h B.length i) false
def setN (B : List Bool) (h : BitVec 64) : Nat → List Bool
  | 0 => B
  | i + 1 => (setN B h i).set (plB h B.length i) true
def setW (W : List (BitVec 64)) (h : BitVec 64) (n : Nat) : Nat → List (BitVec 64)
  | 0 => W
  | i + 1 => (setW W h n i).set (plB h n i / 64) (at64 (setW W h n i) (plB h n i / 64) ||| 1#64 <<< (plB h n i % 64))
def hasB (B : List Bool) (h : BitVec 64) : Bool := hasN B h 3
def addB (B : List Bool) (h : BitVec 64) : List Bool := setN B h 3
theorem setN_len {B : List Bool} {h : BitVec 64} : ∀ i, (setN B h i).length = B.length
  | 0 => rfl
  | i + 1 => by show ((setN B h i).set _ _).length = _; rw [List.length_set, setN_len i]
theorem setW_len {W : List (BitVec 64)} {h : BitVec 64} {n : Nat} : ∀ i, (setW W h n i).length = W.length
  | 0 => rfl
  | i + 1 => by show ((setW W h n i).set _ _).length = _; rw [List.length_set, setW_len i]
theorem setW_ok {B : List Bool} {W : List (BitVec 64)} {h : BitVec 64} (k : Fb W B) (h0 : 0 < B.length) : ∀ i, Fb (setW W h B.length i) (setN B h i)
  | 0 => k
  | i + 1 => (setW_ok k h0 i).set (by rw [setN_len]; exact plB_lt h0)
end Go.Ty
namespace Go.Proofs.YtdpiglociolagaaGreat
open Go.Lk Go.Sl Go.Ty
attribute [local irreducible] TK TL TC Th Bk Nx fnPost WA TQ OpQ OpN SpecH Rd Ent IterH RoundH Rb Rp fnPostM
attribute [local irreducible] Ty.sumB Ty.plS Ty.at64 Ty.bA Ty.bS Ty.plB
set_option maxHeartbeats 4000000 in
theorem fl_has1 (f b m c x5 x2 p : Nat) (seed : BitVec 64) (W : List (BitVec 64)) (acc q : Bool) (hp : p < 64 * m) (hm : m ≤ 16384) (hW : W.length = m) (hb : (at64 W (p / 64)).getLsbD (p % 64) = q) : SpecH Tryz.prog 108 (#[] ++ [Value.int .i64 (p : Nat)].toArray ++ #[.pointer (some ⟨x5, 0, none⟩), .pointer (some ⟨x2, 0, none⟩)]) [obj f 161 [.int .i64 3, .int .u64 (seed.toNat : Nat), .int .u64 (seed.toNat : Nat), .bool false, .slice (some ⟨b, 0, none⟩) m c], HasR f b m c x5 x2 W acc] (fun _ : Unit => .tuple #[]) (fun _ => [obj f 161 [.int .i64 3, .int .u64 (seed.toNat : Nat), .int .u64 (seed.toNat : Nat), .bool false, .slice (some ⟨b, 0, none⟩) m c], HasR f b m c x5 x2 W (acc && q)]) := by
  refine spec_of Tryz.func108 rfl Tryz.ntmps108 rfl [(0, _), (1, _), (2, _)] rfl ?_; intro base F l0 hl0; (try simp only [List.cons_append] at hl0); (try simp only [List.nil_append] at hl0); subst hl0
  refine HasR.openC ?_
  have e := bit_ask (w := at64 W (p / 64)) (i := p % 64)
  rw [hb] at e
  have hj : p / 64 < W.length := by omega
  cases acc with
  | false =>
    repeat' (first | refine sts ?_ | refine And.intro ?_ ?_ | (intro e; exfalso; omega) | (intro e; subst e) | intro _)
    exact re0 () rfl (he := (en2 (HasR.shut (acc := false))).trans en)
  | true =>
    cases q with
    | false =>
      rw [if_neg (by decide)] at e
      have e1 : (((at64 W (p / 64) >>> (p % 64) &&& 1#64).toNat : Nat) : Int) = 0 := by omega
      repeat' (first | refine sts ?_ | refine And.intro ?_ ?_ | (intro e; exfalso; omega) | (intro e; subst e) | intro _)
      exact re0 () rfl (he := (en2 (HasR.shut (acc := false))).trans en)
    | true =>
      rw [if_pos rfl] at e
      have e1 : (((at64 W (p / 64) >>> (p % 64) &&& 1#64).toNat : Nat) : Int) = 1 := by omega
      repeat' (first | refine sts ?_ | refine And.intro ?_ ?_ | (intro e; exfalso; omega) | (intro e; subst e) | intro _)
      exact re0 () rfl (he := (en2 (HasR.shut (acc := true))).trans en)
set_option maxHeartbeats 4000000 in
theorem fl_add1 (f b m c x2 p : Nat) (seed : BitVec 64) (W : List (BitVec 64)) (hp : p < 64 * m) (hm : m ≤ 16384) (hW : W.length = m) : SpecH Tryz.prog 111 (#[] ++ [Value.int .i64 (p : Nat)].toArray ++ #[.pointer (some ⟨x2, 0, none⟩)]) [obj f 161 [.int .i64 3, .int .u64 (seed.toNat : Nat), .int .u64 (seed.toNat : Nat), .bool false, .slice (some ⟨b, 0, none⟩) m c], AddR f b m c x2 W] (fun _ : Unit => .tuple #[]) (fun _ => [obj f 161 [.int .i64 3, .int .u64 (seed.toNat : Nat), .int .u64 (seed.toNat : Nat), .bool false, .slice (some ⟨b, 0, none⟩) m c], AddR f b m c x2 (W.set (p / 64) (at64 W (p / 64) ||| 1#64 <<< (p % 64)))]) := by
  refine spec_of Tryz.func111 rfl Tryz.ntmps111 rfl [(0, _), (1, _)] rfl ?_; intro base F l0 hl0; (try simp only [List.cons_append] at hl0); (try simp only [List.nil_append] at hl0); subst hl0
  refine AddR.openC ?_
  have hj : p / 64 < W.length := by omega
  repeat' (first | ((fail_if_success (refine atD ?_)); refine sts ?_) | refine And.intro ?_ ?_ | (intro e; exfalso; omega) | (intro e; subst e) | intro _)
  refine drx [Vec 22 1 (some ⟨b, 0, none⟩) m c (w64 W)] ?_
  refine tks [0, 4, 8, 1, 5, 9, 2, 10, 3, 6] 4 ?_; repeat' (first | refine sts ?_ | refine And.intro ?_ ?_ | (intro e; exfalso; omega) | (intro e; subst e) | intro _)
  refine hvr 7 ?_
  refine tks [11, 12] 1 ?_; repeat' (first | refine sts ?_ | refine And.intro ?_ ?_ | (intro e; exfalso; omega) | (intro e; subst e) | intro _)
  refine hv0 13 fun x13 => ?_
  repeat' (first | refine sts ?_ | refine And.intro ?_ ?_ | (intro e; exfalso; omega) | (intro e; subst e) | intro _)
  exact re0 () rfl (he := (en2 AddR.shut).trans en)
set_option maxHeartbeats 4000000 in
instance fl_has : Known Tryz.prog 66 (∀ (f : Nat) (seed : BitVec 64) (B : List Bool) (k : Nat) (h : BitVec 64), sumB seed (txt k) = h → SpecH Tryz.prog 66 #[.pointer (some ⟨f, 0, none⟩), .string (txt k)] [FilterAt f seed B] (fun _ : Unit => .bool (hasB B h)) (fun _ => [FilterAt f seed B])) := ⟨fun f seed B k h hh => by
  refine spec_of Tryz.func66 rfl Tryz.ntmps66 rfl [(0, _), (1, _)] rfl ?_; intro base F l0 hl0; (try simp only [List.cons_append] at hl0); (try simp only [List.nil_append] at hl0); subst hl0
  repeat' (first | ((fail_if_success (refine atCall 107 ?_)); refine sts ?_) | refine And.intro ?_ ?_ | (intro e; exfalso; omega) | (intro e; subst e) | intro _)
  refine FilterAt.openL fun W b m c ok => ?_
  obtain ⟨hl, hW, hm1, hm2, hpw⟩ := ok.facts
  rename_i x2 x5
  have h0 : 0 < 64 * m := by omega
  refine TL.ent (en2 (HasR.shut (x5 := x5) (x2 := x2) (acc := true))) ?_
  show TL _ _ _ _ _ _ _ _ _ (HasR f b m c x5 x2 W (hasN B h 0) :: _)
  refine call (fl_each f b m c k seed h hh 108 #[.pointer (some ⟨x5, 0, none⟩), .pointer (some ⟨x2, 0, none⟩)] (fun i => HasR f b m c x5 x2 W (hasN B h i)) ⟨hm1, hm2⟩ hpw fun i _ => ?_) ?_
  · exact fl_has1 f b m c x5 x2 (plB h (64 * m) i) seed W _ _ (plB_lt h0) hm2 hW (by rw [ok.k.at_ _ (by rw [hl]; exact plB_lt h0), hl])
  · refine HasR.openL ?_
    repeat' (first | refine sts ?_ | refine And.intro ?_ ?_ | (intro e; exfalso; omega) | (intro e; subst e) | intro _)
    exact rt1 () rfl (he := (en2 (FilterAt.shut ok)).trans en)⟩
set_option maxHeartbeats 4000000 in
instance fl_add : Known Tryz.prog 68 (∀ (f : Nat) (seed : BitVec 64) (B : List Bool) (k : Nat) (h : BitVec 64), sumB seed (txt k) = h → SpecH Tryz.prog 68 #[.pointer (some ⟨f, 0, none⟩), .string (txt k)] [FilterAt f seed B] (fun _ : Unit => .tuple #[.bool !(hasB B h), .int .i64 0]) (fun _ => [FilterAt f seed (addB B h)])) := ⟨fun f seed B k h hh => by
  refine spec_of Tryz.func68 rfl Tryz.ntmps68 rfl [(0, _), (1, _)] rfl ?_; intro base F l0 hl0; (try simp only [List.cons_append] at hl0); (try simp only [List.nil_append] at hl0); subst hl0
  repeat' (first | ((fail_if_success (refine atCall 107 ?_)); refine sts ?_) | refine And.intro ?_ ?_ | (intro e; exfalso; omega) | (intro e; subst e) | intro _)
  refine FilterAt.openL fun W b m c ok => ?_
  obtain ⟨hl, hW, hm1, hm2, hpw⟩ := ok.facts
  rename_i x2
  have h0 : 0 < 64 * m := by omega
  have ok2 : FlOk (addB B h) (setW W h (64 * m) 3) m := ⟨by rw [← hl]; exact setW_ok ok.k (by omega) 3, by rw [setW_len, hW], by unfold addB; rw [setN_len]; exact ok.pw⟩
  refine TL.ent (en2 (AddR.shut (x2 := x2))) ?_
  show TL _ _ _ _ _ _ _ _ _ (AddR f b m c x2 (setW W h (64 * m) 0) :: _)
  refine call (fl_each f b m c k seed h hh 111 #[.pointer (some ⟨x2, 0, none⟩)] (fun i => AddR f b m c x2 (setW W h (64 * m) i)) ⟨hm1, hm2⟩ hpw fun i _ => ?_) ?_
  · exact fl_add1 f b m c x2 (plB h (64 * m) i) seed _ (plB_lt h0) hm2 (by rw [setW_len, hW])
  · refine AddR.openL ?_
    repeat' (first | refine sts ?_ | refine And.intro ?_ ?_ | (intro e; exfalso; omega) | (intro e; subst e) | intro _)

    exact rt2 () rfl (he := (en2 (FilterAt.shut ok2)).trans en)⟩
end Go.Proofs.YtdpiglociolagaaGreat

/- bloom, walked: cleared; a copy; a new one. -/
namespace Go.Proofs.YtdpiglociolagaaGreat
open Go.Lk Go.Sl Go.Ty
attribute [local irreducible] TK TL TC Th Bk Nx fnPost WA TQ OpQ OpN SpecH Rd Ent IterH RoundH Rb Rp fnPostM
attribute [local irreducible] Ty.sumB Ty.plS Ty.at64 Ty.bA Ty.bS Ty.plB
theorem fl_ok0 {B : List Bool} {W : List (BitVec 64)} {m : Nat} (ok : FlOk B W m) : FlOk (List.replicate B.length false) (List.replicate m 0#64) m := by
  obtain ⟨hl, _⟩ := ok.facts
  exact ⟨by rw [hl]; exact Fb.zero, by rw [List.length_replicate], by rw [List.length_replicate]; exact ok.pw⟩
instance fl_clear : Known Tryz.prog 70 (∀ (f : Nat) (seed : BitVec 64) (B : List Bool), SpecH Tryz.prog 70 #[.pointer (some ⟨f, 0, none⟩)] [FilterAt f seed B] (fun _ : Unit => .int .i64 0) (fun _ => [FilterAt f seed (List.replicate B.length false)])) := ⟨fun f seed B => by
  refine spec_of Tryz.func70 rfl Tryz.ntmps70 rfl [(0, _)] rfl ?_; intro base F l0 hl0; (try simp only [List.cons_append] at hl0); (try simp only [List.nil_append] at hl0); subst hl0
  repeat' (first | ((fail_if_success (refine atLoad 156 ?_)); refine sts ?_) | refine And.intro ?_ ?_ | (intro e; exfalso; omega) | (intro e; subst e) | intro _)
  refine FilterAt.openL fun W b m c ok => ?_
  have ok2 := fl_ok0 ok
  repeat' (first | refine sts ?_ | refine And.intro ?_ ?_ | (intro e; exfalso; omega) | (intro e; subst e) | intro _)
  refine tl_n0 (opn_clear (size := 1) (cs := w64 W) (by (first | exact want_none rfl | exact want_yes rfl rfl rfl rfl rfl | fail)) rfl (IsCells.one rfl) rfl (by (repeat (first | (with_reducible exact Rem.here _ _) | (with_reducible apply Rem.there) | fail)); done)) rfl fun _ => ?_
  rw [w64_zero]
  repeat' (first | refine sts ?_ | refine And.intro ?_ ?_ | (intro e; exfalso; omega) | (intro e; subst e) | intro _)
  exact rt1 () rfl (he := (en2 (FilterAt.shut ok2)).trans en)⟩
set_option maxHeartbeats 4000000 in
instance fl_new : Known Tryz.prog 43 (∀ (xn : Int) (n : Nat) [NatI xn n] (x : Int) (seed : BitVec 64) [BV x seed], (∃ e, 6 ≤ e ∧ e ≤ 20 ∧ n = 2 ^ e) → SpecH Tryz.prog 43 #[.int .i64 xn, .int .i64 3, .int .u64 x] [] (fun f : Nat => .tuple #[.pointer (some ⟨f, 0, none⟩), .int .i64 0]) (fun f => [FilterAt f seed (List.replicate n false)])) := ⟨fun xn n _ x seed _ hpw => by
  obtain rfl : xn = (n : Int) := NatI.out
  obtain rfl : x = ((seed.toNat : Nat) : Int) := BV.out
  have hf : n = 64 * (n / 64) ∧ 64 ≤ n ∧ n ≤ 1048576 := by
    obtain ⟨e, h1, h2, rfl⟩ := hpw
    have a : (2 : Nat) ^ 6 ≤ 2 ^ e := Nat.pow_le_pow_right (by decide) h1
    have b : (2 : Nat) ^ e ≤ 2 ^ 20 := Nat.pow_le_pow_right (by decide) h2
    obtain ⟨d, rfl⟩ : ∃ d, e = 6 + d := ⟨e - 6, by omega⟩
    rw [Nat.pow_add] at *
    have c6 : (2 : Nat) ^ 6 = 64 := rfl
    have c20 : (2 : Nat) ^ 20 = 1048576 := rfl
    omega
  obtain ⟨hn1, hn2, hn3⟩ := hf
  have hob : OneBit (BitVec.ofNat 64 n) := by obtain ⟨e, _, h2, h3⟩ := hpw; exact OneBit.of h3 h2
  haveI : BV (n : Int) (BitVec.ofNat 64 n) := ⟨by rw [BitVec.toNat_ofNat, Nat.mod_eq_of_lt (by omega)]⟩
  have ok : FlOk (List.replicate n false) (List.replicate (n / 64) 0#64) (n / 64) := ⟨by have := Fb.zero (n := n / 64); rwa [← hn1] at this, by rw [List.length_replicate], by rw [List.length_replicate]; exact hpw⟩
  refine spec_of Tryz.func43 rfl Tryz.ntmps43 rfl [(0, _), (1, _), (2, _)] rfl ?_; intro base F l0 hl0; (try simp only [List.cons_append] at hl0); (try simp only [List.nil_append] at hl0); subst hl0
  repeat' (first | ((fail_if_success (refine atD ?_)); refine sts ?_) | refine And.intro ?_ ?_ | (intro e; exfalso; omega) | (intro e; subst e) | intro _)
  refine drx [] ?_
  refine tks [0, 1, 2, 4, 5] 6 ?_; repeat' (first | refine sts ?_ | refine And.intro ?_ ?_ | (intro e; exfalso; omega) | (intro e; subst e) | intro _)
  refine hvB 3 6 (fun x3 => ?_) (fun x6 => ?_)
  · refine hv 6 fun x6 => ?_
    refine tks [7] 3 ?_; repeat' (first | refine sts ?_ | refine And.intro ?_ ?_ | (intro e; exfalso; omega) | (intro e; subst e) | intro _)
    refine hv 8 fun x8 => ?_
    refine tks [9, 10] 0 ?_; repeat' (first | refine sts ?_ | refine And.intro ?_ ?_ | (intro e; exfalso; omega) | (intro e; subst e) | intro _)
    rw [w64_zero]
    exact rt2 x8 rfl (he := (en2 (FilterAt.shut (f := x8) ok)).trans en)
  · refine hv 3 fun x3 => ?_
    refine tks [7] 3 ?_; repeat' (first | refine sts ?_ | refine And.intro ?_ ?_ | (intro e; exfalso; omega) | (intro e; subst e) | intro _)
    refine hv 8 fun x8 => ?_
    refine tks [9, 10] 0 ?_; repeat' (first | refine sts ?_ | refine And.intro ?_ ?_ | (intro e; exfalso; omega) | (intro e; subst e) | intro _)
    rw [w64_zero]
    exact rt2 x8 rfl (he := (en2 (FilterAt.shut (f := x8) ok)).trans en)⟩
end Go.Proofs.YtdpiglociolagaaGreat

/- What a cache remembers of requests, plainly. -/
namespace Go.Ty
open Go.Lk Go.Sl Go.Proofs.YtdpiglociolagaaGreat
structure Mem where
  c0 : List Nat
  c1 : List Nat
  c2 : List Nat
  c3 : List Nat
  b : List Bool
  req : Nat
def Mem.count (m : Mem) (w : Nat) (h : BitVec 64) : Nat := cnt4 m.c0 m.c1 m.c2 m.c3 w h
def Mem.guess (m : Mem) (w : Nat) (h : BitVec 64) : Nat := m.count w h + if hasB m.b h then 1 else 0
def Mem.mid (m : Mem) (w : Nat) (h : BitVec 64) : Mem := if hasB m.b h then ⟨cAdd m.c0 (plS h w 0), cAdd m.c1 (plS h w 1), cAdd m.c2 (plS h w 2), cAdd m.c3 (plS h w 3), m.b, m.req⟩ else ⟨m.c0, m.c1, m.c2, m.c3, addB m.b h, m.req⟩
def Mem.half (m : Mem) : Mem := ⟨m.c0.map (· / 2), m.c1.map (· / 2), m.c2.map (· / 2), m.c3.map (· / 2), List.replicate m.b.length false, 0⟩
def Mem.note (m : Mem) (mst w : Nat) (h : BitVec 64) : Mem := if (m.mid w h).req + 1 = mst then (m.mid w h).half else { m.mid w h with req := (m.mid w h).req + 1 }
def Mem.new (w n : Nat) : Mem := ⟨List.replicate w 0, List.replicate w 0, List.replicate w 0, List.replicate w 0, List.replicate n false, 0⟩
def MemX (sk fl : Nat) (seed : BitVec 64) (w : Nat) (m : Mem) : HP := Exs (ι := {ad : Nat // ad ≤ 10240 + m.req}) fun ad => [SketchAt sk seed w m.c0 m.c1 m.c2 m.c3 ad.1, FilterAt fl seed m.b]
section
variable {r0 : Option Nat} {P : Program} {base : World} {n : Nat} {ds : List Deferred} {X : Exit → Act → World → Prop} {env : Env} {l r : List HP} {KK : Act → World → Prop} {cd : Code} {all : Array Oper} {ro : List Oper} {sk fl w : Nat} {seed : BitVec 64} {m : Mem}
theorem MemX.openK (h : ∀ ad : Nat, ad ≤ 10240 + m.req → TK base n ds KK env (SketchAt sk seed w m.c0 m.c1 m.c2 m.c3 ad :: FilterAt fl seed m.b :: r)) (hr : Rem l (MemX sk fl seed w m) r := by (repeat (first | (with_reducible exact Rem.here _ _) | (with_reducible apply Rem.there) | fail)); done) : TK base n ds KK env l := by
  unfold MemX at hr
  exact TK.exs hr fun ⟨ad, had⟩ => h ad had
theorem MemX.openC (h : ∀ ad : Nat, ad ≤ 10240 + m.req → TC r0 P base n ds cd X env (SketchAt sk seed w m.c0 m.c1 m.c2 m.c3 ad :: FilterAt fl seed m.b :: r)) (hr : Rem l (MemX sk fl seed w m) r := by (repeat (first | (with_reducible exact Rem.here _ _) | (with_reducible apply Rem.there) | fail)); done) : TC r0 P base n ds cd X env l := MemX.openK h hr
theorem MemX.shut {c0 c1 c2 c3 : List Nat} {b : List Bool} {ad req : Nat} (had : ad ≤ 10240 + req) : Ent (SketchAt sk seed w c0 c1 c2 c3 ad :: FilterAt fl seed b :: r) (MemX sk fl seed w ⟨c0, c1, c2, c3, b, req⟩ :: r) := by
  unfold MemX
  exact Ent.exs (⟨ad, had⟩ : {ad : Nat // ad ≤ 10240 + req}) (Ent.refl _)
end
theorem mid_yes {m : Mem} {w : Nat} {h : BitVec 64} (e : hasB m.b h = true) : m.mid w h = ⟨cAdd m.c0 (plS h w 0), cAdd m.c1 (plS h w 1), cAdd m.c2 (plS h w 2), cAdd m.c3 (plS h w 3), m.b, m.req⟩ := if_pos e
theorem mid_no {m : Mem} {w : Nat} {h : BitVec 64} (e : hasB m.b h = false) : m.mid w h = ⟨m.c0, m.c1, m.c2, m.c3, addB m.b h, m.req⟩ := if_neg (by rw [e]; decide)
end Go.Ty

/- tiny, walked: its memory of requests. -/
namespace Go.Proofs.YtdpiglociolagaaGreat
open Go.Lk Go.Sl Go.Ty
attribute [local irreducible] TK TL TC Th Bk Nx fnPost WA TQ OpQ OpN SpecH Rd Ent IterH RoundH Rb Rp fnPostM
attribute [local irreducible] Ty.sumB Ty.plS Ty.at64 Ty.bA Ty.bS Ty.plB Ty.cAdd Ty.cnt4 Ty.hasB Ty.addB
set_option maxHeartbeats 4000000 in
instance tm_guess : Known Tryz.prog 37 (∀ (p sk fl w mst : Nat) (seed : BitVec 64) (m : Mem) (v0 v1 v2 v3 v4 v5 v6 : Value) (xk : Int) (k : Nat) [NatI xk k], k < 4294967296 → SpecH Tryz.prog 37 #[.pointer (some ⟨p, 7, none⟩), .int .u32 xk] [obj p 76 [v0, v1, v2, v3, v4, v5, v6, .pointer (some ⟨sk, 0, none⟩), .pointer (some ⟨fl, 0, none⟩), .int .i64 (m.req : Nat), .int .i64 (mst : Nat)], MemX sk fl seed w m] (fun _ : Unit => .int .i64 (m.guess w (sumB seed (txt k)) : Nat)) (fun _ => [obj p 76 [v0, v1, v2, v3, v4, v5, v6, .pointer (some ⟨sk, 0, none⟩), .pointer (some ⟨fl, 0, none⟩), .int .i64 (m.req : Nat), .int .i64 (mst : Nat)], MemX sk fl seed w m])) := ⟨fun p sk fl w mst seed m v0 v1 v2 v3 v4 v5 v6 xk k _ hk => by
  obtain rfl : xk = (k : Int) := NatI.out
  obtain ⟨c0, c1, c2, c3, b, req⟩ := m
  refine spec_of Tryz.func37 rfl Tryz.ntmps37 rfl [(0, _), (1, _)] rfl ?_; intro base F l0 hl0; (try simp only [List.cons_append] at hl0); (try simp only [List.nil_append] at hl0); subst hl0
  refine MemX.openC fun ad had => ?_
  dsimp only at had ⊢
  obtain ⟨h, hh⟩ : ∃ h, sumB seed (txt k) = h := ⟨_, rfl⟩
  refine SketchAt.factsC fun l0 l1 l2 l3 hpw hb => ?_
  have hcb : cnt4 c0 c1 c2 c3 w h ≤ 15 := by unfold cnt4; omega
  haveI : Known Tryz.prog 84 (SpecH Tryz.prog 84 #[.pointer (some ⟨sk, 0, none⟩), .string (txt k)] [SketchAt sk seed w c0 c1 c2 c3 ad] (fun _ : Unit => .int .i64 (cnt4 c0 c1 c2 c3 w h : Nat)) (fun _ => [SketchAt sk seed w c0 c1 c2 c3 ad])) := ⟨by have := sk_count.out sk seed w c0 c1 c2 c3 ad k; rwa [hh] at this⟩
  rw [hh]
  unfold Mem.guess Mem.count
  dsimp only
  cases hq : hasB b h with
  | true =>
    haveI : Known Tryz.prog 66 (SpecH Tryz.prog 66 #[.pointer (some ⟨fl, 0, none⟩), .string (txt k)] [FilterAt fl seed b] (fun _ : Unit => .bool true) (fun _ => [FilterAt fl seed b])) := ⟨by have := fl_has.out fl seed b k h hh; rwa [hq] at this⟩
    repeat' (first | refine sts ?_ | refine And.intro ?_ ?_ | (intro e; exfalso; omega) | (intro e; subst e) | intro _)
    exact rt1 () rfl (he := (en2 (MemX.shut had)).trans en)
  | false =>
    haveI : Known Tryz.prog 66 (SpecH Tryz.prog 66 #[.pointer (some ⟨fl, 0, none⟩), .string (txt k)] [FilterAt fl seed b] (fun _ : Unit => .bool false) (fun _ => [FilterAt fl seed b])) := ⟨by have := fl_has.out fl seed b k h hh; rwa [hq] at this⟩
    repeat' (first | refine sts ?_ | refine And.intro ?_ ?_ | (intro e; exfalso; omega) | (intro e; subst e) | intro _)
    exact rt1 () rfl (he := (en2 (MemX.shut had)).trans en)⟩
set_option maxHeartbeats 4000000 in
instance tm_note : Known Tryz.prog 29 (∀ (p sk fl w mst : Nat) (seed : BitVec 64) (m : Mem) (v0 v1 v2 v3 v4 v5 v6 : Value) (xk : Int) (k : Nat) [NatI xk k], k < 4294967296 → m.req < mst → mst ≤ 10240 → SpecH Tryz.prog 29 #[.pointer (some ⟨p, 7, none⟩), .int .u32 xk] [obj p 76 [v0, v1, v2, v3, v4, v5, v6, .pointer (some ⟨sk, 0, none⟩), .pointer (some ⟨fl, 0, none⟩), .int .i64 (m.req : Nat), .int .i64 (mst : Nat)], MemX sk fl seed w m] (fun _ : Unit => .tuple #[]) (fun _ => [obj p 76 [v0, v1, v2, v3, v4, v5, v6, .pointer (some ⟨sk, 0, none⟩), .pointer (some ⟨fl, 0, none⟩), .int .i64 ((m.note mst w (sumB seed (txt k))).req : Nat), .int .i64 (mst : Nat)], MemX sk fl seed w (m.note mst w (sumB seed (txt k)))])) := ⟨fun p sk fl w mst seed m v0 v1 v2 v3 v4 v5 v6 xk k _ hk hr hm => by
  obtain rfl : xk = (k : Int) := NatI.out
  obtain ⟨c0, c1, c2, c3, b, req⟩ := m
  refine spec_of Tryz.func29 rfl Tryz.ntmps29 rfl [(0, _), (1, _)] rfl ?_; intro base F l0 hl0; (try simp only [List.cons_append] at hl0); (try simp only [List.nil_append] at hl0); subst hl0
  refine MemX.openC fun ad had => ?_
  dsimp only at had hr ⊢
  obtain ⟨h, hh⟩ : ∃ h, sumB seed (txt k) = h := ⟨_, rfl⟩
  rw [hh]
  cases hq : hasB b h with
  | true =>
    haveI : Known Tryz.prog 66 (SpecH Tryz.prog 66 #[.pointer (some ⟨fl, 0, none⟩), .string (txt k)] [FilterAt fl seed b] (fun _ : Unit => .bool true) (fun _ => [FilterAt fl seed b])) := ⟨by have := fl_has.out fl seed b k h hh; rwa [hq] at this⟩
    have em := mid_yes (m := ⟨c0, c1, c2, c3, b, req⟩) (w := w) hq
    by_cases hc : req + 1 = mst
    · have en1 : (⟨c0, c1, c2, c3, b, req⟩ : Mem).note mst w h = (⟨(cAdd c0 (plS h w 0)).map (· / 2), (cAdd c1 (plS h w 1)).map (· / 2), (cAdd c2 (plS h w 2)).map (· / 2), (cAdd c3 (plS h w 3)).map (· / 2), List.replicate b.length false, 0⟩ : Mem) := by unfold Mem.note; rw [em, if_pos hc]; rfl
      rw [en1]
      dsimp only
      rw [Int.natCast_zero]
      repeat' (first | ((fail_if_success (refine atD ?_)); refine sts ?_) | refine And.intro ?_ ?_ | (intro e; exfalso; omega) | (intro e; subst e) | intro _)
      refine drx [] ?_
      refine tks [0, 4, 1, 5, 2, 6, 3, 7, 8] 0 ?_; repeat' (first | refine sts ?_ | refine And.intro ?_ ?_ | (intro e; exfalso; omega) | (intro e; subst e) | intro _)
      exact re0 () rfl (he := (en2 (MemX.shut (ad := (ad + 1) / 2) (req := 0) (by omega))).trans en)
    · have en1 : (⟨c0, c1, c2, c3, b, req⟩ : Mem).note mst w h = (⟨(cAdd c0 (plS h w 0)), (cAdd c1 (plS h w 1)), (cAdd c2 (plS h w 2)), (cAdd c3 (plS h w 3)), b, req + 1⟩ : Mem) := by unfold Mem.note; rw [em, if_neg hc]
      rw [en1]
      dsimp only
      rw [show ((req + 1 : Nat) : Int) = (req : Int) + 1 from rfl]
      repeat' (first | ((fail_if_success (refine atD ?_)); refine sts ?_) | refine And.intro ?_ ?_ | (intro e; exfalso; omega) | (intro e; subst e) | intro _)
      refine drx [] ?_
      refine tks [0, 4, 1, 5, 2, 6, 3, 7, 8] 0 ?_; repeat' (first | refine sts ?_ | refine And.intro ?_ ?_ | (intro e; exfalso; omega) | (intro e; subst e) | intro _)
      exact re0 () rfl (he := (en2 (MemX.shut (ad := ad + 1) (req := req + 1) (by omega))).trans en)
  | false =>
    haveI : Known Tryz.prog 66 (SpecH Tryz.prog 66 #[.pointer (some ⟨fl, 0, none⟩), .string (txt k)] [FilterAt fl seed b] (fun _ : Unit => .bool false) (fun _ => [FilterAt fl seed b])) := ⟨by have := fl_has.out fl seed b k h hh; rwa [hq] at this⟩
    have em := mid_no (m := ⟨c0, c1, c2, c3, b, req⟩) (w := w) hq
    by_cases hc : req + 1 = mst
    · have en1 : (⟨c0, c1, c2, c3, b, req⟩ : Mem).note mst w h = (⟨c0.map (· / 2), c1.map (· / 2), c2.map (· / 2), c3.map (· / 2), List.replicate (addB b h).length false, 0⟩ : Mem) := by unfold Mem.note; rw [em, if_pos hc]; rfl
      rw [en1]
      dsimp only
      rw [Int.natCast_zero]
      repeat' (first | ((fail_if_success (refine atD ?_)); refine sts ?_) | refine And.intro ?_ ?_ | (intro e; exfalso; omega) | (intro e; subst e) | intro _)
      refine drx [] ?_
      refine tks [0, 4, 1, 5, 2, 6, 3, 7, 8] 0 ?_; repeat' (first | refine sts ?_ | refine And.intro ?_ ?_ | (intro e; exfalso; omega) | (intro e; subst e) | intro _)
      exact re0 () rfl (he := (en2 (MemX.shut (ad := ad / 2) (req := 0) (by omega))).trans en)
    · have en1 : (⟨c0, c1, c2, c3, b, req⟩ : Mem).note mst w h = (⟨c0, c1, c2, c3, addB b h, req + 1⟩ : Mem) := by unfold Mem.note; rw [em, if_neg hc]
      rw [en1]
      dsimp only
      rw [show ((req + 1 : Nat) : Int) = (req : Int) + 1 from rfl]
      repeat' (first | ((fail_if_success (refine atD ?_)); refine sts ?_) | refine And.intro ?_ ?_ | (intro e; exfalso; omega) | (intro e; subst e) | intro _)
      refine drx [] ?_
      refine tks [0, 4, 1, 5, 2, 6, 3, 7, 8] 0 ?_; repeat' (first | refine sts ?_ | refine And.intro ?_ ?_ | (intro e; exfalso; omega) | (intro e; subst e) | intro _)
      exact re0 () rfl (he := (en2 (MemX.shut (ad := ad) (req := req + 1) (by omega))).trans en)⟩
end Go.Proofs.YtdpiglociolagaaGreat
