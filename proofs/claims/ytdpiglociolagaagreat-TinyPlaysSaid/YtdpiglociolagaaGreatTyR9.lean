/- The reference of tiny, walked: a new cache; keys that are dropped. -/
import Derived.Test.YtdpiglociolagaaGreatTyI
import Derived.Test.YtdpiglociolagaaGreatSlHt
namespace Go.Proofs.YtdpiglociolagaaGreat
open Go.Lk Go.Sl Go.Gh Go.Ty
attribute [local irreducible] TK TL TC Th Bk Nx fnPost WA TQ OpQ OpN SpecH Rd Ent IterH RoundH Rb Rp fnPostM
attribute [local irreducible] Ty.shS Ty.sumB Ty.plS Ty.at64 Ty.cAdd Ty.plB Ty.bA Ty.bS Ty.hasB Ty.addB
instance tyr_atLeast : Known Tryz.prog 48 (∀ (xn xo : Int) (n o : Nat) [NatI xn n] [NatI xo o], 1 ≤ n → n ≤ 1000000 → o ≤ 1000000 → SpecH Tryz.prog 48 #[.int .i64 xn, .int .i64 xo] [] (fun _ : Unit => .int .i64 (atL n o : Nat)) (fun _ => [])) := ⟨fun xn xo n o _ _ h1 h2 h3 => by
  obtain rfl : xn = (n : Int) := NatI.out
  obtain rfl : xo = (o : Int) := NatI.out
  refine spec_of Tryz.func48 rfl Tryz.ntmps48 rfl [(0, _), (1, _)] rfl ?_; intro base F l0 hl0; (try simp only [List.cons_append] at hl0); (try simp only [List.nil_append] at hl0); subst hl0
  repeat' (first | refine sts ?_ | refine And.intro ?_ ?_ | (intro e; exfalso; omega) | (intro e; subst e) | intro _)
  refine tc_lp (ι := {v : Nat // 1 ≤ v ∧ v ≤ 2000000 ∧ atL v o = atL n o}) [0] (fun e v => (0, .int .i64 (v.1 : Nat)) :: e) (fun _ => _) (fun v => o - v.1) ⟨n, h1, by omega, rfl⟩ ?_ (hl := Ent.refl _)
  rintro K ⟨v, v1, v2, v3⟩ hK
  dsimp only at v1 v2 v3 ⊢
  by_cases hc : v < o
  · rw [atL_yes ⟨v1, hc⟩] at v3
    repeat' (first | refine sts ?_ | refine And.intro ?_ ?_ | (intro e; exfalso; omega) | (intro e; subst e) | intro _)
    rw [show (v : Int) * 2 = ((2 * v : Nat) : Int) by omega]
    exact again hK ⟨2 * v, by omega, by omega, v3⟩
  · rw [atL_no hc] at v3
    subst v3
    repeat' (first | refine sts ?_ | refine And.intro ?_ ?_ | (intro e; exfalso; omega) | (intro e; subst e) | intro _)
    exact rt1 () rfl⟩
theorem tyr_new_bad (a b c sd : Int) (h : a < 2 ∨ 1024 < a ∨ b < 1 ∨ a ≤ b ∨ c < 0 ∨ 99 < c) : SpecH Tryz.prog 17 #[.int .i64 a, .int .i64 b, .int .i64 c, .int .u64 sd] [] (fun _ : Unit => .tuple #[.agg #[.int .i64 0, .int .i64 0, .int .i64 0, .int .i64 0, .slice none 0 0, .slice none 0 0, .slice none 0 0, .int .i64 0, .int .i64 0, .int .i64 0, .int .u64 0, .slice none 0 0, .slice none 0 0, .slice none 0 0, .slice none 0 0, .int .i64 0, .int .u64 0, .slice none 0 0, .int .i64 0, .int .u64 0, .slice none 0 0], .int .i64 2]) (fun _ => []) := by
  refine spec_of Tryz.func17 rfl Tryz.ntmps17 rfl [(0, _), (1, _), (2, _), (3, _)] rfl ?_; intro base F l0 hl0; (try simp only [List.cons_append] at hl0); (try simp only [List.nil_append] at hl0); subst hl0
  repeat' (first | refine sts ?_ | refine And.intro ?_ ?_ | (intro e; exfalso; omega) | (intro e; subst e) | intro _)
  all_goals exact ra2 () rfl
set_option maxHeartbeats 4000000 in
instance tyr_new : Known Tryz.prog 17 (∀ (xs : Int) (size : Nat) [NatI xs size] (xm : Int) (most : Nat) [NatI xm most] (xq : Int) (prot : Nat) [NatI xq prot] (x : Int) (seed : BitVec 64) [BV x seed], 2 ≤ size → size ≤ 1024 → 1 ≤ most → most < size → prot ≤ 99 → SpecH Tryz.prog 17 #[.int .i64 xs, .int .i64 xm, .int .i64 xq, .int .u64 x] [] (fun q : (Nat × Nat × Nat × Nat) × Nat => .tuple #[.agg #[.int .i64 (size : Nat), .int .i64 (most : Nat), .int .i64 (prot * (size - most) / 100 : Nat), .int .i64 0, .slice none 0 0, .slice none 0 0, .slice none 0 0, .int .i64 ((atL 16 size) : Nat), .int .i64 0, .int .i64 0, .int .u64 (seed.toNat : Nat), .slice (some ⟨q.1.1, 0, none⟩) (atL 16 size) (atL 16 size), .slice (some ⟨q.1.2.1, 0, none⟩) (atL 16 size) (atL 16 size), .slice (some ⟨q.1.2.2.1, 0, none⟩) (atL 16 size) (atL 16 size), .slice (some ⟨q.1.2.2.2, 0, none⟩) (atL 16 size) (atL 16 size), .int .i64 3, .int .u64 (seed.toNat : Nat), .slice (some ⟨q.2, 0, none⟩) (atL 64 (8 * size)) (atL 64 (8 * size)), .int .i64 3, .int .u64 (seed.toNat : Nat), .slice (some ⟨q.2, 0, none⟩) (atL 64 (8 * size)) (atL 64 (8 * size))], .int .i64 0]) (fun q => [RoS 1 (some ⟨q.1.1, 0, none⟩) (atL 16 size) (atL 16 size) (i64n (List.replicate (atL 16 size) 0)), RoS 1 (some ⟨q.1.2.1, 0, none⟩) (atL 16 size) (atL 16 size) (i64n (List.replicate (atL 16 size) 0)), RoS 1 (some ⟨q.1.2.2.1, 0, none⟩) (atL 16 size) (atL 16 size) (i64n (List.replicate (atL 16 size) 0)), RoS 1 (some ⟨q.1.2.2.2, 0, none⟩) (atL 16 size) (atL 16 size) (i64n (List.replicate (atL 16 size) 0)), RoS 1 (some ⟨q.2, 0, none⟩) (atL 64 (8 * size)) (atL 64 (8 * size)) (bls (List.replicate (atL 64 (8 * size)) false))])) := ⟨fun xs size _ xm most _ xq prot _ x seed _ h1 h2 h3 h4 h5 => by
  obtain rfl : xs = (size : Int) := NatI.out
  obtain rfl : xm = (most : Int) := NatI.out
  obtain rfl : xq = (prot : Int) := NatI.out
  obtain rfl : x = ((seed.toNat : Nat) : Int) := BV.out
  have hw := width_ok h2
  have hb : Bits (atL 64 (8 * size)) := ⟨bits_ok h2⟩
  have hX : prot * (size - most) ≤ 99 * 1024 := Nat.mul_le_mul h5 (by omega)
  have eX : IntKind.i64.wrap ((prot : Int) * ((size : Int) - (most : Int))) = ((prot * (size - most) : Nat) : Int) := by
    rw [show (prot : Int) * ((size : Int) - (most : Int)) = ((prot * (size - most) : Nat) : Int) by rw [Int.natCast_mul, Int.natCast_sub (by omega)], IntKind.wrap_i64]; omega
  generalize prot * (size - most) = Y at hX eX ⊢
  refine spec_of Tryz.func17 rfl Tryz.ntmps17 rfl [(0, _), (1, _), (2, _), (3, _)] rfl ?_; intro base F l0 hl0; (try simp only [List.cons_append] at hl0); (try simp only [List.nil_append] at hl0); subst hl0
  repeat' (first | refine sts ?_ | refine And.intro ?_ ?_ | (intro e; exfalso; omega) | (intro e; subst e) | intro _)
  rw [eX]
  repeat' (first | refine sts ?_ | refine And.intro ?_ ?_ | (intro e; exfalso; omega) | (intro e; subst e) | intro _)
  rename_i b7 xa xb b31 xq b34
  obtain ⟨x1, x2, x3⟩ := xb
  rw [show (Y : Int) / 100 = ((Y / 100 : Nat) : Int) from rfl]
  exact ra2 ((xa, x1, x2, x3), xq) rfl⟩
set_option maxHeartbeats 4000000 in
instance tyr_drop : Known Tryz.prog 53 (∀ (size most lim : Nat) (zr : Int) (aw aa ab : Option Addr) (nw na nb cw ca cb : Nat) (z7 z8 z9 z10 z15 z16 z18 z19 : Int) (a0 a1 a2 a3 fa ea : Option Addr) (n0 n1 n2 n3 k0 k1 k2 k3 fn fc en ec : Nat) (W A B : List Nat) (xk : Int) (k : Nat) [NatI xk k], nw = W.length → na = A.length → nb = B.length → nw ≤ 4096 → na ≤ 4096 → nb ≤ 4096 → W.Nodup → A.Nodup → B.Nodup → SpecH Tryz.prog 53 #[.agg #[.int .i64 (size : Nat), .int .i64 (most : Nat), .int .i64 (lim : Nat), .int .i64 zr, .slice aw nw cw, .slice aa na ca, .slice ab nb cb, .int .i64 z7, .int .i64 z8, .int .i64 z9, .int .u64 z10, .slice a0 n0 k0, .slice a1 n1 k1, .slice a2 n2 k2, .slice a3 n3 k3, .int .i64 z15, .int .u64 z16, .slice fa fn fc, .int .i64 z18, .int .u64 z19, .slice ea en ec], .int .u32 xk] [RoS 1 aw nw cw (u32s W), RoS 1 aa na ca (u32s A), RoS 1 ab nb cb (u32s B)] (fun q : S3 => .tuple #[.agg #[.int .i64 (size : Nat), .int .i64 (most : Nat), .int .i64 (lim : Nat), .int .i64 zr, .slice q.1.1 (W.erase k).length q.1.2, .slice q.2.1.1 (A.erase k).length q.2.1.2, .slice q.2.2.1 (B.erase k).length q.2.2.2, .int .i64 z7, .int .i64 z8, .int .i64 z9, .int .u64 z10, .slice a0 n0 k0, .slice a1 n1 k1, .slice a2 n2 k2, .slice a3 n3 k3, .int .i64 z15, .int .u64 z16, .slice fa fn fc, .int .i64 z18, .int .u64 z19, .slice ea en ec], .bool (decide (k ∈ W ∨ k ∈ A ∨ k ∈ B))]) (fun q => [RoS 1 q.1.1 (W.erase k).length q.1.2 (u32s (W.erase k)), RoS 1 q.2.1.1 (A.erase k).length q.2.1.2 (u32s (A.erase k)), RoS 1 q.2.2.1 (B.erase k).length q.2.2.2 (u32s (B.erase k))])) := ⟨fun size most lim zr aw aa ab nw na nb cw ca cb z7 z8 z9 z10 z15 z16 z18 z19 a0 a1 a2 a3 fa ea n0 n1 n2 n3 k0 k1 k2 k3 fn fc en ec W A B xk k _ h1 h2 h3 l1 l2 l3 d1 d2 d3 => by
  obtain rfl : xk = (k : Int) := NatI.out
  subst h1; subst h2; subst h3
  have hw1 : wo W k = W.erase k := filter_ne_erase d1
  have hw2 : wo A k = A.erase k := filter_ne_erase d2
  have hw3 : wo B k = B.erase k := filter_ne_erase d3
  rw [← hw1, ← hw2, ← hw3]
  refine spec_of Tryz.func53 rfl Tryz.ntmps53 rfl [(0, _), (1, _)] rfl ?_; intro base F l0 hl0; (try simp only [List.cons_append] at hl0); (try simp only [List.nil_append] at hl0); subst hl0
  repeat' (first | ((fail_if_success (refine atD ?_)); refine sts ?_) | refine And.intro ?_ ?_ | (intro e; exfalso; omega) | (intro e; subst e) | intro _)
  rename_i b2 b4
  refine drx [obj b2 36 _] ?_
  refine tks [0, 2, 4, 6, 8, 10] 12 ?_; repeat' (first | refine sts ?_ | refine And.intro ?_ ?_ | (intro e; exfalso; omega) | (intro e; subst e) | intro _)
  refine hvC 1 5 9 (fun _ => ?_) (fun _ => ?_) (fun _ => ?_)
  · refine hvC 3 5 9 (fun x3 => ?_) (fun _ => ?_) (fun _ => ?_)
    · refine hvB 5 9 (fun _ => ?_) (fun _ => ?_)
      · refine hvB 7 9 (fun x7 => ?_) (fun _ => ?_)
        · refine hvr 9 ?_
          refine tks [12] 6 ?_; (repeat' (first | refine sts ?_ | refine And.intro ?_ ?_ | (intro e; exfalso; omega) | (intro e; subst e) | intro _))
          refine hv 11 fun x11 => ?_
          refine hv0 13 fun _ => ?_; refine tks [14] 3 ?_; (repeat' (first | refine sts ?_ | refine And.intro ?_ ?_ | (intro e; exfalso; omega) | (intro e; subst e) | intro _)); refine hv0 15 fun _ => ?_; refine tks [16] 1 ?_; (repeat' (first | refine sts ?_ | refine And.intro ?_ ?_ | (intro e; exfalso; omega) | (intro e; subst e) | intro _)); refine hv0 17 fun _ => ?_; (repeat' (first | refine sts ?_ | refine And.intro ?_ ?_ | (intro e; exfalso; omega) | (intro e; subst e) | intro _)); exact ra2 ((x3.1, x3.2), (x7.1, x7.2), x11.1, x11.2) rfl
        · refine tks [12] 7 ?_; (repeat' (first | refine sts ?_ | refine And.intro ?_ ?_ | (intro e; exfalso; omega) | (intro e; subst e) | intro _))
          refine hv 7 fun x7 => ?_
          refine hv 11 fun x11 => ?_
          refine hv0 13 fun _ => ?_; refine tks [14] 3 ?_; (repeat' (first | refine sts ?_ | refine And.intro ?_ ?_ | (intro e; exfalso; omega) | (intro e; subst e) | intro _)); refine hv0 15 fun _ => ?_; refine tks [16] 1 ?_; (repeat' (first | refine sts ?_ | refine And.intro ?_ ?_ | (intro e; exfalso; omega) | (intro e; subst e) | intro _)); refine hv0 17 fun _ => ?_; (repeat' (first | refine sts ?_ | refine And.intro ?_ ?_ | (intro e; exfalso; omega) | (intro e; subst e) | intro _)); exact ra2 ((x3.1, x3.2), (x7.1, x7.2), x11.1, x11.2) rfl
      · refine hvr 5 ?_
        refine tks [12] 7 ?_; (repeat' (first | refine sts ?_ | refine And.intro ?_ ?_ | (intro e; exfalso; omega) | (intro e; subst e) | intro _))
        refine hv 7 fun x7 => ?_
        refine hv 11 fun x11 => ?_
        refine hv0 13 fun _ => ?_; refine tks [14] 3 ?_; (repeat' (first | refine sts ?_ | refine And.intro ?_ ?_ | (intro e; exfalso; omega) | (intro e; subst e) | intro _)); refine hv0 15 fun _ => ?_; refine tks [16] 1 ?_; (repeat' (first | refine sts ?_ | refine And.intro ?_ ?_ | (intro e; exfalso; omega) | (intro e; subst e) | intro _)); refine hv0 17 fun _ => ?_; (repeat' (first | refine sts ?_ | refine And.intro ?_ ?_ | (intro e; exfalso; omega) | (intro e; subst e) | intro _)); exact ra2 ((x3.1, x3.2), (x7.1, x7.2), x11.1, x11.2) rfl
    · refine hvB 3 9 (fun x3 => ?_) (fun _ => ?_)
      · refine hvB 7 9 (fun x7 => ?_) (fun _ => ?_)
        · refine hvr 9 ?_
          refine tks [12] 6 ?_; (repeat' (first | refine sts ?_ | refine And.intro ?_ ?_ | (intro e; exfalso; omega) | (intro e; subst e) | intro _))
          refine hv 11 fun x11 => ?_
          refine hv0 13 fun _ => ?_; refine tks [14] 3 ?_; (repeat' (first | refine sts ?_ | refine And.intro ?_ ?_ | (intro e; exfalso; omega) | (intro e; subst e) | intro _)); refine hv0 15 fun _ => ?_; refine tks [16] 1 ?_; (repeat' (first | refine sts ?_ | refine And.intro ?_ ?_ | (intro e; exfalso; omega) | (intro e; subst e) | intro _)); refine hv0 17 fun _ => ?_; (repeat' (first | refine sts ?_ | refine And.intro ?_ ?_ | (intro e; exfalso; omega) | (intro e; subst e) | intro _)); exact ra2 ((x3.1, x3.2), (x7.1, x7.2), x11.1, x11.2) rfl
        · refine tks [12] 7 ?_; (repeat' (first | refine sts ?_ | refine And.intro ?_ ?_ | (intro e; exfalso; omega) | (intro e; subst e) | intro _))
          refine hv 7 fun x7 => ?_
          refine hv 11 fun x11 => ?_
          refine hv0 13 fun _ => ?_; refine tks [14] 3 ?_; (repeat' (first | refine sts ?_ | refine And.intro ?_ ?_ | (intro e; exfalso; omega) | (intro e; subst e) | intro _)); refine hv0 15 fun _ => ?_; refine tks [16] 1 ?_; (repeat' (first | refine sts ?_ | refine And.intro ?_ ?_ | (intro e; exfalso; omega) | (intro e; subst e) | intro _)); refine hv0 17 fun _ => ?_; (repeat' (first | refine sts ?_ | refine And.intro ?_ ?_ | (intro e; exfalso; omega) | (intro e; subst e) | intro _)); exact ra2 ((x3.1, x3.2), (x7.1, x7.2), x11.1, x11.2) rfl
      · refine hv 3 fun x3 => ?_
        refine tks [12] 7 ?_; (repeat' (first | refine sts ?_ | refine And.intro ?_ ?_ | (intro e; exfalso; omega) | (intro e; subst e) | intro _))
        refine hv 7 fun x7 => ?_
        refine hv 11 fun x11 => ?_
        refine hv0 13 fun _ => ?_; refine tks [14] 3 ?_; (repeat' (first | refine sts ?_ | refine And.intro ?_ ?_ | (intro e; exfalso; omega) | (intro e; subst e) | intro _)); refine hv0 15 fun _ => ?_; refine tks [16] 1 ?_; (repeat' (first | refine sts ?_ | refine And.intro ?_ ?_ | (intro e; exfalso; omega) | (intro e; subst e) | intro _)); refine hv0 17 fun _ => ?_; (repeat' (first | refine sts ?_ | refine And.intro ?_ ?_ | (intro e; exfalso; omega) | (intro e; subst e) | intro _)); exact ra2 ((x3.1, x3.2), (x7.1, x7.2), x11.1, x11.2) rfl
    · refine hvB 3 5 (fun x3 => ?_) (fun _ => ?_)
      · refine hvr 5 ?_
        refine tks [12] 7 ?_; (repeat' (first | refine sts ?_ | refine And.intro ?_ ?_ | (intro e; exfalso; omega) | (intro e; subst e) | intro _))
        refine hv 7 fun x7 => ?_
        refine hv 11 fun x11 => ?_
        refine hv0 13 fun _ => ?_; refine tks [14] 3 ?_; (repeat' (first | refine sts ?_ | refine And.intro ?_ ?_ | (intro e; exfalso; omega) | (intro e; subst e) | intro _)); refine hv0 15 fun _ => ?_; refine tks [16] 1 ?_; (repeat' (first | refine sts ?_ | refine And.intro ?_ ?_ | (intro e; exfalso; omega) | (intro e; subst e) | intro _)); refine hv0 17 fun _ => ?_; (repeat' (first | refine sts ?_ | refine And.intro ?_ ?_ | (intro e; exfalso; omega) | (intro e; subst e) | intro _)); exact ra2 ((x3.1, x3.2), (x7.1, x7.2), x11.1, x11.2) rfl
      · refine hv 3 fun x3 => ?_
        refine tks [12] 7 ?_; (repeat' (first | refine sts ?_ | refine And.intro ?_ ?_ | (intro e; exfalso; omega) | (intro e; subst e) | intro _))
        refine hv 7 fun x7 => ?_
        refine hv 11 fun x11 => ?_
        refine hv0 13 fun _ => ?_; refine tks [14] 3 ?_; (repeat' (first | refine sts ?_ | refine And.intro ?_ ?_ | (intro e; exfalso; omega) | (intro e; subst e) | intro _)); refine hv0 15 fun _ => ?_; refine tks [16] 1 ?_; (repeat' (first | refine sts ?_ | refine And.intro ?_ ?_ | (intro e; exfalso; omega) | (intro e; subst e) | intro _)); refine hv0 17 fun _ => ?_; (repeat' (first | refine sts ?_ | refine And.intro ?_ ?_ | (intro e; exfalso; omega) | (intro e; subst e) | intro _)); exact ra2 ((x3.1, x3.2), (x7.1, x7.2), x11.1, x11.2) rfl
  · refine hvB 1 9 (fun _ => ?_) (fun _ => ?_)
    · refine hvB 3 9 (fun x3 => ?_) (fun _ => ?_)
      · refine hvB 7 9 (fun x7 => ?_) (fun _ => ?_)
        · refine hvr 9 ?_
          refine tks [12] 6 ?_; (repeat' (first | refine sts ?_ | refine And.intro ?_ ?_ | (intro e; exfalso; omega) | (intro e; subst e) | intro _))
          refine hv 11 fun x11 => ?_
          refine hv0 13 fun _ => ?_; refine tks [14] 3 ?_; (repeat' (first | refine sts ?_ | refine And.intro ?_ ?_ | (intro e; exfalso; omega) | (intro e; subst e) | intro _)); refine hv0 15 fun _ => ?_; refine tks [16] 1 ?_; (repeat' (first | refine sts ?_ | refine And.intro ?_ ?_ | (intro e; exfalso; omega) | (intro e; subst e) | intro _)); refine hv0 17 fun _ => ?_; (repeat' (first | refine sts ?_ | refine And.intro ?_ ?_ | (intro e; exfalso; omega) | (intro e; subst e) | intro _)); exact ra2 ((x3.1, x3.2), (x7.1, x7.2), x11.1, x11.2) rfl
        · refine tks [12] 7 ?_; (repeat' (first | refine sts ?_ | refine And.intro ?_ ?_ | (intro e; exfalso; omega) | (intro e; subst e) | intro _))
          refine hv 7 fun x7 => ?_
          refine hv 11 fun x11 => ?_
          refine hv0 13 fun _ => ?_; refine tks [14] 3 ?_; (repeat' (first | refine sts ?_ | refine And.intro ?_ ?_ | (intro e; exfalso; omega) | (intro e; subst e) | intro _)); refine hv0 15 fun _ => ?_; refine tks [16] 1 ?_; (repeat' (first | refine sts ?_ | refine And.intro ?_ ?_ | (intro e; exfalso; omega) | (intro e; subst e) | intro _)); refine hv0 17 fun _ => ?_; (repeat' (first | refine sts ?_ | refine And.intro ?_ ?_ | (intro e; exfalso; omega) | (intro e; subst e) | intro _)); exact ra2 ((x3.1, x3.2), (x7.1, x7.2), x11.1, x11.2) rfl
      · refine hv 3 fun x3 => ?_
        refine tks [12] 7 ?_; (repeat' (first | refine sts ?_ | refine And.intro ?_ ?_ | (intro e; exfalso; omega) | (intro e; subst e) | intro _))
        refine hv 7 fun x7 => ?_
        refine hv 11 fun x11 => ?_
        refine hv0 13 fun _ => ?_; refine tks [14] 3 ?_; (repeat' (first | refine sts ?_ | refine And.intro ?_ ?_ | (intro e; exfalso; omega) | (intro e; subst e) | intro _)); refine hv0 15 fun _ => ?_; refine tks [16] 1 ?_; (repeat' (first | refine sts ?_ | refine And.intro ?_ ?_ | (intro e; exfalso; omega) | (intro e; subst e) | intro _)); refine hv0 17 fun _ => ?_; (repeat' (first | refine sts ?_ | refine And.intro ?_ ?_ | (intro e; exfalso; omega) | (intro e; subst e) | intro _)); exact ra2 ((x3.1, x3.2), (x7.1, x7.2), x11.1, x11.2) rfl
    · refine hvr 1 ?_
      refine hv 3 fun x3 => ?_
      refine tks [12] 7 ?_; (repeat' (first | refine sts ?_ | refine And.intro ?_ ?_ | (intro e; exfalso; omega) | (intro e; subst e) | intro _))
      refine hv 7 fun x7 => ?_
      refine hv 11 fun x11 => ?_
      refine hv0 13 fun _ => ?_; refine tks [14] 3 ?_; (repeat' (first | refine sts ?_ | refine And.intro ?_ ?_ | (intro e; exfalso; omega) | (intro e; subst e) | intro _)); refine hv0 15 fun _ => ?_; refine tks [16] 1 ?_; (repeat' (first | refine sts ?_ | refine And.intro ?_ ?_ | (intro e; exfalso; omega) | (intro e; subst e) | intro _)); refine hv0 17 fun _ => ?_; (repeat' (first | refine sts ?_ | refine And.intro ?_ ?_ | (intro e; exfalso; omega) | (intro e; subst e) | intro _)); exact ra2 ((x3.1, x3.2), (x7.1, x7.2), x11.1, x11.2) rfl
  · refine hvB 1 5 (fun _ => ?_) (fun _ => ?_)
    · refine hvB 3 5 (fun x3 => ?_) (fun _ => ?_)
      · refine hvr 5 ?_
        refine tks [12] 7 ?_; (repeat' (first | refine sts ?_ | refine And.intro ?_ ?_ | (intro e; exfalso; omega) | (intro e; subst e) | intro _))
        refine hv 7 fun x7 => ?_
        refine hv 11 fun x11 => ?_
        refine hv0 13 fun _ => ?_; refine tks [14] 3 ?_; (repeat' (first | refine sts ?_ | refine And.intro ?_ ?_ | (intro e; exfalso; omega) | (intro e; subst e) | intro _)); refine hv0 15 fun _ => ?_; refine tks [16] 1 ?_; (repeat' (first | refine sts ?_ | refine And.intro ?_ ?_ | (intro e; exfalso; omega) | (intro e; subst e) | intro _)); refine hv0 17 fun _ => ?_; (repeat' (first | refine sts ?_ | refine And.intro ?_ ?_ | (intro e; exfalso; omega) | (intro e; subst e) | intro _)); exact ra2 ((x3.1, x3.2), (x7.1, x7.2), x11.1, x11.2) rfl
      · refine hv 3 fun x3 => ?_
        refine tks [12] 7 ?_; (repeat' (first | refine sts ?_ | refine And.intro ?_ ?_ | (intro e; exfalso; omega) | (intro e; subst e) | intro _))
        refine hv 7 fun x7 => ?_
        refine hv 11 fun x11 => ?_
        refine hv0 13 fun _ => ?_; refine tks [14] 3 ?_; (repeat' (first | refine sts ?_ | refine And.intro ?_ ?_ | (intro e; exfalso; omega) | (intro e; subst e) | intro _)); refine hv0 15 fun _ => ?_; refine tks [16] 1 ?_; (repeat' (first | refine sts ?_ | refine And.intro ?_ ?_ | (intro e; exfalso; omega) | (intro e; subst e) | intro _)); refine hv0 17 fun _ => ?_; (repeat' (first | refine sts ?_ | refine And.intro ?_ ?_ | (intro e; exfalso; omega) | (intro e; subst e) | intro _)); exact ra2 ((x3.1, x3.2), (x7.1, x7.2), x11.1, x11.2) rfl
    · refine hvr 1 ?_
      refine hv 3 fun x3 => ?_
      refine tks [12] 7 ?_; (repeat' (first | refine sts ?_ | refine And.intro ?_ ?_ | (intro e; exfalso; omega) | (intro e; subst e) | intro _))
      refine hv 7 fun x7 => ?_
      refine hv 11 fun x11 => ?_
      refine hv0 13 fun _ => ?_; refine tks [14] 3 ?_; (repeat' (first | refine sts ?_ | refine And.intro ?_ ?_ | (intro e; exfalso; omega) | (intro e; subst e) | intro _)); refine hv0 15 fun _ => ?_; refine tks [16] 1 ?_; (repeat' (first | refine sts ?_ | refine And.intro ?_ ?_ | (intro e; exfalso; omega) | (intro e; subst e) | intro _)); refine hv0 17 fun _ => ?_; (repeat' (first | refine sts ?_ | refine And.intro ?_ ?_ | (intro e; exfalso; omega) | (intro e; subst e) | intro _)); exact ra2 ((x3.1, x3.2), (x7.1, x7.2), x11.1, x11.2) rfl⟩
end Go.Proofs.YtdpiglociolagaaGreat
