/- The reference of tiny, walked: requests. -/
import Derived.Test.YtdpiglociolagaaGreatTyR9
import Derived.Test.YtdpiglociolagaaGreatMsSet
namespace Go.Ty
open Go.Lk Go.Sl Go.Proofs.YtdpiglociolagaaGreat
structure Ls3 (W A B : List Nat) : Prop where
  wn : W.Nodup
  an : A.Nodup
  bn : B.Nodup
  wd : ∀ k ∈ W, k ∉ A ∧ k ∉ B
  ab : ∀ k ∈ A, k ∉ B
  lt : ∀ k, k ∈ W ∨ k ∈ A ∨ k ∈ B → k < 4294967296
structure MemB (L : List Nat) (k : Nat) (b : Bool) : Prop where
  out : decide (k ∈ L) = b
structure Mem3 (W A B : List Nat) (k : Nat) (b : Bool) : Prop where
  out : decide (k ∈ W ∨ k ∈ A ∨ k ∈ B) = b
end Go.Ty
namespace Go.Proofs.YtdpiglociolagaaGreat
open Go.Lk Go.Sl Go.Gh Go.Ty
attribute [local irreducible] TK TL TC Th Bk Nx fnPost WA TQ OpQ OpN SpecH Rd Ent IterH RoundH Rb Rp fnPostM
attribute [local irreducible] Ty.shS Ty.sumB Ty.plS Ty.at64 Ty.cAdd Ty.plB Ty.bA Ty.bS Ty.hasB Ty.addB Ty.Mem.note Ty.Mem.guess Ty.adN
theorem tyr_inB : Known Tryz.prog 89 (∀ (a : Option Addr) (m c : Nat) (L : List Nat) (xk : Int) (k : Nat) [NatI xk k] (b : Bool), MemB L k b → m = L.length → m ≤ 4194304 → SpecH Tryz.prog 89 #[.slice a m c, .int .u32 xk] [RoS 1 a m c (u32s L)] (fun _ : Unit => .bool b) (fun _ => [])) := ⟨fun a m c L xk k _ b hb hm hx => by
  have h := tyr_in.out a m c L xk k hm hx
  rwa [hb.out] at h⟩
theorem tyr_hasB : Known Tryz.prog 50 (∀ (size most lim : Nat) (zr : Int) (aw aa ab : Option Addr) (nw na nb cw ca cb : Nat) (z7 z8 z9 z10 z15 z16 z18 z19 : Int) (a0 a1 a2 a3 fa ea : Option Addr) (n0 n1 n2 n3 k0 k1 k2 k3 fn fc en ec : Nat) (W A B : List Nat) (xk : Int) (k : Nat) [NatI xk k] (b : Bool), Mem3 W A B k b → nw = W.length → na = A.length → nb = B.length → nw ≤ 4096 → na ≤ 4096 → nb ≤ 4096 → SpecH Tryz.prog 50 #[.agg #[.int .i64 (size : Nat), .int .i64 (most : Nat), .int .i64 (lim : Nat), .int .i64 zr, .slice aw nw cw, .slice aa na ca, .slice ab nb cb, .int .i64 z7, .int .i64 z8, .int .i64 z9, .int .u64 z10, .slice a0 n0 k0, .slice a1 n1 k1, .slice a2 n2 k2, .slice a3 n3 k3, .int .i64 z15, .int .u64 z16, .slice fa fn fc, .int .i64 z18, .int .u64 z19, .slice ea en ec], .int .u32 xk] [RoS 1 aw nw cw (u32s W), RoS 1 aa na ca (u32s A), RoS 1 ab nb cb (u32s B)] (fun _ : Unit => .bool b) (fun _ => [])) := ⟨fun size most lim zr aw aa ab nw na nb cw ca cb z7 z8 z9 z10 z15 z16 z18 z19 a0 a1 a2 a3 fa ea n0 n1 n2 n3 k0 k1 k2 k3 fn fc en ec W A B xk k _ b hb h1 h2 h3 l1 l2 l3 => by
  have h := tyr_has.out size most lim zr aw aa ab nw na nb cw ca cb z7 z8 z9 z10 z15 z16 z18 z19 a0 a1 a2 a3 fa ea n0 n1 n2 n3 k0 k1 k2 k3 fn fc en ec W A B xk k h1 h2 h3 l1 l2 l3
  rwa [hb.out] at h⟩
theorem tyr_newestN : Known Tryz.prog 94 (∀ (a : Option Addr) (m c : Nat) (L : List Nat) (xk : Int) (k : Nat) [NatI xk k], m = L.length → k ∉ L → m ≤ 4096 → L.Nodup → SpecH Tryz.prog 94 #[.slice a m c, .int .u32 xk] [RoS 1 a m c (u32s L)] (fun q : Option Addr × Nat => .slice q.1 (k :: L).length q.2) (fun q => [RoS 1 q.1 (k :: L).length q.2 (u32s (k :: L))])) := ⟨fun a m c L xk k _ hm hn hx hnd => by
  have h := tyr_newest.out a m c L xk k hm hx hnd
  rwa [List.erase_of_not_mem hn] at h⟩
set_option maxHeartbeats 16000000 in
instance tyr_use : Known Tryz.prog 52 (∀ (size most lim : Nat) (aw aa ab : Option Addr) (nw na nb cw ca cb : Nat) (a0 a1 a2 a3 fa ea : Option Addr) (k0 k1 k2 k3 fc ec w n ad : Nat) (seed : BitVec 64) (m : Mem) (W A B : List Nat) (xk : Int) (k : Nat) [NatI xk k], k < 4294967296 → Ty.Ok size most lim W A B → Ls3 W A B → MemOk w n m → ad ≤ 50000 → m.req < 10 * size → nw = W.length → na = A.length → nb = B.length → SpecH Tryz.prog 52 #[.agg #[.int .i64 (size : Nat), .int .i64 (most : Nat), .int .i64 (lim : Nat), .int .i64 (m.req : Nat), .slice aw nw cw, .slice aa na ca, .slice ab nb cb, .int .i64 (w : Nat), .int .i64 0, .int .i64 (ad : Nat), .int .u64 (seed.toNat : Nat), .slice a0 w k0, .slice a1 w k1, .slice a2 w k2, .slice a3 w k3, .int .i64 3, .int .u64 (seed.toNat : Nat), .slice fa n fc, .int .i64 3, .int .u64 (seed.toNat : Nat), .slice ea n ec], .int .u32 xk] [RoS 1 aw nw cw (u32s W), RoS 1 aa na ca (u32s A), RoS 1 ab nb cb (u32s B), RoS 1 a0 w k0 (i64n m.c0), RoS 1 a1 w k1 (i64n m.c1), RoS 1 a2 w k2 (i64n m.c2), RoS 1 a3 w k3 (i64n m.c3), RoS 1 fa n fc (bls m.b), RoS 1 ea n ec (bls (List.replicate n false))] (fun q : S3 × S4 × Option Addr × Nat => .tuple #[.agg #[.int .i64 (size : Nat), .int .i64 (most : Nat), .int .i64 (lim : Nat), .int .i64 ((m.note (10 * size) w (sumB seed (txt k))).req : Nat), .slice q.1.1.1 (Ty.useW size most lim (fun x => (m.note (10 * size) w (sumB seed (txt k))).guess w (sumB seed (txt x))) W A B k).W.length q.1.1.2, .slice q.1.2.1.1 (Ty.useW size most lim (fun x => (m.note (10 * size) w (sumB seed (txt k))).guess w (sumB seed (txt x))) W A B k).A.length q.1.2.1.2, .slice q.1.2.2.1 (Ty.useW size most lim (fun x => (m.note (10 * size) w (sumB seed (txt k))).guess w (sumB seed (txt x))) W A B k).B.length q.1.2.2.2, .int .i64 (w : Nat), .int .i64 0, .int .i64 (adN m (10 * size) ad (sumB seed (txt k)) : Nat), .int .u64 (seed.toNat : Nat), .slice q.2.1.1.1 w q.2.1.1.2, .slice q.2.1.2.1.1 w q.2.1.2.1.2, .slice q.2.1.2.2.1.1 w q.2.1.2.2.1.2, .slice q.2.1.2.2.2.1 w q.2.1.2.2.2.2, .int .i64 3, .int .u64 (seed.toNat : Nat), .slice q.2.2.1 n q.2.2.2, .int .i64 3, .int .u64 (seed.toNat : Nat), .slice ea n ec], .agg #[.bool (useHit W A B k), .bool (useLeft size most W A B k), .int .u32 (useOut size most (fun x => (m.note (10 * size) w (sumB seed (txt k))).guess w (sumB seed (txt x))) W A B k : Nat)]]) (fun q => [RoS 1 q.1.1.1 (Ty.useW size most lim (fun x => (m.note (10 * size) w (sumB seed (txt k))).guess w (sumB seed (txt x))) W A B k).W.length q.1.1.2 (u32s (Ty.useW size most lim (fun x => (m.note (10 * size) w (sumB seed (txt k))).guess w (sumB seed (txt x))) W A B k).W), RoS 1 q.1.2.1.1 (Ty.useW size most lim (fun x => (m.note (10 * size) w (sumB seed (txt k))).guess w (sumB seed (txt x))) W A B k).A.length q.1.2.1.2 (u32s (Ty.useW size most lim (fun x => (m.note (10 * size) w (sumB seed (txt k))).guess w (sumB seed (txt x))) W A B k).A), RoS 1 q.1.2.2.1 (Ty.useW size most lim (fun x => (m.note (10 * size) w (sumB seed (txt k))).guess w (sumB seed (txt x))) W A B k).B.length q.1.2.2.2 (u32s (Ty.useW size most lim (fun x => (m.note (10 * size) w (sumB seed (txt k))).guess w (sumB seed (txt x))) W A B k).B), RoS 1 q.2.1.1.1 w q.2.1.1.2 (i64n (m.note (10 * size) w (sumB seed (txt k))).c0), RoS 1 q.2.1.2.1.1 w q.2.1.2.1.2 (i64n (m.note (10 * size) w (sumB seed (txt k))).c1), RoS 1 q.2.1.2.2.1.1 w q.2.1.2.2.1.2 (i64n (m.note (10 * size) w (sumB seed (txt k))).c2), RoS 1 q.2.1.2.2.2.1 w q.2.1.2.2.2.2 (i64n (m.note (10 * size) w (sumB seed (txt k))).c3), RoS 1 q.2.2.1 n q.2.2.2 (bls (m.note (10 * size) w (sumB seed (txt k))).b)])) := ⟨fun size most lim aw aa ab nw na nb cw ca cb a0 a1 a2 a3 fa ea k0 k1 k2 k3 fc ec w n ad seed m W A B xk k _ hk o ls ok had hreq e1 e2 e3 => by
  obtain rfl : xk = (k : Int) := NatI.out
  subst e1; subst e2; subst e3
  have s2 := o.s2
  have s3 := o.s3
  have m1 := o.m1
  have m2 := o.m2
  have l1 := o.l1
  have wl := o.w
  have abl := o.ab
  have bl := o.b
  have wn := ls.wn
  have an := ls.an
  have bn := ls.bn
  have okN := ok.note (mst := 10 * size) (h := (sumB seed (txt k)))
  haveI := tyr_inB
  haveI := tyr_hasB
  refine spec_of Tryz.func52 rfl Tryz.ntmps52 rfl [(0, _), (1, _)] rfl ?_; intro base F l0 hl0; (try simp only [List.cons_append] at hl0); (try simp only [List.nil_append] at hl0); subst hl0
  by_cases hW : k ∈ W
  · have f1 : useHit W A B k = true := decide_eq_true (.inl hW)
    have f2 : useLeft size most W A B k = false := if_pos (.inl hW)
    have f3 : useOut size most (fun x => (m.note (10 * size) w (sumB seed (txt k))).guess w (sumB seed (txt x))) W A B k = 0 := if_pos (.inl hW)
    have f4 : (Ty.useW size most lim (fun x => (m.note (10 * size) w (sumB seed (txt k))).guess w (sumB seed (txt x))) W A B k) = ⟨k :: W.erase k, A, B⟩ := if_pos hW
    have hd : MemB W k true := ⟨decide_eq_true hW⟩
    rw [f1, f2, f3, f4, show ((0 : Nat) : Int) = 0 from rfl]
    dsimp only
    repeat' (first | refine sts ?_ | refine And.intro ?_ ?_ | (intro e; exfalso; omega) | (intro e; subst e) | intro _)
    rename_i b2 b4 b5 ra rb xa xb
    exact raa (((xa, xb), (aa, ca), ab, cb), ra, rb) rfl
  have hd : MemB W k false := ⟨decide_eq_false hW⟩
  by_cases hin : k ∈ A ∨ k ∈ B
  · have hin3 : k ∈ W ∨ k ∈ A ∨ k ∈ B := .inr hin
    have f1 : useHit W A B k = true := decide_eq_true hin3
    have f2 : useLeft size most W A B k = false := if_pos hin3
    have f3 : useOut size most (fun x => (m.note (10 * size) w (sumB seed (txt k))).guess w (sumB seed (txt x))) W A B k = 0 := if_pos hin3
    have hd3 : Mem3 W A B k true := ⟨decide_eq_true hin3⟩
    have hwA : wo A k = A.erase k := filter_ne_erase an
    have anE : (wo A k).Nodup := by rw [hwA]; exact an.erase k
    have alE : (wo A k).length ≤ A.length := List.length_filter_le _ _
    have blE : (B.erase k).length ≤ B.length := List.erase_sublist.length_le
    have xl : (k :: B.erase k).length = (B.erase k).length + 1 := rfl
    have xn : (k :: B.erase k).Nodup := List.nodup_cons.2 ⟨fun h => (List.Nodup.mem_erase_iff bn).1 h |>.1 rfl, bn.erase k⟩
    by_cases hl : lim < (k :: B.erase k).length
    · have f4 : (Ty.useW size most lim (fun x => (m.note (10 * size) w (sumB seed (txt k))).guess w (sumB seed (txt x))) W A B k) = ⟨W, (k :: B.erase k).getLastD 0 :: A.erase k, (k :: B.erase k).dropLast⟩ := (if_neg hW).trans ((if_pos hin).trans (if_pos hl))
      rw [f1, f2, f3, f4, show ((0 : Nat) : Int) = 0 from rfl, ← hwA]
      dsimp only
      have hmem : ∀ x ∈ k :: B.erase k, x = k ∨ x ∈ B := fun x hx => (List.mem_cons.1 hx).imp id List.mem_of_mem_erase
      have hlast : (k :: B.erase k).getD ((k :: B.erase k).length - 1) 0 = (k :: B.erase k).getLastD 0 := by rw [List.getLastD_eq_getLast?, List.getLast?_eq_getElem?, List.getD_eq_getElem?_getD]
      have hlm : (k :: B.erase k).getLastD 0 ∈ k :: B.erase k := by rw [← hlast, List.getD_eq_getElem?_getD, List.getElem?_eq_getElem (by omega)]; exact List.getElem_mem _
      have hw2 : wo (k :: B.erase k) ((k :: B.erase k).getLastD 0) = (k :: B.erase k).dropLast := by rw [wo, filter_ne_erase xn]; exact Go.Ms.erase_last xn (List.cons_ne_nil _ _)
      have hnA : (k :: B.erase k).getLastD 0 ∉ wo A k := by
        rw [hwA]
        intro h
        have hA := List.mem_of_mem_erase h
        rcases hmem _ hlm with e | e
        · rw [e] at h; exact ((List.Nodup.mem_erase_iff an).1 h).1 rfl
        · exact ls.ab _ hA e
      have hek : (wo A k).erase ((k :: B.erase k).getLastD 0) = wo A k := List.erase_of_not_mem hnA
      have hk2 : (k :: B.erase k).getLastD 0 < 4294967296 := by
        rcases hmem _ hlm with e | e
        · rw [e]; exact hk
        · exact ls.lt _ (.inr (.inr e))
      have hdl : (k :: B.erase k).dropLast.length = (k :: B.erase k).length - 1 := List.length_dropLast
      have hel : (B.erase k).length + 1 ≤ lim + 1 := by omega
      rw [← hlast] at hw2 hek hk2 ⊢
      rw [← hw2] at hdl ⊢
      rw [show (k :: B.erase k).getD ((k :: B.erase k).length - 1) 0 :: wo A k = (k :: B.erase k).getD ((k :: B.erase k).length - 1) 0 :: (wo A k).erase ((k :: B.erase k).getD ((k :: B.erase k).length - 1) 0) by rw [hek]]
      repeat' (first | refine sts ?_ | refine And.intro ?_ ?_ | (intro e; exfalso; omega) | (intro e; subst e) | intro _)
      rename_i b2 b4 b5 ra rb pa pb ta tb
      generalize hX : k :: B.erase k = X at *
      refine tc_un 1 (un fun K0 hK0 => ?_)
      repeat' (first | refine sts ?_ | refine And.intro ?_ ?_ | (intro e; exfalso; omega) | (intro e; subst e) | intro _)
      rename_i va vb ya yb
      refine hK0 _ _ (un0 fun K => ?_)
      repeat' (first | refine sts ?_ | refine And.intro ?_ ?_ | (intro e; exfalso; omega) | (intro e; subst e) | intro _)
      exact raa (((aw, cw), (ya, yb), va, vb), ra, rb) rfl
    · have f4 : (Ty.useW size most lim (fun x => (m.note (10 * size) w (sumB seed (txt k))).guess w (sumB seed (txt x))) W A B k) = ⟨W, A.erase k, k :: B.erase k⟩ := (if_neg hW).trans ((if_pos hin).trans (if_neg hl))
      rw [f1, f2, f3, f4, show ((0 : Nat) : Int) = 0 from rfl, ← hwA]
      dsimp only
      repeat' (first | refine sts ?_ | refine And.intro ?_ ?_ | (intro e; exfalso; omega) | (intro e; subst e) | intro _)
      rename_i b2 b4 b5 ra rb pa pb ta tb
      refine tc_un 0 (un0 fun K => ?_)
      repeat' (first | refine sts ?_ | refine And.intro ?_ ?_ | (intro e; exfalso; omega) | (intro e; subst e) | intro _)
      exact raa (((aw, cw), (pa, pb), ta, tb), ra, rb) rfl
  have hno : ¬ (k ∈ W ∨ k ∈ A ∨ k ∈ B) := fun h => h.elim hW hin
  have f1 : useHit W A B k = false := decide_eq_false hno
  have hd3 : Mem3 W A B k false := ⟨decide_eq_false hno⟩
  haveI := tyr_newestN
  have xl : (k :: W).length = W.length + 1 := rfl
  have xn : (k :: W).Nodup := List.nodup_cons.2 ⟨hW, wn⟩
  rw [f1]
  by_cases hl : (k :: W).length ≤ most
  · have f2 : useLeft size most W A B k = false := (if_neg hno).trans (if_pos hl)
    have f3 : useOut size most (fun x => (m.note (10 * size) w (sumB seed (txt k))).guess w (sumB seed (txt x))) W A B k = 0 := (if_neg hno).trans (if_pos hl)
    have f4 : (Ty.useW size most lim (fun x => (m.note (10 * size) w (sumB seed (txt k))).guess w (sumB seed (txt x))) W A B k) = ⟨k :: W, A, B⟩ := (if_neg hW).trans ((if_neg hin).trans (if_pos hl))
    rw [f2, f3, f4, show ((0 : Nat) : Int) = 0 from rfl]
    dsimp only
    repeat' (first | refine sts ?_ | refine And.intro ?_ ?_ | (intro e; exfalso; omega) | (intro e; subst e) | intro _)
    rename_i b2 b4 b5 ra rb xa xb
    exact raa (((xa, xb), (aa, ca), ab, cb), ra, rb) rfl
  have g2 : useLeft size most W A B k = decide (¬ rooms size most A B) := (if_neg hno).trans (if_neg hl)
  have g3 : useOut size most (fun x => (m.note (10 * size) w (sumB seed (txt k))).guess w (sumB seed (txt x))) W A B k = admO size most (fun x => (m.note (10 * size) w (sumB seed (txt k))).guess w (sumB seed (txt x))) (k :: W) A B := (if_neg hno).trans (if_neg hl)
  have g4 : (Ty.useW size most lim (fun x => (m.note (10 * size) w (sumB seed (txt k))).guess w (sumB seed (txt x))) W A B k) = admS size most (fun x => (m.note (10 * size) w (sumB seed (txt k))).guess w (sumB seed (txt x))) (k :: W) A B := (if_neg hW).trans ((if_neg hin).trans (if_neg hl))
  have hmem : ∀ x ∈ k :: W, x = k ∨ x ∈ W := fun x hx => List.mem_cons.1 hx
  have hlast : (k :: W).getD ((k :: W).length - 1) 0 = (k :: W).getLastD 0 := by rw [List.getLastD_eq_getLast?, List.getLast?_eq_getElem?, List.getD_eq_getElem?_getD]
  have hlm : (k :: W).getLastD 0 ∈ k :: W := by rw [← hlast, List.getD_eq_getElem?_getD, List.getElem?_eq_getElem (by omega)]; exact List.getElem_mem _
  have hw2 : wo (k :: W) ((k :: W).getLastD 0) = (k :: W).dropLast := by rw [wo, filter_ne_erase xn]; exact Go.Ms.erase_last xn (List.cons_ne_nil _ _)
  have hcA : (k :: W).getLastD 0 ∉ A := fun h => (hmem _ hlm).elim (fun e => hin (.inl (e ▸ h))) (fun e => (ls.wd _ e).1 h)
  have hk2 : (k :: W).getLastD 0 < 4294967296 := (hmem _ hlm).elim (fun e => by rw [e]; exact hk) (fun e => ls.lt _ (.inl e))
  have hdl : (k :: W).dropLast.length = (k :: W).length - 1 := List.length_dropLast
  rw [g2, g3, g4]
  by_cases hr : rooms size most A B
  · have f2 : decide (¬ rooms size most A B) = false := decide_eq_false (fun h => h hr)
    have f3 : admO size most (fun x => (m.note (10 * size) w (sumB seed (txt k))).guess w (sumB seed (txt x))) (k :: W) A B = 0 := if_pos hr
    have f4 : admS size most (fun x => (m.note (10 * size) w (sumB seed (txt k))).guess w (sumB seed (txt x))) (k :: W) A B = ⟨(k :: W).dropLast, (k :: W).getLastD 0 :: A, B⟩ := if_pos hr
    rw [f2, f3, f4, show ((0 : Nat) : Int) = 0 from rfl]
    dsimp only
    have hr' : A.length + B.length < size - most := hr
    clear f2 f3 f4 g2 g3 g4
    rw [← hlast] at hw2 hcA hk2 ⊢
    rw [← hw2] at hdl ⊢
    repeat' (first | refine sts ?_ | refine And.intro ?_ ?_ | (intro e; exfalso; omega) | (intro e; subst e) | intro _)
    rename_i b2 b4 b5 ra rb xa xb ya yb za zb
    exact raa (((ya, yb), (za, zb), ab, cb), ra, rb) rfl
  have f2 : decide (¬ rooms size most A B) = true := decide_eq_true hr
  have h3 : admO size most (fun x => (m.note (10 * size) w (sumB seed (txt k))).guess w (sumB seed (txt x))) (k :: W) A B = if (fun x => (m.note (10 * size) w (sumB seed (txt k))).guess w (sumB seed (txt x))) ((k :: W).getLastD 0) ≤ (fun x => (m.note (10 * size) w (sumB seed (txt k))).guess w (sumB seed (txt x))) (vic A B) then (k :: W).getLastD 0 else vic A B := if_neg hr
  have h4 : admS size most (fun x => (m.note (10 * size) w (sumB seed (txt k))).guess w (sumB seed (txt x))) (k :: W) A B = if (fun x => (m.note (10 * size) w (sumB seed (txt k))).guess w (sumB seed (txt x))) ((k :: W).getLastD 0) ≤ (fun x => (m.note (10 * size) w (sumB seed (txt k))).guess w (sumB seed (txt x))) (vic A B) then ⟨(k :: W).dropLast, A, B⟩ else ⟨(k :: W).dropLast, (k :: W).getLastD 0 :: A.erase (vic A B), B.erase (vic A B)⟩ := if_neg hr
  have hr' : ¬ A.length + B.length < size - most := hr
  have hwA : wo A (vic A B) = A.erase (vic A B) := filter_ne_erase an
  have hwB : wo B (vic A B) = B.erase (vic A B) := filter_ne_erase bn
  have hcA2 : (k :: W).getLastD 0 ∉ wo A (vic A B) := fun h => hcA (List.mem_filter.1 h).1
  have hA2n : (wo A (vic A B)).Nodup := an.filter _
  have alE : (wo A (vic A B)).length ≤ A.length := List.length_filter_le _ _
  rw [f2, h3, h4]
  clear f2 h3 h4 g2 g3 g4
  rw [← hlast] at hw2 hcA hcA2 hk2 ⊢
  rw [← hw2] at hdl ⊢
  have hgn : ∀ x, (fun x => (m.note (10 * size) w (sumB seed (txt k))).guess w (sumB seed (txt x))) x = (m.note (10 * size) w (sumB seed (txt k))).guess w (sumB seed (txt x)) := fun x => rfl
  rw [← hwA, ← hwB]
  by_cases hA0 : A.length = 0
  · have hvc : vic A B = B.getD (B.length - 1) 0 := by
      unfold vic
      rw [if_pos (List.eq_nil_of_length_eq_zero hA0), List.getLastD_eq_getLast?, List.getLast?_eq_getElem?, List.getD_eq_getElem?_getD]
    have hvm : vic A B ∈ B := by rw [hvc, List.getD_eq_getElem?_getD, List.getElem?_eq_getElem (by omega)]; exact List.getElem_mem _
    have hvk : vic A B < 4294967296 := ls.lt _ (.inr (.inr hvm))
    rw [hvc] at hvk hwA hwB hcA2 hA2n alE ⊢
    by_cases hg : (m.note (10 * size) w (sumB seed (txt k))).guess w (sumB seed (txt ((k :: W).getD ((k :: W).length - 1) 0))) ≤ (m.note (10 * size) w (sumB seed (txt k))).guess w (sumB seed (txt (B.getD (B.length - 1) 0)))
    · rw [if_pos hg, if_pos hg]
      dsimp only
      repeat' (first | ((fail_if_success (refine atD ?_)); refine sts ?_) | refine And.intro ?_ ?_ | (intro e; exfalso; omega) | (intro e; subst e) | intro _)
      rename_i b2 b4 b5 ra rb xa xb ya yb
      refine drx [] ?_
      refine tks [0, 1, 3, 4] 3 ?_; repeat' (first | refine sts ?_ | refine And.intro ?_ ?_ | (intro e; exfalso; omega) | (intro e; subst e) | intro _)
      refine hv 2 fun _ => ?_
      refine hv 5 fun _ => ?_
      refine tks [6] 0 ?_; repeat' (first | refine sts ?_ | refine And.intro ?_ ?_ | (intro e; exfalso; omega) | (intro e; subst e) | intro _)
      exact raa (((ya, yb), (aa, ca), ab, cb), ra, rb) rfl
    · rw [if_neg hg, if_neg hg]
      dsimp only
      repeat' (first | ((fail_if_success (refine atD ?_)); refine sts ?_) | refine And.intro ?_ ?_ | (intro e; exfalso; omega) | (intro e; subst e) | intro _)
      rename_i b2 b4 b5 ra rb xa xb ya yb
      refine drx [] ?_
      refine tks [0, 1, 3, 4] 3 ?_; repeat' (first | refine sts ?_ | refine And.intro ?_ ?_ | (intro e; exfalso; omega) | (intro e; subst e) | intro _)
      refine hv 2 fun _ => ?_
      refine hv 5 fun _ => ?_
      refine tks [6] 0 ?_
      refine sts ?_; refine sts ?_; refine sts ?_; refine sts ?_; (repeat' (first | ((fail_if_success (refine atD ?_)); refine sts ?_) | refine And.intro ?_ ?_ | (intro e; exfalso; omega) | (intro e; subst e) | intro _))
      refine drx [obj b2 36 _] ?_
      refine tks [0, 2, 4, 6] 8 ?_; repeat' (first | refine sts ?_ | refine And.intro ?_ ?_ | (intro e; exfalso; omega) | (intro e; subst e) | intro _)
      refine hvB 1 5 (fun _ => ?_) (fun _ => ?_)
      · refine hvB 3 5 (fun x3 => ?_) (fun _ => ?_)
        · refine hvr 5 ?_
          refine tks [8] 4 ?_; (repeat' (first | refine sts ?_ | refine And.intro ?_ ?_ | (intro e; exfalso; omega) | (intro e; subst e) | intro _))
          refine hv 7 fun x7 => ?_
          refine hv0 9 fun _ => ?_; refine tks [10] 1 ?_; (repeat' (first | refine sts ?_ | refine And.intro ?_ ?_ | (intro e; exfalso; omega) | (intro e; subst e) | intro _)); refine hv0 11 fun _ => ?_; (repeat' (first | refine sts ?_ | refine And.intro ?_ ?_ | (intro e; exfalso; omega) | (intro e; subst e) | intro _)); rename_i ua ub; exact raa (((ya, yb), (ua, ub), x7.1, x7.2), ra, rb) rfl
        · refine hv 3 fun x3 => ?_
          refine tks [8] 4 ?_; (repeat' (first | refine sts ?_ | refine And.intro ?_ ?_ | (intro e; exfalso; omega) | (intro e; subst e) | intro _))
          refine hv 7 fun x7 => ?_
          refine hv0 9 fun _ => ?_; refine tks [10] 1 ?_; (repeat' (first | refine sts ?_ | refine And.intro ?_ ?_ | (intro e; exfalso; omega) | (intro e; subst e) | intro _)); refine hv0 11 fun _ => ?_; (repeat' (first | refine sts ?_ | refine And.intro ?_ ?_ | (intro e; exfalso; omega) | (intro e; subst e) | intro _)); rename_i ua ub; exact raa (((ya, yb), (ua, ub), x7.1, x7.2), ra, rb) rfl
      · refine hvr 1 ?_
        refine hv 3 fun x3 => ?_
        refine tks [8] 4 ?_; (repeat' (first | refine sts ?_ | refine And.intro ?_ ?_ | (intro e; exfalso; omega) | (intro e; subst e) | intro _))
        refine hv 7 fun x7 => ?_
        refine hv0 9 fun _ => ?_; refine tks [10] 1 ?_; (repeat' (first | refine sts ?_ | refine And.intro ?_ ?_ | (intro e; exfalso; omega) | (intro e; subst e) | intro _)); refine hv0 11 fun _ => ?_; (repeat' (first | refine sts ?_ | refine And.intro ?_ ?_ | (intro e; exfalso; omega) | (intro e; subst e) | intro _)); rename_i ua ub; exact raa (((ya, yb), (ua, ub), x7.1, x7.2), ra, rb) rfl
  · have hvc : vic A B = A.getD (A.length - 1) 0 := by
      unfold vic
      rw [if_neg (fun e => hA0 (by rw [e]; rfl)), List.getLastD_eq_getLast?, List.getLast?_eq_getElem?, List.getD_eq_getElem?_getD]
    have hvm : vic A B ∈ A := by rw [hvc, List.getD_eq_getElem?_getD, List.getElem?_eq_getElem (by omega)]; exact List.getElem_mem _
    have hvk : vic A B < 4294967296 := ls.lt _ (.inr (.inl hvm))
    rw [hvc] at hvk hwA hwB hcA2 hA2n alE ⊢
    by_cases hg : (m.note (10 * size) w (sumB seed (txt k))).guess w (sumB seed (txt ((k :: W).getD ((k :: W).length - 1) 0))) ≤ (m.note (10 * size) w (sumB seed (txt k))).guess w (sumB seed (txt (A.getD (A.length - 1) 0)))
    · rw [if_pos hg, if_pos hg]
      dsimp only
      repeat' (first | ((fail_if_success (refine atD ?_)); refine sts ?_) | refine And.intro ?_ ?_ | (intro e; exfalso; omega) | (intro e; subst e) | intro _)
      rename_i b2 b4 b5 ra rb xa xb ya yb
      refine drx [] ?_
      refine tks [0, 1, 3, 4] 3 ?_; repeat' (first | refine sts ?_ | refine And.intro ?_ ?_ | (intro e; exfalso; omega) | (intro e; subst e) | intro _)
      refine hv 2 fun _ => ?_
      refine hv 5 fun _ => ?_
      refine tks [6] 0 ?_; repeat' (first | refine sts ?_ | refine And.intro ?_ ?_ | (intro e; exfalso; omega) | (intro e; subst e) | intro _)
      exact raa (((ya, yb), (aa, ca), ab, cb), ra, rb) rfl
    · rw [if_neg hg, if_neg hg]
      dsimp only
      repeat' (first | ((fail_if_success (refine atD ?_)); refine sts ?_) | refine And.intro ?_ ?_ | (intro e; exfalso; omega) | (intro e; subst e) | intro _)
      rename_i b2 b4 b5 ra rb xa xb ya yb
      refine drx [] ?_
      refine tks [0, 1, 3, 4] 3 ?_; repeat' (first | refine sts ?_ | refine And.intro ?_ ?_ | (intro e; exfalso; omega) | (intro e; subst e) | intro _)
      refine hv 2 fun _ => ?_
      refine hv 5 fun _ => ?_
      refine tks [6] 0 ?_
      refine sts ?_; refine sts ?_; refine sts ?_; refine sts ?_; (repeat' (first | ((fail_if_success (refine atD ?_)); refine sts ?_) | refine And.intro ?_ ?_ | (intro e; exfalso; omega) | (intro e; subst e) | intro _))
      refine drx [obj b2 36 _] ?_
      refine tks [0, 2, 4, 6] 8 ?_; repeat' (first | refine sts ?_ | refine And.intro ?_ ?_ | (intro e; exfalso; omega) | (intro e; subst e) | intro _)
      refine hvB 1 5 (fun _ => ?_) (fun _ => ?_)
      · refine hvB 3 5 (fun x3 => ?_) (fun _ => ?_)
        · refine hvr 5 ?_
          refine tks [8] 4 ?_; (repeat' (first | refine sts ?_ | refine And.intro ?_ ?_ | (intro e; exfalso; omega) | (intro e; subst e) | intro _))
          refine hv 7 fun x7 => ?_
          refine hv0 9 fun _ => ?_; refine tks [10] 1 ?_; (repeat' (first | refine sts ?_ | refine And.intro ?_ ?_ | (intro e; exfalso; omega) | (intro e; subst e) | intro _)); refine hv0 11 fun _ => ?_; (repeat' (first | refine sts ?_ | refine And.intro ?_ ?_ | (intro e; exfalso; omega) | (intro e; subst e) | intro _)); rename_i ua ub; exact raa (((ya, yb), (ua, ub), x7.1, x7.2), ra, rb) rfl
        · refine hv 3 fun x3 => ?_
          refine tks [8] 4 ?_; (repeat' (first | refine sts ?_ | refine And.intro ?_ ?_ | (intro e; exfalso; omega) | (intro e; subst e) | intro _))
          refine hv 7 fun x7 => ?_
          refine hv0 9 fun _ => ?_; refine tks [10] 1 ?_; (repeat' (first | refine sts ?_ | refine And.intro ?_ ?_ | (intro e; exfalso; omega) | (intro e; subst e) | intro _)); refine hv0 11 fun _ => ?_; (repeat' (first | refine sts ?_ | refine And.intro ?_ ?_ | (intro e; exfalso; omega) | (intro e; subst e) | intro _)); rename_i ua ub; exact raa (((ya, yb), (ua, ub), x7.1, x7.2), ra, rb) rfl
      · refine hvr 1 ?_
        refine hv 3 fun x3 => ?_
        refine tks [8] 4 ?_; (repeat' (first | refine sts ?_ | refine And.intro ?_ ?_ | (intro e; exfalso; omega) | (intro e; subst e) | intro _))
        refine hv 7 fun x7 => ?_
        refine hv0 9 fun _ => ?_; refine tks [10] 1 ?_; (repeat' (first | refine sts ?_ | refine And.intro ?_ ?_ | (intro e; exfalso; omega) | (intro e; subst e) | intro _)); refine hv0 11 fun _ => ?_; (repeat' (first | refine sts ?_ | refine And.intro ?_ ?_ | (intro e; exfalso; omega) | (intro e; subst e) | intro _)); rename_i ua ub; exact raa (((ya, yb), (ua, ub), x7.1, x7.2), ra, rb) rfl⟩
end Go.Proofs.YtdpiglociolagaaGreat
