/- TyI: TyR7, TyR8. -/
import Derived.Test.YtdpiglociolagaaGreatTyH
import Derived.Test.YtdpiglociolagaaGreatTyE
import Derived.Test.YtdpiglociolagaaGreatSlHt
/- The reference of tiny, walked: lists of keys; a new cache; what it remembers. -/
namespace Go.Ty
open Go.Lk Go.Sl Go.Proofs.YtdpiglociolagaaGreat
structure MemOk (w n : Nat) (m : Mem) : Prop where
  sk : SkL w m.c0 m.c1 m.c2 m.c3
  bits : Bits n
  bl : m.b.length = n
theorem MemOk.half {w n : Nat} {m : Mem} (h : MemOk w n m) : MemOk w n m.half := ⟨h.sk.half, h.bits, by show (List.replicate _ _).length = n; rw [List.length_replicate, h.bl]⟩
theorem MemOk.mid {w n : Nat} {m : Mem} {h : BitVec 64} (o : MemOk w n m) : MemOk w n (m.mid w h) := by
  cases e : hasB m.b h with
  | true => rw [mid_yes e]; exact ⟨o.sk.add, o.bits, o.bl⟩
  | false => rw [mid_no e]; exact ⟨o.sk, o.bits, by show (addB _ _).length = n; rw [addB_len, o.bl]⟩
theorem MemOk.note {w n mst : Nat} {m : Mem} {h : BitVec 64} (o : MemOk w n m) : MemOk w n (m.note mst w h) := by
  unfold Mem.note
  split
  · exact o.mid.half
  · have := o.mid (h := h)
    exact ⟨this.sk, this.bits, this.bl⟩
theorem MemOk.new {w n : Nat} (hw : ∃ e, 4 ≤ e ∧ e ≤ 16 ∧ w = 2 ^ e) (hn : Bits n) : MemOk w n (Mem.new w n) := ⟨SkL.zero hw, hn, List.length_replicate⟩
def adN (m : Mem) (mst ad : Nat) (h : BitVec 64) : Nat := if m.req + 1 = mst then (if hasB m.b h then ad + 1 else ad) / 2 else if hasB m.b h then ad + 1 else ad
theorem adN_le {m : Mem} {mst ad : Nat} {h : BitVec 64} : adN m mst ad h ≤ ad + 1 := by unfold adN; split <;> split <;> omega
end Go.Ty
namespace Go.Proofs.YtdpiglociolagaaGreat
open Go.Lk Go.Sl Go.Gh Go.Ty
attribute [local irreducible] TK TL TC Th Bk Nx fnPost WA TQ OpQ OpN SpecH Rd Ent IterH RoundH Rb Rp fnPostM
attribute [local irreducible] Ty.shS Ty.sumB Ty.plS Ty.at64 Ty.cAdd Ty.plB Ty.bA Ty.bS Ty.hasB Ty.addB
instance tyr_in : Known Tryz.prog 89 (∀ (a : Option Addr) (m c : Nat) (L : List Nat) (xk : Int) (k : Nat) [NatI xk k], m = L.length → m ≤ 4194304 → SpecH Tryz.prog 89 #[.slice a m c, .int .u32 xk] [RoS 1 a m c (u32s L)] (fun _ : Unit => .bool (decide (k ∈ L))) (fun _ => [])) := ⟨fun a m c L xk k _ hm hx => by
  obtain rfl : xk = (k : Int) := NatI.out
  subst hm
  refine spec_of Tryz.func89 rfl Tryz.ntmps89 rfl [(0, _), (1, _)] rfl ?_; intro base F l0 hl0; (try simp only [List.cons_append] at hl0); (try simp only [List.nil_append] at hl0); subst hl0
  repeat' (first | refine sts ?_ | refine And.intro ?_ ?_ | (intro e; exfalso; omega) | (intro e; subst e) | intro _)
  exact rt1 () rfl⟩
set_option maxHeartbeats 4000000 in
instance tyr_newest : Known Tryz.prog 94 (∀ (a : Option Addr) (m c : Nat) (L : List Nat) (xk : Int) (k : Nat) [NatI xk k], m = L.length → m ≤ 4096 → L.Nodup → SpecH Tryz.prog 94 #[.slice a m c, .int .u32 xk] [RoS 1 a m c (u32s L)] (fun q : Option Addr × Nat => .slice q.1 (k :: L.erase k).length q.2) (fun q => [RoS 1 q.1 (k :: L.erase k).length q.2 (u32s (k :: L.erase k))])) := ⟨fun a m c L xk k _ hm hx hnd => by
  obtain rfl : xk = (k : Int) := NatI.out
  subst hm
  refine spec_of Tryz.func94 rfl Tryz.ntmps94 rfl [(0, _), (1, _)] rfl ?_; intro base F l0 hl0; (try simp only [List.cons_append] at hl0); (try simp only [List.nil_append] at hl0); subst hl0
  have hw : wo L k = L.erase k := filter_ne_erase hnd
  have hwl : (wo L k).length ≤ L.length := List.length_filter_le _ _
  have e0 : 1 + (wo L k).length = (k :: wo L k).length := by simp; omega
  have e1 : (Value.int .u32 (k : Nat) :: u32s (wo L k)) = u32s (k :: wo L k) := rfl
  rw [← hw]
  repeat' (first | refine sts ?_ | refine And.intro ?_ ?_ | (intro e; exfalso; omega) | (intro e; subst e) | intro _)
  rename_i a1 b1
  rw [e0, e1]
  refine frz a1 ?_
  exact rt1 (a1, b1) rfl⟩
set_option maxHeartbeats 4000000 in
instance tyr_guess : Known Tryz.prog 51 (∀ (size most lim : Nat) (aw aa ab : Option Addr) (nw na nb cw ca cb : Nat) (a0 a1 a2 a3 fa ea : Option Addr) (k0 k1 k2 k3 fc ec w n ad : Nat) (seed : BitVec 64) (m : Mem) (xk : Int) (k : Nat) [NatI xk k], k < 4294967296 → MemOk w n m → SpecH Tryz.prog 51 #[.agg #[.int .i64 (size : Nat), .int .i64 (most : Nat), .int .i64 (lim : Nat), .int .i64 (m.req : Nat), .slice aw nw cw, .slice aa na ca, .slice ab nb cb, .int .i64 (w : Nat), .int .i64 0, .int .i64 (ad : Nat), .int .u64 (seed.toNat : Nat), .slice a0 w k0, .slice a1 w k1, .slice a2 w k2, .slice a3 w k3, .int .i64 3, .int .u64 (seed.toNat : Nat), .slice fa n fc, .int .i64 3, .int .u64 (seed.toNat : Nat), .slice ea n ec], .int .u32 xk] [RoS 1 a0 w k0 (i64n m.c0), RoS 1 a1 w k1 (i64n m.c1), RoS 1 a2 w k2 (i64n m.c2), RoS 1 a3 w k3 (i64n m.c3), RoS 1 fa n fc (bls m.b)] (fun _ : Unit => .int .i64 (m.guess w (sumB seed (txt k)) : Nat)) (fun _ => [])) := ⟨fun size most lim aw aa ab nw na nb cw ca cb a0 a1 a2 a3 fa ea k0 k1 k2 k3 fc ec w n ad seed m xk k _ hk ok => by
  obtain rfl : xk = (k : Int) := NatI.out
  refine spec_of Tryz.func51 rfl Tryz.ntmps51 rfl [(0, _), (1, _)] rfl ?_; intro base F l0 hl0; (try simp only [List.cons_append] at hl0); (try simp only [List.nil_append] at hl0); subst hl0
  have o1 := ok.sk
  have o2 := ok.bits
  have o3 := ok.bl
  have hc : cnt4 m.c0 m.c1 m.c2 m.c3 w (sumB seed (txt k)) ≤ 15 := by unfold cnt4; omega
  repeat' (first | ((fail_if_success (refine atD ?_)); refine sts ?_) | refine And.intro ?_ ?_ | (intro e; exfalso; omega) | (intro e; subst e) | intro _)
  refine drx [] ?_
  refine tks [0, 2, 1] 3 ?_; repeat' (first | refine sts ?_ | refine And.intro ?_ ?_ | (intro e; exfalso; omega) | (intro e; subst e) | intro _)
  refine hv 3 fun x3 => ?_
  refine hv 4 fun x4 => ?_
  refine tks [5] 0 ?_
  refine sts ?_; refine sts ?_; refine sts ?_; refine sts ?_; (repeat' (first | ((fail_if_success (refine atD ?_)); refine sts ?_) | refine And.intro ?_ ?_ | (intro e; exfalso; omega) | (intro e; subst e) | intro _))
  refine drx [] ?_
  refine tks [0, 2, 1] 2 ?_; repeat' (first | refine sts ?_ | refine And.intro ?_ ?_ | (intro e; exfalso; omega) | (intro e; subst e) | intro _)
  refine hv 3 fun x3 => ?_
  cases hh : hasB m.b (sumB seed (txt k)) with
  | true =>
    have e : m.guess w (sumB seed (txt k)) = cnt4 m.c0 m.c1 m.c2 m.c3 w (sumB seed (txt k)) + 1 := by unfold Mem.guess Mem.count; rw [hh]; rfl
    rw [e]
    refine hv 4 fun x4 => ?_
    rw [hh]
    repeat' (first | refine sts ?_ | refine And.intro ?_ ?_ | (intro e; exfalso; omega) | (intro e; subst e) | intro _)
    exact rt1 () rfl
  | false =>
    have e : m.guess w (sumB seed (txt k)) = cnt4 m.c0 m.c1 m.c2 m.c3 w (sumB seed (txt k)) := by unfold Mem.guess Mem.count; rw [hh]; rfl
    rw [e]
    refine hv 4 fun x4 => ?_
    rw [hh]
    repeat' (first | refine sts ?_ | refine And.intro ?_ ?_ | (intro e; exfalso; omega) | (intro e; subst e) | intro _)
    exact rt1 () rfl⟩
end Go.Proofs.YtdpiglociolagaaGreat

/- The reference of tiny, walked: whether a key is there; a request remembered. -/
namespace Go.Ty
open Go.Lk Go.Sl Go.Proofs.YtdpiglociolagaaGreat
section
variable {m : Mem} {mst w ad : Nat} {h : BitVec 64}
theorem note_yh (hh : hasB m.b h = true) (hr : m.req + 1 = mst) : m.note mst w h = ⟨(cAdd m.c0 (plS h w 0)).map (· / 2), (cAdd m.c1 (plS h w 1)).map (· / 2), (cAdd m.c2 (plS h w 2)).map (· / 2), (cAdd m.c3 (plS h w 3)).map (· / 2), List.replicate m.b.length false, 0⟩ ∧ adN m mst ad h = (ad + 1) / 2 := by
  refine ⟨?_, by unfold adN; rw [if_pos hr, if_pos hh]⟩
  unfold Mem.note; rw [mid_yes hh]; exact if_pos hr
theorem note_yn (hh : hasB m.b h = true) (hr : ¬ m.req + 1 = mst) : m.note mst w h = ⟨cAdd m.c0 (plS h w 0), cAdd m.c1 (plS h w 1), cAdd m.c2 (plS h w 2), cAdd m.c3 (plS h w 3), m.b, m.req + 1⟩ ∧ adN m mst ad h = ad + 1 := by
  refine ⟨?_, by unfold adN; rw [if_neg hr, if_pos hh]⟩
  unfold Mem.note; rw [mid_yes hh]; exact if_neg hr
theorem note_nh (hh : hasB m.b h = false) (hr : m.req + 1 = mst) : m.note mst w h = ⟨m.c0.map (· / 2), m.c1.map (· / 2), m.c2.map (· / 2), m.c3.map (· / 2), List.replicate (addB m.b h).length false, 0⟩ ∧ adN m mst ad h = ad / 2 := by
  refine ⟨?_, by unfold adN; rw [if_pos hr, hh]; rfl⟩
  unfold Mem.note; rw [mid_no hh]; exact if_pos hr
theorem note_nn (hh : hasB m.b h = false) (hr : ¬ m.req + 1 = mst) : m.note mst w h = ⟨m.c0, m.c1, m.c2, m.c3, addB m.b h, m.req + 1⟩ ∧ adN m mst ad h = ad := by
  refine ⟨?_, by unfold adN; rw [if_neg hr, hh]; rfl⟩
  unfold Mem.note; rw [mid_no hh]; exact if_neg hr
end
end Go.Ty
namespace Go.Proofs.YtdpiglociolagaaGreat
open Go.Lk Go.Sl Go.Gh Go.Ty
attribute [local irreducible] TK TL TC Th Bk Nx fnPost WA TQ OpQ OpN SpecH Rd Ent IterH RoundH Rb Rp fnPostM
attribute [local irreducible] Ty.shS Ty.sumB Ty.plS Ty.at64 Ty.cAdd Ty.plB Ty.bA Ty.bS Ty.hasB Ty.addB
instance tyr_has : Known Tryz.prog 50 (∀ (size most lim : Nat) (zr : Int) (aw aa ab : Option Addr) (nw na nb cw ca cb : Nat) (z7 z8 z9 z10 z15 z16 z18 z19 : Int) (a0 a1 a2 a3 fa ea : Option Addr) (n0 n1 n2 n3 k0 k1 k2 k3 fn fc en ec : Nat) (W A B : List Nat) (xk : Int) (k : Nat) [NatI xk k], nw = W.length → na = A.length → nb = B.length → nw ≤ 4096 → na ≤ 4096 → nb ≤ 4096 → SpecH Tryz.prog 50 #[.agg #[.int .i64 (size : Nat), .int .i64 (most : Nat), .int .i64 (lim : Nat), .int .i64 zr, .slice aw nw cw, .slice aa na ca, .slice ab nb cb, .int .i64 z7, .int .i64 z8, .int .i64 z9, .int .u64 z10, .slice a0 n0 k0, .slice a1 n1 k1, .slice a2 n2 k2, .slice a3 n3 k3, .int .i64 z15, .int .u64 z16, .slice fa fn fc, .int .i64 z18, .int .u64 z19, .slice ea en ec], .int .u32 xk] [RoS 1 aw nw cw (u32s W), RoS 1 aa na ca (u32s A), RoS 1 ab nb cb (u32s B)] (fun _ : Unit => .bool (decide (k ∈ W ∨ k ∈ A ∨ k ∈ B))) (fun _ => [])) := ⟨fun size most lim zr aw aa ab nw na nb cw ca cb z7 z8 z9 z10 z15 z16 z18 z19 a0 a1 a2 a3 fa ea n0 n1 n2 n3 k0 k1 k2 k3 fn fc en ec W A B xk k _ h1 h2 h3 l1 l2 l3 => by
  obtain rfl : xk = (k : Int) := NatI.out
  subst h1; subst h2; subst h3
  refine spec_of Tryz.func50 rfl Tryz.ntmps50 rfl [(0, _), (1, _)] rfl ?_; intro base F l0 hl0; (try simp only [List.cons_append] at hl0); (try simp only [List.nil_append] at hl0); subst hl0
  repeat' (first | refine sts ?_ | refine And.intro ?_ ?_ | (intro e; exfalso; omega) | (intro e; subst e) | intro _)
  · rename_i h
    rw [decide_eq_true (.inl h : k ∈ W ∨ k ∈ A ∨ k ∈ B)]
    exact rt1 () rfl
  · rename_i h _ h2
    rw [decide_eq_true (.inr (.inl h2) : k ∈ W ∨ k ∈ A ∨ k ∈ B)]
    exact rt1 () rfl
  · rename_i h h2
    rw [show decide (k ∈ W ∨ k ∈ A ∨ k ∈ B) = decide (k ∈ B) by simp [h, h2]]
    exact rt1 () rfl⟩
set_option maxHeartbeats 8000000 in
instance tyr_remember : Known Tryz.prog 93 (∀ (size most lim : Nat) (aw aa ab : Option Addr) (nw na nb cw ca cb : Nat) (a0 a1 a2 a3 fa ea : Option Addr) (k0 k1 k2 k3 fc ec w n ad : Nat) (seed : BitVec 64) (m : Mem) (xk : Int) (k : Nat) [NatI xk k], k < 4294967296 → MemOk w n m → size ≤ 1024 → ad ≤ 50000 → m.req < 10 * size → SpecH Tryz.prog 93 #[.agg #[.int .i64 (size : Nat), .int .i64 (most : Nat), .int .i64 (lim : Nat), .int .i64 (m.req : Nat), .slice aw nw cw, .slice aa na ca, .slice ab nb cb, .int .i64 (w : Nat), .int .i64 0, .int .i64 (ad : Nat), .int .u64 (seed.toNat : Nat), .slice a0 w k0, .slice a1 w k1, .slice a2 w k2, .slice a3 w k3, .int .i64 3, .int .u64 (seed.toNat : Nat), .slice fa n fc, .int .i64 3, .int .u64 (seed.toNat : Nat), .slice ea n ec], .int .u32 xk] [RoS 1 a0 w k0 (i64n m.c0), RoS 1 a1 w k1 (i64n m.c1), RoS 1 a2 w k2 (i64n m.c2), RoS 1 a3 w k3 (i64n m.c3), RoS 1 fa n fc (bls m.b), RoS 1 ea n ec (bls (List.replicate n false))] (fun q : S4 × Option Addr × Nat => .agg #[.int .i64 (size : Nat), .int .i64 (most : Nat), .int .i64 (lim : Nat), .int .i64 ((m.note (10 * size) w (sumB seed (txt k))).req : Nat), .slice aw nw cw, .slice aa na ca, .slice ab nb cb, .int .i64 (w : Nat), .int .i64 0, .int .i64 (adN m (10 * size) ad (sumB seed (txt k)) : Nat), .int .u64 (seed.toNat : Nat), .slice q.1.1.1 w q.1.1.2, .slice q.1.2.1.1 w q.1.2.1.2, .slice q.1.2.2.1.1 w q.1.2.2.1.2, .slice q.1.2.2.2.1 w q.1.2.2.2.2, .int .i64 3, .int .u64 (seed.toNat : Nat), .slice q.2.1 n q.2.2, .int .i64 3, .int .u64 (seed.toNat : Nat), .slice ea n ec]) (fun q => [RoS 1 q.1.1.1 w q.1.1.2 (i64n (m.note (10 * size) w (sumB seed (txt k))).c0), RoS 1 q.1.2.1.1 w q.1.2.1.2 (i64n (m.note (10 * size) w (sumB seed (txt k))).c1), RoS 1 q.1.2.2.1.1 w q.1.2.2.1.2 (i64n (m.note (10 * size) w (sumB seed (txt k))).c2), RoS 1 q.1.2.2.2.1 w q.1.2.2.2.2 (i64n (m.note (10 * size) w (sumB seed (txt k))).c3), RoS 1 q.2.1 n q.2.2 (bls (m.note (10 * size) w (sumB seed (txt k))).b)])) := ⟨fun size most lim aw aa ab nw na nb cw ca cb a0 a1 a2 a3 fa ea k0 k1 k2 k3 fc ec w n ad seed m xk k _ hk ok hs had hreq => by
  obtain rfl : xk = (k : Int) := NatI.out
  refine spec_of Tryz.func93 rfl Tryz.ntmps93 rfl [(0, _), (1, _)] rfl ?_; intro base F l0 hl0; (try simp only [List.cons_append] at hl0); (try simp only [List.nil_append] at hl0); subst hl0
  have o1 := ok.sk
  have o1a := ok.sk.add (p0 := plS (sumB seed (txt k)) w 0) (p1 := plS (sumB seed (txt k)) w 1) (p2 := plS (sumB seed (txt k)) w 2) (p3 := plS (sumB seed (txt k)) w 3)
  have o2 := ok.bits
  have o3 := ok.bl
  have o4 : (addB m.b (sumB seed (txt k))).length = n := by rw [addB_len, o3]
  have had1 : ((ad + 1 : Nat) : Int) = (ad : Int) + 1 := rfl
  cases hh : hasB m.b (sumB seed (txt k)) with
  | true =>
    by_cases hr : m.req + 1 = 10 * size
    · obtain ⟨eN, eA⟩ := note_yh (w := w) (ad := ad) hh hr
      rw [eN, eA, o3]
      dsimp only
      rw [show ((0 : Nat) : Int) = 0 from rfl]
      repeat' (first | ((fail_if_success (refine atD ?_)); refine sts ?_) | refine And.intro ?_ ?_ | (intro e; exfalso; omega) | (intro e; subst e) | intro _)
      rename_i b2 b4
      refine drx [] ?_
      refine tks [0, 2, 1] 2 ?_; repeat' (first | refine sts ?_ | refine And.intro ?_ ?_ | (intro e; exfalso; omega) | (intro e; subst e) | intro _)
      refine hv 3 fun _ => ?_
      refine hv 4 fun _ => ?_
      rw [hh]
      refine sts ?_; refine sts ?_; refine sts ?_; refine sts ?_; (repeat' (first | ((fail_if_success (refine atD ?_)); refine sts ?_) | refine And.intro ?_ ?_ | (intro e; exfalso; omega) | (intro e; subst e) | intro _))
      refine drx [obj b2 36 _] ?_
      refine tks [0, 2] 8 ?_; repeat' (first | refine sts ?_ | refine And.intro ?_ ?_ | (intro e; exfalso; omega) | (intro e; subst e) | intro _)
      refine hvB 1 3 (fun _ => ?_) (fun _ => ?_) (hq1 := by exact lpN)
      · refine hv 3 fun _ => ?_
        refine hv 4 fun x4 => ?_
        refine tks [5, 6, 7, 8] 1 ?_; repeat' (first | refine sts ?_ | refine And.intro ?_ ?_ | (intro e; exfalso; omega) | (intro e; subst e) | intro _)
        refine hv0 9 fun _ => ?_
        refine sts ?_; refine sts ?_; refine sts ?_; refine sts ?_; (repeat' (first | ((fail_if_success (refine atD ?_)); refine sts ?_) | refine And.intro ?_ ?_ | (intro e; exfalso; omega) | (intro e; subst e) | intro _))
        refine drx [obj b2 36 _] ?_
        refine tks [0, 3] 9 ?_; repeat' (first | refine sts ?_ | refine And.intro ?_ ?_ | (intro e; exfalso; omega) | (intro e; subst e) | intro _)
        refine hvB 1 4 (fun _ => ?_) (fun _ => ?_) (hq1 := by exact lpN) (hq2 := by exact lpN)
        · refine hvB 2 4 (fun x2 => ?_) (fun _ => ?_) (hq2 := by exact lpN)
          · refine hvr 4 ?_ (hq := by exact lpQ)
            refine tks [5] 5 ?_; (repeat' (first | refine sts ?_ | refine And.intro ?_ ?_ | (intro e; exfalso; omega) | (intro e; subst e) | intro _)); refine hv0 6 fun _ => ?_; refine tks [7] 3 ?_; (repeat' (first | refine sts ?_ | refine And.intro ?_ ?_ | (intro e; exfalso; omega) | (intro e; subst e) | intro _)); refine hv0 8 fun _ => ?_; refine tks [9] 1 ?_; (repeat' (first | refine sts ?_ | refine And.intro ?_ ?_ | (intro e; exfalso; omega) | (intro e; subst e) | intro _)); refine hv0 10 fun _ => ?_; (repeat' (first | refine sts ?_ | refine And.intro ?_ ?_ | (intro e; exfalso; omega) | (intro e; subst e) | intro _)); exact ra1 (x2, (ea, ec)) rfl
          · refine hv 2 fun x2 => ?_
            refine tks [5] 5 ?_; (repeat' (first | refine sts ?_ | refine And.intro ?_ ?_ | (intro e; exfalso; omega) | (intro e; subst e) | intro _)); refine hv0 6 fun _ => ?_; refine tks [7] 3 ?_; (repeat' (first | refine sts ?_ | refine And.intro ?_ ?_ | (intro e; exfalso; omega) | (intro e; subst e) | intro _)); refine hv0 8 fun _ => ?_; refine tks [9] 1 ?_; (repeat' (first | refine sts ?_ | refine And.intro ?_ ?_ | (intro e; exfalso; omega) | (intro e; subst e) | intro _)); refine hv0 10 fun _ => ?_; (repeat' (first | refine sts ?_ | refine And.intro ?_ ?_ | (intro e; exfalso; omega) | (intro e; subst e) | intro _)); exact ra1 (x2, (ea, ec)) rfl
        · refine hvr 1 ?_ (hq := by exact lpQ)
          refine hv 2 fun x2 => ?_
          refine tks [5] 5 ?_; (repeat' (first | refine sts ?_ | refine And.intro ?_ ?_ | (intro e; exfalso; omega) | (intro e; subst e) | intro _)); refine hv0 6 fun _ => ?_; refine tks [7] 3 ?_; (repeat' (first | refine sts ?_ | refine And.intro ?_ ?_ | (intro e; exfalso; omega) | (intro e; subst e) | intro _)); refine hv0 8 fun _ => ?_; refine tks [9] 1 ?_; (repeat' (first | refine sts ?_ | refine And.intro ?_ ?_ | (intro e; exfalso; omega) | (intro e; subst e) | intro _)); refine hv0 10 fun _ => ?_; (repeat' (first | refine sts ?_ | refine And.intro ?_ ?_ | (intro e; exfalso; omega) | (intro e; subst e) | intro _)); exact ra1 (x2, (ea, ec)) rfl
      · refine hvr 1 ?_ (hq := by exact lpQ)
        refine hv 4 fun x4 => ?_
        refine tks [5, 6, 7, 8] 1 ?_; repeat' (first | refine sts ?_ | refine And.intro ?_ ?_ | (intro e; exfalso; omega) | (intro e; subst e) | intro _)
        refine hv0 9 fun _ => ?_
        refine sts ?_; refine sts ?_; refine sts ?_; refine sts ?_; (repeat' (first | ((fail_if_success (refine atD ?_)); refine sts ?_) | refine And.intro ?_ ?_ | (intro e; exfalso; omega) | (intro e; subst e) | intro _))
        refine drx [obj b2 36 _] ?_
        refine tks [0, 3] 9 ?_; repeat' (first | refine sts ?_ | refine And.intro ?_ ?_ | (intro e; exfalso; omega) | (intro e; subst e) | intro _)
        refine hvB 1 4 (fun _ => ?_) (fun _ => ?_) (hq1 := by exact lpN) (hq2 := by exact lpN)
        · refine hvB 2 4 (fun x2 => ?_) (fun _ => ?_) (hq2 := by exact lpN)
          · refine hvr 4 ?_ (hq := by exact lpQ)
            refine tks [5] 5 ?_; (repeat' (first | refine sts ?_ | refine And.intro ?_ ?_ | (intro e; exfalso; omega) | (intro e; subst e) | intro _)); refine hv0 6 fun _ => ?_; refine tks [7] 3 ?_; (repeat' (first | refine sts ?_ | refine And.intro ?_ ?_ | (intro e; exfalso; omega) | (intro e; subst e) | intro _)); refine hv0 8 fun _ => ?_; refine tks [9] 1 ?_; (repeat' (first | refine sts ?_ | refine And.intro ?_ ?_ | (intro e; exfalso; omega) | (intro e; subst e) | intro _)); refine hv0 10 fun _ => ?_; (repeat' (first | refine sts ?_ | refine And.intro ?_ ?_ | (intro e; exfalso; omega) | (intro e; subst e) | intro _)); exact ra1 (x2, (ea, ec)) rfl
          · refine hv 2 fun x2 => ?_
            refine tks [5] 5 ?_; (repeat' (first | refine sts ?_ | refine And.intro ?_ ?_ | (intro e; exfalso; omega) | (intro e; subst e) | intro _)); refine hv0 6 fun _ => ?_; refine tks [7] 3 ?_; (repeat' (first | refine sts ?_ | refine And.intro ?_ ?_ | (intro e; exfalso; omega) | (intro e; subst e) | intro _)); refine hv0 8 fun _ => ?_; refine tks [9] 1 ?_; (repeat' (first | refine sts ?_ | refine And.intro ?_ ?_ | (intro e; exfalso; omega) | (intro e; subst e) | intro _)); refine hv0 10 fun _ => ?_; (repeat' (first | refine sts ?_ | refine And.intro ?_ ?_ | (intro e; exfalso; omega) | (intro e; subst e) | intro _)); exact ra1 (x2, (ea, ec)) rfl
        · refine hvr 1 ?_ (hq := by exact lpQ)
          refine hv 2 fun x2 => ?_
          refine tks [5] 5 ?_; (repeat' (first | refine sts ?_ | refine And.intro ?_ ?_ | (intro e; exfalso; omega) | (intro e; subst e) | intro _)); refine hv0 6 fun _ => ?_; refine tks [7] 3 ?_; (repeat' (first | refine sts ?_ | refine And.intro ?_ ?_ | (intro e; exfalso; omega) | (intro e; subst e) | intro _)); refine hv0 8 fun _ => ?_; refine tks [9] 1 ?_; (repeat' (first | refine sts ?_ | refine And.intro ?_ ?_ | (intro e; exfalso; omega) | (intro e; subst e) | intro _)); refine hv0 10 fun _ => ?_; (repeat' (first | refine sts ?_ | refine And.intro ?_ ?_ | (intro e; exfalso; omega) | (intro e; subst e) | intro _)); exact ra1 (x2, (ea, ec)) rfl
    · obtain ⟨eN, eA⟩ := note_yn (w := w) (ad := ad) hh hr
      rw [eN, eA]
      dsimp only
      repeat' (first | ((fail_if_success (refine atD ?_)); refine sts ?_) | refine And.intro ?_ ?_ | (intro e; exfalso; omega) | (intro e; subst e) | intro _)
      rename_i b2 b4
      refine drx [] ?_
      refine tks [0, 2, 1] 2 ?_; repeat' (first | refine sts ?_ | refine And.intro ?_ ?_ | (intro e; exfalso; omega) | (intro e; subst e) | intro _)
      refine hv 3 fun _ => ?_
      refine hv 4 fun _ => ?_
      rw [hh]
      refine sts ?_; refine sts ?_; refine sts ?_; refine sts ?_; (repeat' (first | ((fail_if_success (refine atD ?_)); refine sts ?_) | refine And.intro ?_ ?_ | (intro e; exfalso; omega) | (intro e; subst e) | intro _))
      refine drx [obj b2 36 _] ?_
      refine tks [0, 2] 8 ?_; repeat' (first | refine sts ?_ | refine And.intro ?_ ?_ | (intro e; exfalso; omega) | (intro e; subst e) | intro _)
      refine hvB 1 3 (fun _ => ?_) (fun _ => ?_) (hq1 := by exact lpN)
      · refine hv 3 fun _ => ?_
        refine hv 4 fun x4 => ?_
        refine tks [5, 6, 7, 8] 1 ?_; repeat' (first | refine sts ?_ | refine And.intro ?_ ?_ | (intro e; exfalso; omega) | (intro e; subst e) | intro _)
        refine hv0 9 fun _ => ?_
        refine sts ?_; refine sts ?_; refine sts ?_; refine sts ?_; (repeat' (first | refine sts ?_ | refine And.intro ?_ ?_ | (intro e; exfalso; omega) | (intro e; subst e) | intro _))
        rw [show (m.req : Int) + 1 = ((m.req + 1 : Nat) : Int) from rfl]
        exact ra1 (x4, (fa, fc)) rfl
      · refine hvr 1 ?_ (hq := by exact lpQ)
        refine hv 4 fun x4 => ?_
        refine tks [5, 6, 7, 8] 1 ?_; repeat' (first | refine sts ?_ | refine And.intro ?_ ?_ | (intro e; exfalso; omega) | (intro e; subst e) | intro _)
        refine hv0 9 fun _ => ?_
        refine sts ?_; refine sts ?_; refine sts ?_; refine sts ?_; (repeat' (first | refine sts ?_ | refine And.intro ?_ ?_ | (intro e; exfalso; omega) | (intro e; subst e) | intro _))
        rw [show (m.req : Int) + 1 = ((m.req + 1 : Nat) : Int) from rfl]
        exact ra1 (x4, (fa, fc)) rfl
  | false =>
    by_cases hr : m.req + 1 = 10 * size
    · obtain ⟨eN, eA⟩ := note_nh (w := w) (ad := ad) hh hr
      rw [eN, eA, o4]
      dsimp only
      rw [show ((0 : Nat) : Int) = 0 from rfl]
      repeat' (first | ((fail_if_success (refine atD ?_)); refine sts ?_) | refine And.intro ?_ ?_ | (intro e; exfalso; omega) | (intro e; subst e) | intro _)
      rename_i b2 b4
      refine drx [] ?_
      refine tks [0, 2, 1] 2 ?_; repeat' (first | refine sts ?_ | refine And.intro ?_ ?_ | (intro e; exfalso; omega) | (intro e; subst e) | intro _)
      refine hv 3 fun _ => ?_
      refine hv 4 fun _ => ?_
      rw [hh]
      refine sts ?_; refine sts ?_; refine sts ?_; refine sts ?_; (repeat' (first | ((fail_if_success (refine atD ?_)); refine sts ?_) | refine And.intro ?_ ?_ | (intro e; exfalso; omega) | (intro e; subst e) | intro _))
      refine drx [obj b2 36 _] ?_
      refine tks [0, 2] 8 ?_; repeat' (first | refine sts ?_ | refine And.intro ?_ ?_ | (intro e; exfalso; omega) | (intro e; subst e) | intro _)
      refine hvB 1 3 (fun _ => ?_) (fun _ => ?_) (hq1 := by exact lpN)
      · refine hv 3 fun _ => ?_
        refine hv 4 fun x4 => ?_
        refine tks [5, 6, 7, 8] 1 ?_; repeat' (first | refine sts ?_ | refine And.intro ?_ ?_ | (intro e; exfalso; omega) | (intro e; subst e) | intro _)
        refine hv0 9 fun _ => ?_
        refine sts ?_; refine sts ?_; refine sts ?_; refine sts ?_; (repeat' (first | ((fail_if_success (refine atD ?_)); refine sts ?_) | refine And.intro ?_ ?_ | (intro e; exfalso; omega) | (intro e; subst e) | intro _))
        refine drx [obj b2 36 _] ?_
        refine tks [0, 3] 9 ?_; repeat' (first | refine sts ?_ | refine And.intro ?_ ?_ | (intro e; exfalso; omega) | (intro e; subst e) | intro _)
        refine hvB 1 4 (fun _ => ?_) (fun _ => ?_) (hq1 := by exact lpN) (hq2 := by exact lpN)
        · refine hvB 2 4 (fun x2 => ?_) (fun _ => ?_) (hq2 := by exact lpN)
          · refine hvr 4 ?_ (hq := by exact lpQ)
            refine tks [5] 5 ?_; (repeat' (first | refine sts ?_ | refine And.intro ?_ ?_ | (intro e; exfalso; omega) | (intro e; subst e) | intro _)); refine hv0 6 fun _ => ?_; refine tks [7] 3 ?_; (repeat' (first | refine sts ?_ | refine And.intro ?_ ?_ | (intro e; exfalso; omega) | (intro e; subst e) | intro _)); refine hv0 8 fun _ => ?_; refine tks [9] 1 ?_; (repeat' (first | refine sts ?_ | refine And.intro ?_ ?_ | (intro e; exfalso; omega) | (intro e; subst e) | intro _)); refine hv0 10 fun _ => ?_; (repeat' (first | refine sts ?_ | refine And.intro ?_ ?_ | (intro e; exfalso; omega) | (intro e; subst e) | intro _)); exact ra1 (x2, (ea, ec)) rfl
          · refine hv 2 fun x2 => ?_
            refine tks [5] 5 ?_; (repeat' (first | refine sts ?_ | refine And.intro ?_ ?_ | (intro e; exfalso; omega) | (intro e; subst e) | intro _)); refine hv0 6 fun _ => ?_; refine tks [7] 3 ?_; (repeat' (first | refine sts ?_ | refine And.intro ?_ ?_ | (intro e; exfalso; omega) | (intro e; subst e) | intro _)); refine hv0 8 fun _ => ?_; refine tks [9] 1 ?_; (repeat' (first | refine sts ?_ | refine And.intro ?_ ?_ | (intro e; exfalso; omega) | (intro e; subst e) | intro _)); refine hv0 10 fun _ => ?_; (repeat' (first | refine sts ?_ | refine And.intro ?_ ?_ | (intro e; exfalso; omega) | (intro e; subst e) | intro _)); exact ra1 (x2, (ea, ec)) rfl
        · refine hvr 1 ?_ (hq := by exact lpQ)
          refine hv 2 fun x2 => ?_
          refine tks [5] 5 ?_; (repeat' (first | refine sts ?_ | refine And.intro ?_ ?_ | (intro e; exfalso; omega) | (intro e; subst e) | intro _)); refine hv0 6 fun _ => ?_; refine tks [7] 3 ?_; (repeat' (first | refine sts ?_ | refine And.intro ?_ ?_ | (intro e; exfalso; omega) | (intro e; subst e) | intro _)); refine hv0 8 fun _ => ?_; refine tks [9] 1 ?_; (repeat' (first | refine sts ?_ | refine And.intro ?_ ?_ | (intro e; exfalso; omega) | (intro e; subst e) | intro _)); refine hv0 10 fun _ => ?_; (repeat' (first | refine sts ?_ | refine And.intro ?_ ?_ | (intro e; exfalso; omega) | (intro e; subst e) | intro _)); exact ra1 (x2, (ea, ec)) rfl
      · refine hvr 1 ?_ (hq := by exact lpQ)
        refine hv 4 fun x4 => ?_
        refine tks [5, 6, 7, 8] 1 ?_; repeat' (first | refine sts ?_ | refine And.intro ?_ ?_ | (intro e; exfalso; omega) | (intro e; subst e) | intro _)
        refine hv0 9 fun _ => ?_
        refine sts ?_; refine sts ?_; refine sts ?_; refine sts ?_; (repeat' (first | ((fail_if_success (refine atD ?_)); refine sts ?_) | refine And.intro ?_ ?_ | (intro e; exfalso; omega) | (intro e; subst e) | intro _))
        refine drx [obj b2 36 _] ?_
        refine tks [0, 3] 9 ?_; repeat' (first | refine sts ?_ | refine And.intro ?_ ?_ | (intro e; exfalso; omega) | (intro e; subst e) | intro _)
        refine hvB 1 4 (fun _ => ?_) (fun _ => ?_) (hq1 := by exact lpN) (hq2 := by exact lpN)
        · refine hvB 2 4 (fun x2 => ?_) (fun _ => ?_) (hq2 := by exact lpN)
          · refine hvr 4 ?_ (hq := by exact lpQ)
            refine tks [5] 5 ?_; (repeat' (first | refine sts ?_ | refine And.intro ?_ ?_ | (intro e; exfalso; omega) | (intro e; subst e) | intro _)); refine hv0 6 fun _ => ?_; refine tks [7] 3 ?_; (repeat' (first | refine sts ?_ | refine And.intro ?_ ?_ | (intro e; exfalso; omega) | (intro e; subst e) | intro _)); refine hv0 8 fun _ => ?_; refine tks [9] 1 ?_; (repeat' (first | refine sts ?_ | refine And.intro ?_ ?_ | (intro e; exfalso; omega) | (intro e; subst e) | intro _)); refine hv0 10 fun _ => ?_; (repeat' (first | refine sts ?_ | refine And.intro ?_ ?_ | (intro e; exfalso; omega) | (intro e; subst e) | intro _)); exact ra1 (x2, (ea, ec)) rfl
          · refine hv 2 fun x2 => ?_
            refine tks [5] 5 ?_; (repeat' (first | refine sts ?_ | refine And.intro ?_ ?_ | (intro e; exfalso; omega) | (intro e; subst e) | intro _)); refine hv0 6 fun _ => ?_; refine tks [7] 3 ?_; (repeat' (first | refine sts ?_ | refine And.intro ?_ ?_ | (intro e; exfalso; omega) | (intro e; subst e) | intro _)); refine hv0 8 fun _ => ?_; refine tks [9] 1 ?_; (repeat' (first | refine sts ?_ | refine And.intro ?_ ?_ | (intro e; exfalso; omega) | (intro e; subst e) | intro _)); refine hv0 10 fun _ => ?_; (repeat' (first | refine sts ?_ | refine And.intro ?_ ?_ | (intro e; exfalso; omega) | (intro e; subst e) | intro _)); exact ra1 (x2, (ea, ec)) rfl
        · refine hvr 1 ?_ (hq := by exact lpQ)
          refine hv 2 fun x2 => ?_
          refine tks [5] 5 ?_; (repeat' (first | refine sts ?_ | refine And.intro ?_ ?_ | (intro e; exfalso; omega) | (intro e; subst e) | intro _)); refine hv0 6 fun _ => ?_; refine tks [7] 3 ?_; (repeat' (first | refine sts ?_ | refine And.intro ?_ ?_ | (intro e; exfalso; omega) | (intro e; subst e) | intro _)); refine hv0 8 fun _ => ?_; refine tks [9] 1 ?_; (repeat' (first | refine sts ?_ | refine And.intro ?_ ?_ | (intro e; exfalso; omega) | (intro e; subst e) | intro _)); refine hv0 10 fun _ => ?_; (repeat' (first | refine sts ?_ | refine And.intro ?_ ?_ | (intro e; exfalso; omega) | (intro e; subst e) | intro _)); exact ra1 (x2, (ea, ec)) rfl
    · obtain ⟨eN, eA⟩ := note_nn (w := w) (ad := ad) hh hr
      rw [eN, eA]
      dsimp only
      repeat' (first | ((fail_if_success (refine atD ?_)); refine sts ?_) | refine And.intro ?_ ?_ | (intro e; exfalso; omega) | (intro e; subst e) | intro _)
      rename_i b2 b4
      refine drx [] ?_
      refine tks [0, 2, 1] 2 ?_; repeat' (first | refine sts ?_ | refine And.intro ?_ ?_ | (intro e; exfalso; omega) | (intro e; subst e) | intro _)
      refine hv 3 fun _ => ?_
      refine hv 4 fun _ => ?_
      rw [hh]
      refine sts ?_; refine sts ?_; refine sts ?_; refine sts ?_; (repeat' (first | ((fail_if_success (refine atD ?_)); refine sts ?_) | refine And.intro ?_ ?_ | (intro e; exfalso; omega) | (intro e; subst e) | intro _))
      refine drx [obj b2 36 _] ?_
      refine tks [0, 2] 8 ?_; repeat' (first | refine sts ?_ | refine And.intro ?_ ?_ | (intro e; exfalso; omega) | (intro e; subst e) | intro _)
      refine hvB 1 3 (fun _ => ?_) (fun _ => ?_) (hq1 := by exact lpN)
      · refine hv 3 fun _ => ?_
        refine hv 4 fun x4 => ?_
        refine tks [5, 6, 7, 8] 1 ?_; repeat' (first | refine sts ?_ | refine And.intro ?_ ?_ | (intro e; exfalso; omega) | (intro e; subst e) | intro _)
        refine hv0 9 fun _ => ?_
        refine sts ?_; refine sts ?_; refine sts ?_; refine sts ?_; (repeat' (first | refine sts ?_ | refine And.intro ?_ ?_ | (intro e; exfalso; omega) | (intro e; subst e) | intro _))
        rw [show (m.req : Int) + 1 = ((m.req + 1 : Nat) : Int) from rfl]
        exact ra1 (((a0, k0), (a1, k1), (a2, k2), a3, k3), (x4.1, x4.2)) rfl
      · refine hvr 1 ?_ (hq := by exact lpQ)
        refine hv 4 fun x4 => ?_
        refine tks [5, 6, 7, 8] 1 ?_; repeat' (first | refine sts ?_ | refine And.intro ?_ ?_ | (intro e; exfalso; omega) | (intro e; subst e) | intro _)
        refine hv0 9 fun _ => ?_
        refine sts ?_; refine sts ?_; refine sts ?_; refine sts ?_; (repeat' (first | refine sts ?_ | refine And.intro ?_ ?_ | (intro e; exfalso; omega) | (intro e; subst e) | intro _))
        rw [show (m.req : Int) + 1 = ((m.req + 1 : Nat) : Int) from rfl]
        exact ra1 (((a0, k0), (a1, k1), (a2, k2), a3, k3), (x4.1, x4.2)) rfl⟩
end Go.Proofs.YtdpiglociolagaaGreat
