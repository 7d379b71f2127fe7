/- The reference of twoq, walked: requests. -/
import Derived.Test.YtcgdkcdlglbigaaTqR1
import Derived.Test.YtcgdkcdlglbigaaTqW3
import Derived.Test.YtcgdkcdlglbigaaSlCv
import Derived.Test.YtcgdkcdlglbigaaSlHq
namespace Go.Proofs.Ytcgdkcdlglbigaa
open Go.Lk Go.Sl Go.Gh Go.Tb Go.Tq
attribute [local irreducible] TK TL TC Th Bk Nx fnPost WA TQ OpQ OpN SpecH Rd Ent IterH RoundH Rb Rp fnPostM
attribute [local irreducible] Gh.addL Gh.addV Gh.addB Tq.useS Tq.useL Tq.useO Tq.useH Tq.roomS Tq.roomB Tq.roomO
theorem rt_new_bad (a b c : Int) (h : a < 1 ∨ 1024 < a ∨ b < 1 ∨ a < b ∨ c < 0 ∨ 1024 < c) : SpecH Try.prog 23 #[.int .i64 a, .int .i64 b, .int .i64 c] [] (fun _ : Unit => .tuple #[.agg #[.int .i64 0, .int .i64 0, .slice none 0 0, .slice none 0 0, .int .i64 0, .slice none 0 0], .int .i64 2]) (fun _ => []) := by
  refine spec_of Try.func23 rfl Try.ntmps23 rfl [(0, _), (1, _), (2, _)] rfl ?_; intro base F l0 hl0; (try simp only [List.cons_append] at hl0); (try simp only [List.nil_append] at hl0); subst hl0
  repeat' (first | refine stp ?_ | refine And.intro ?_ ?_ | (intro e; exfalso; omega) | (intro e; subst e) | intro _)
  all_goals exact ra2 () rfl
instance rt_new : Known Try.prog 23 (∀ (a b c : Int), 1 ≤ a → a ≤ 1024 → 1 ≤ b → b ≤ a → 0 ≤ c → c ≤ 1024 → SpecH Try.prog 23 #[.int .i64 a, .int .i64 b, .int .i64 c] [] (fun _ : Unit => .tuple #[.agg #[.int .i64 a, .int .i64 b, .slice none 0 0, .slice none 0 0, .int .i64 c, .slice none 0 0], .int .i64 0]) (fun _ => [])) := ⟨fun a b c h1 h2 h3 h4 h5 h6 => by
  refine spec_of Try.func23 rfl Try.ntmps23 rfl [(0, _), (1, _), (2, _)] rfl ?_; intro base F l0 hl0; (try simp only [List.cons_append] at hl0); (try simp only [List.nil_append] at hl0); subst hl0
  repeat' (first | refine stp ?_ | refine And.intro ?_ ?_ | (intro e; exfalso; omega) | (intro e; subst e) | intro _)
  exact ra2 () rfl⟩
set_option maxHeartbeats 8000000 in
instance rt_room : Known Try.prog 98 (∀ (a1 a2 a3 : Option Addr) (n1 n2 n3 c1 c2 c3 size most gm : Nat) (Q M G : List Nat), n1 = Q.length → n2 = M.length → n3 = G.length → Ok size gm ⟨Q, M, G⟩ → 1 ≤ size → size ≤ 1024 → gm ≤ 1024 → SpecH Try.prog 98 #[.agg #[.int .i64 (size : Nat), .int .i64 (most : Nat), .slice a1 n1 c1, .slice a2 n2 c2, .int .i64 (gm : Nat), .slice a3 n3 c3]] [RoS 1 a1 n1 c1 (u32s Q), RoS 1 a2 n2 c2 (u32s M), RoS 1 a3 n3 c3 (u32s G)] (fun q : S3 => .tuple #[.agg #[.int .i64 (size : Nat), .int .i64 (most : Nat), .slice q.1.1 (roomS size most gm ⟨Q, M, G⟩).Q.length q.1.2, .slice q.2.1.1 (roomS size most gm ⟨Q, M, G⟩).M.length q.2.1.2, .int .i64 (gm : Nat), .slice q.2.2.1 (roomS size most gm ⟨Q, M, G⟩).G.length q.2.2.2], .agg #[.bool false, .bool (roomB size ⟨Q, M, G⟩), .int .u32 (roomO size most ⟨Q, M, G⟩ : Nat)]]) (fun q => [RoS 1 q.1.1 (roomS size most gm ⟨Q, M, G⟩).Q.length q.1.2 (u32s (roomS size most gm ⟨Q, M, G⟩).Q), RoS 1 q.2.1.1 (roomS size most gm ⟨Q, M, G⟩).M.length q.2.1.2 (u32s (roomS size most gm ⟨Q, M, G⟩).M), RoS 1 q.2.2.1 (roomS size most gm ⟨Q, M, G⟩).G.length q.2.2.2 (u32s (roomS size most gm ⟨Q, M, G⟩).G)])) := ⟨fun a1 a2 a3 n1 n2 n3 c1 c2 c3 size most gm Q M G e1 e2 e3 o h1 h2 h3 => by
  subst e1; subst e2; subst e3
  have hlen := o.len
  have hgl := o.gl
  have hqn := o.qn
  have hmn := o.mn
  have hgn := o.gn
  dsimp only at hlen hgl hqn hmn hgn
  refine spec_of Try.func98 rfl Try.ntmps98 rfl [(0, _)] rfl ?_; intro base F l0 hl0; (try simp only [List.cons_append] at hl0); (try simp only [List.nil_append] at hl0); subst hl0
  by_cases hr : Q.length + M.length < size
  · obtain ⟨e4, e5, e6⟩ := room_no (most := most) (gm := gm) (G := G) hr
    rw [e4, e5, e6]
    repeat' (first | refine stp ?_ | refine And.intro ?_ ?_ | (intro e; exfalso; omega) | (intro e; subst e) | intro _)
    rename_i b1 b2 b3
    exact raa ((a1, c1), (a2, c2), a3, c3) rfl
  · by_cases hq : most < Q.length ∨ M = []
    · obtain ⟨e4, e5, e6⟩ := room_q (gm := gm) (G := G) hr hq
      have hQ : Q ≠ [] := room_ne hr hq h1
      have hQl := List.length_pos_iff.2 hQ
      have hlast : Q.getD (Q.length - 1) 0 = Q.getLastD 0 := by rw [List.getLastD_eq_getLast?, List.getLast?_eq_getElem?, List.getD_eq_getElem?_getD]
      have hw : wo Q (Q.getLastD 0) = Q.dropLast := by rw [wo, filter_ne_erase hqn]; exact hqn.erase_last hQ
      have hk : Q.getLastD 0 < 4294967296 := o.lt _ (.inl (by rw [← hlast, List.getD_eq_getElem?_getD, List.getElem?_eq_getElem (by omega)]; exact List.getElem_mem _))
      rw [e4, e5, e6, ← hw, ← hlast]
      rcases Nat.lt_or_ge most Q.length with hx | hx
      · clear hq
        repeat' (first | refine stp ?_ | refine And.intro ?_ ?_ | (intro e; exfalso; omega) | (intro e; subst e) | intro _)
        rename_i b1 b2 b3 qa qc ga gc
        exact raa ((qa, qc), (a2, c2), ga, gc) rfl
      · replace hq : M.length = 0 := by rcases hq with h | h; omega; rw [h]; rfl
        repeat' (first | refine stp ?_ | refine And.intro ?_ ?_ | (intro e; exfalso; omega) | (intro e; subst e) | intro _)
        rename_i b1 b2 b3 qa qc ga gc
        exact raa ((qa, qc), (a2, c2), ga, gc) rfl
    · obtain ⟨e4, e5, e6⟩ := room_m (gm := gm) (G := G) hr hq
      have hM : M ≠ [] := fun e => hq (.inr e)
      have hMl := List.length_pos_iff.2 hM
      have hx : ¬ most < Q.length := fun h => hq (.inl h)
      have hlast : M.getD (M.length - 1) 0 = M.getLastD 0 := by rw [List.getLastD_eq_getLast?, List.getLast?_eq_getElem?, List.getD_eq_getElem?_getD]
      have hw : wo M (M.getLastD 0) = M.dropLast := by rw [wo, filter_ne_erase hmn]; exact hmn.erase_last hM
      have hk : M.getLastD 0 < 4294967296 := o.lt _ (.inr (by rw [← hlast, List.getD_eq_getElem?_getD, List.getElem?_eq_getElem (by omega)]; exact List.getElem_mem _))
      rw [e4, e5, e6, ← hw, ← hlast]
      clear hq
      repeat' (first | refine stp ?_ | refine And.intro ?_ ?_ | (intro e; exfalso; omega) | (intro e; subst e) | intro _)
      rename_i b1 b2 b3 qa qc
      exact raa ((a1, c1), (qa, qc), a3, c3) rfl⟩
/-- Whether a key is in a list. -/
structure MemB (L : List Nat) (k : Nat) (b : Bool) : Prop where
  out : decide (k ∈ L) = b
theorem rt_inB : Known Try.prog 94 (∀ (a : Option Addr) (m c : Nat) (L : List Nat) (xk : Int) (k : Nat) [NatI xk k] (b : Bool), MemB L k b → m = L.length → m ≤ 4194304 → SpecH Try.prog 94 #[.slice a m c, .int .u32 xk] [RoS 1 a m c (u32s L)] (fun _ : Unit => .bool b) (fun _ => [])) := ⟨fun a m c L xk k _ b hb hm hx => by
  have h := rt_in.out a m c L xk k hm hx
  rwa [hb.out] at h⟩
theorem rg_hasB : Known Try.prog 96 (∀ (Z : Int) (a : Option Addr) (m c : Nat) (L : List Nat) (xk : Int) (k : Nat) [NatI xk k] (b : Bool), MemB L k b → m = L.length → m ≤ 4194304 → SpecH Try.prog 96 #[.agg #[.int .i64 Z, .slice a m c], .int .u32 xk] [RoS 1 a m c (u32s L)] (fun _ : Unit => .bool b) (fun _ => [])) := ⟨fun Z a m c L xk k _ b hb hm hx => by
  have h := rg_has.out Z a m c L xk k hm hx
  rwa [hb.out] at h⟩
theorem ok_ghost {size gm k : Nat} {Q M G : List Nat} (o : Ok size gm ⟨Q, M, G⟩) : Ok size gm ⟨Q, M, G.erase k⟩ := ⟨o.qn, o.mn, o.dj, o.len, o.gn.erase k, Nat.le_trans List.erase_sublist.length_le o.gl, o.lt⟩
set_option maxHeartbeats 8000000 in
instance rt_use : Known Try.prog 59 (∀ (a1 a2 a3 : Option Addr) (n1 n2 n3 c1 c2 c3 size most gm : Nat) (Q M G : List Nat) (xk : Int) (k : Nat) [NatI xk k], k < 4294967296 → n1 = Q.length → n2 = M.length → n3 = G.length → Ok size gm ⟨Q, M, G⟩ → 1 ≤ size → size ≤ 1024 → gm ≤ 1024 → SpecH Try.prog 59 #[.agg #[.int .i64 (size : Nat), .int .i64 (most : Nat), .slice a1 n1 c1, .slice a2 n2 c2, .int .i64 (gm : Nat), .slice a3 n3 c3], .int .u32 xk] [RoS 1 a1 n1 c1 (u32s Q), RoS 1 a2 n2 c2 (u32s M), RoS 1 a3 n3 c3 (u32s G)] (fun q : S3 => .tuple #[.agg #[.int .i64 (size : Nat), .int .i64 (most : Nat), .slice q.1.1 (Tq.useS size most gm ⟨Q, M, G⟩ k).Q.length q.1.2, .slice q.2.1.1 (Tq.useS size most gm ⟨Q, M, G⟩ k).M.length q.2.1.2, .int .i64 (gm : Nat), .slice q.2.2.1 (Tq.useS size most gm ⟨Q, M, G⟩ k).G.length q.2.2.2], .agg #[.bool (useH ⟨Q, M, G⟩ k), .bool (Tq.useL size ⟨Q, M, G⟩ k), .int .u32 (useO size most ⟨Q, M, G⟩ k : Nat)]]) (fun q => [RoS 1 q.1.1 (Tq.useS size most gm ⟨Q, M, G⟩ k).Q.length q.1.2 (u32s (Tq.useS size most gm ⟨Q, M, G⟩ k).Q), RoS 1 q.2.1.1 (Tq.useS size most gm ⟨Q, M, G⟩ k).M.length q.2.1.2 (u32s (Tq.useS size most gm ⟨Q, M, G⟩ k).M), RoS 1 q.2.2.1 (Tq.useS size most gm ⟨Q, M, G⟩ k).G.length q.2.2.2 (u32s (Tq.useS size most gm ⟨Q, M, G⟩ k).G)])) := ⟨fun a1 a2 a3 n1 n2 n3 c1 c2 c3 size most gm Q M G xk k _ hk e1 e2 e3 o h1 h2 h3 => by
  obtain rfl : xk = (k : Int) := NatI.out
  subst e1; subst e2; subst e3
  have hlen := o.len
  have hgl := o.gl
  have hqn := o.qn
  have hmn := o.mn
  have hgn := o.gn
  dsimp only at hlen hgl hqn hmn hgn
  refine spec_of Try.func59 rfl Try.ntmps59 rfl [(0, _), (1, _)] rfl ?_; intro base F l0 hl0; (try simp only [List.cons_append] at hl0); (try simp only [List.nil_append] at hl0); subst hl0
  haveI := rt_inB
  haveI := rg_hasB
  by_cases hM : k ∈ M
  · obtain ⟨f1, f2, f3⟩ := hit_t (size := size) (most := most) (G := G) (.inr hM : k ∈ Q ∨ k ∈ M)
    have f3' : ((useO size most ⟨Q, M, G⟩ k : Nat) : Int) = 0 := by rw [f3]; rfl
    have f4 := use_main (size := size) (most := most) (gm := gm) (Q := Q) (G := G) hM
    have hd : MemB M k true := ⟨decide_eq_true hM⟩
    rw [f1, f2, f3', f4]
    repeat' (first | ((fail_if_success (refine atD ?_)); refine stp ?_) | refine And.intro ?_ ?_ | (intro e; exfalso; omega) | (intro e; subst e) | intro _)
    rename_i b1 b2 b3 b4 qa qc
    refine drx [obj b2 27 [.int .i64 0, .int .i64 0, .slice none 0 0, .slice none 0 0, .int .i64 0, .slice none 0 0], obj b3 33 [.bool false, .bool false, .int .u32 0]] ?_; refine tks [0, 1] 2 ?_; (repeat' (first | refine stp ?_ | refine And.intro ?_ ?_ | (intro e; exfalso; omega) | (intro e; subst e) | intro _)); refine hv0 2 fun _ => ?_; refine hv0 3 fun _ => ?_; (repeat' (first | refine stp ?_ | refine And.intro ?_ ?_ | (intro e; exfalso; omega) | (intro e; subst e) | intro _))
    exact raa ((a1, c1), (qa, qc), a3, c3) rfl
  have hd : MemB M k false := ⟨decide_eq_false hM⟩
  by_cases hQ : k ∈ Q
  · obtain ⟨f1, f2, f3⟩ := hit_t (size := size) (most := most) (G := G) (.inl hQ : k ∈ Q ∨ k ∈ M)
    have f3' : ((useO size most ⟨Q, M, G⟩ k : Nat) : Int) = 0 := by rw [f3]; rfl
    have f4 := use_queue (size := size) (most := most) (gm := gm) (G := G) hM hQ
    have hd2 : MemB Q k true := ⟨decide_eq_true hQ⟩
    rw [f1, f2, f3', f4]
    repeat' (first | ((fail_if_success (refine atD ?_)); refine stp ?_) | refine And.intro ?_ ?_ | (intro e; exfalso; omega) | (intro e; subst e) | intro _)
    rename_i b1 b2 b3 b4
    refine drx [obj b2 27 [.int .i64 0, .int .i64 0, .slice none 0 0, .slice none 0 0, .int .i64 0, .slice none 0 0], obj b3 33 [.bool false, .bool false, .int .u32 0]] ?_; refine tks [0, 1] 2 ?_; (repeat' (first | refine stp ?_ | refine And.intro ?_ ?_ | (intro e; exfalso; omega) | (intro e; subst e) | intro _)); refine hv0 2 fun _ => ?_; refine hv0 3 fun _ => ?_; (repeat' (first | refine stp ?_ | refine And.intro ?_ ?_ | (intro e; exfalso; omega) | (intro e; subst e) | intro _))
    exact raa ((a1, c1), (a2, c2), a3, c3) rfl
  have hd2 : MemB Q k false := ⟨decide_eq_false hQ⟩
  obtain ⟨f1, f2, f3⟩ := hit_f (size := size) (most := most) (G := G) (fun h : k ∈ Q ∨ k ∈ M => h.elim hQ hM)
  by_cases hG : k ∈ G
  · have hd3 : MemB G k true := ⟨decide_eq_true hG⟩
    have o' := ok_ghost (k := k) o
    have f4 := use_ghost (size := size) (most := most) (gm := gm) hM hQ hG
    obtain ⟨g1, g2⟩ := roomB_G (size := size) (most := most) (Q := Q) (M := M) (G := G) (G' := G.erase k)
    obtain ⟨s1, s2⟩ := roomS_sub (size := size) (most := most) (gm := gm) (Q := Q) (M := M) (G := G.erase k)
    have r1 := roomS_ok (most := most) o' h1
    have hn : k ∉ (roomS size most gm ⟨Q, M, G.erase k⟩).M := fun h => hM (s2 k h)
    have hn2 := List.erase_of_not_mem hn
    have hn3 := r1.mn
    have hn4 := r1.len
    rw [f1, f2, f3, f4, g1, g2]
    repeat' (first | ((fail_if_success (refine atD ?_)); refine stp ?_) | refine And.intro ?_ ?_ | (intro e; exfalso; omega) | (intro e; subst e) | intro _)
    rename_i b1 b2 b3 b4 ga gc ra rb qa qc
    rw [hn2]
    refine drx [obj b2 27 [.int .i64 0, .int .i64 0, .slice none 0 0, .slice none 0 0, .int .i64 0, .slice none 0 0], obj b3 33 [.bool false, .bool false, .int .u32 0]] ?_; refine tks [0, 1] 2 ?_; (repeat' (first | refine stp ?_ | refine And.intro ?_ ?_ | (intro e; exfalso; omega) | (intro e; subst e) | intro _)); refine hv0 2 fun _ => ?_; refine hv0 3 fun _ => ?_; (repeat' (first | refine stp ?_ | refine And.intro ?_ ?_ | (intro e; exfalso; omega) | (intro e; subst e) | intro _))
    exact raa (ra, (qa, qc), rb.2) rfl
  · have hd3 : MemB G k false := ⟨decide_eq_false hG⟩
    have f4 := use_new (size := size) (most := most) (gm := gm) hM hQ hG
    obtain ⟨s1, s2⟩ := roomS_sub (size := size) (most := most) (gm := gm) (Q := Q) (M := M) (G := G)
    have r1 := roomS_ok (most := most) o h1
    have hn : k ∉ (roomS size most gm ⟨Q, M, G⟩).Q := fun h => hQ (s1 k h)
    have hn2 := List.erase_of_not_mem hn
    have hn3 := r1.qn
    have hn4 := r1.len
    rw [f1, f2, f3, f4]
    repeat' (first | ((fail_if_success (refine atD ?_)); refine stp ?_) | refine And.intro ?_ ?_ | (intro e; exfalso; omega) | (intro e; subst e) | intro _)
    rename_i b1 b2 b3 b4 ra rb qa qc
    rw [hn2]
    refine drx [obj b2 27 [.int .i64 0, .int .i64 0, .slice none 0 0, .slice none 0 0, .int .i64 0, .slice none 0 0], obj b3 33 [.bool false, .bool false, .int .u32 0]] ?_; refine tks [0, 1] 2 ?_; (repeat' (first | refine stp ?_ | refine And.intro ?_ ?_ | (intro e; exfalso; omega) | (intro e; subst e) | intro _)); refine hv0 2 fun _ => ?_; refine hv0 3 fun _ => ?_; (repeat' (first | refine stp ?_ | refine And.intro ?_ ?_ | (intro e; exfalso; omega) | (intro e; subst e) | intro _))
    exact raa ((qa, qc), rb.1, rb.2) rfl⟩
set_option maxHeartbeats 4000000 in
instance rt_drop : Known Try.prog 60 (∀ (a1 a2 a3 : Option Addr) (n1 n2 n3 c1 c2 c3 size most gm : Nat) (Q M G : List Nat) (xk : Int) (k : Nat) [NatI xk k], n1 = Q.length → n2 = M.length → n3 = G.length → Ok size gm ⟨Q, M, G⟩ → 1 ≤ size → size ≤ 1024 → gm ≤ 1024 → SpecH Try.prog 60 #[.agg #[.int .i64 (size : Nat), .int .i64 (most : Nat), .slice a1 n1 c1, .slice a2 n2 c2, .int .i64 (gm : Nat), .slice a3 n3 c3], .int .u32 xk] [RoS 1 a1 n1 c1 (u32s Q), RoS 1 a2 n2 c2 (u32s M), RoS 1 a3 n3 c3 (u32s G)] (fun q : S3 => .tuple #[.agg #[.int .i64 (size : Nat), .int .i64 (most : Nat), .slice q.1.1 (Q.erase k).length q.1.2, .slice q.2.1.1 (M.erase k).length q.2.1.2, .int .i64 (gm : Nat), .slice q.2.2.1 G.length q.2.2.2], .bool (decide (k ∈ Q ∨ k ∈ M))]) (fun q => [RoS 1 q.1.1 (Q.erase k).length q.1.2 (u32s (Q.erase k)), RoS 1 q.2.1.1 (M.erase k).length q.2.1.2 (u32s (M.erase k)), RoS 1 q.2.2.1 G.length q.2.2.2 (u32s G)])) := ⟨fun a1 a2 a3 n1 n2 n3 c1 c2 c3 size most gm Q M G xk k _ e1 e2 e3 o h1 h2 h3 => by
  obtain rfl : xk = (k : Int) := NatI.out
  subst e1; subst e2; subst e3
  have hlen := o.len
  have hw1 : wo Q k = Q.erase k := filter_ne_erase o.qn
  have hw2 : wo M k = M.erase k := filter_ne_erase o.mn
  dsimp only at hlen
  rw [← hw1, ← hw2]
  refine spec_of Try.func60 rfl Try.ntmps60 rfl [(0, _), (1, _)] rfl ?_; intro base F l0 hl0; (try simp only [List.cons_append] at hl0); (try simp only [List.nil_append] at hl0); subst hl0
  repeat' (first | ((fail_if_success (refine atD ?_)); refine stp ?_) | refine And.intro ?_ ?_ | (intro e; exfalso; omega) | (intro e; subst e) | intro _)
  rename_i b1 b2
  refine drx [obj b1 27 [.int .i64 (size : Nat), .int .i64 (most : Nat), .slice a1 Q.length c1, .slice a2 M.length c2, .int .i64 (gm : Nat), .slice a3 G.length c3]] ?_
  refine tks [0, 2, 4, 6] 8 ?_; repeat' (first | refine stp ?_ | refine And.intro ?_ ?_ | (intro e; exfalso; omega) | (intro e; subst e) | intro _)
  refine hvB 1 5 (fun _ => ?_) (fun _ => ?_)
  · refine hvB 3 5 (fun x3 => ?_) (fun _ => ?_)
    · refine hvr 5 ?_
      refine tks [8] 4 ?_; (repeat' (first | refine stp ?_ | refine And.intro ?_ ?_ | (intro e; exfalso; omega) | (intro e; subst e) | intro _)); refine hv 7 fun x7 => ?_; refine hv0 9 fun _ => ?_; refine tks [10] 1 ?_; (repeat' (first | refine stp ?_ | refine And.intro ?_ ?_ | (intro e; exfalso; omega) | (intro e; subst e) | intro _)); refine hv0 11 fun _ => ?_; (repeat' (first | refine stp ?_ | refine And.intro ?_ ?_ | (intro e; exfalso; omega) | (intro e; subst e) | intro _)); exact ra2 ((x3.1, x3.2), (x7.1, x7.2), a3, c3) rfl
    · refine hv 3 fun x3 => ?_
      refine tks [8] 4 ?_; (repeat' (first | refine stp ?_ | refine And.intro ?_ ?_ | (intro e; exfalso; omega) | (intro e; subst e) | intro _)); refine hv 7 fun x7 => ?_; refine hv0 9 fun _ => ?_; refine tks [10] 1 ?_; (repeat' (first | refine stp ?_ | refine And.intro ?_ ?_ | (intro e; exfalso; omega) | (intro e; subst e) | intro _)); refine hv0 11 fun _ => ?_; (repeat' (first | refine stp ?_ | refine And.intro ?_ ?_ | (intro e; exfalso; omega) | (intro e; subst e) | intro _)); exact ra2 ((x3.1, x3.2), (x7.1, x7.2), a3, c3) rfl
  · refine hvr 1 ?_
    refine hv 3 fun x3 => ?_
    refine tks [8] 4 ?_; (repeat' (first | refine stp ?_ | refine And.intro ?_ ?_ | (intro e; exfalso; omega) | (intro e; subst e) | intro _)); refine hv 7 fun x7 => ?_; refine hv0 9 fun _ => ?_; refine tks [10] 1 ?_; (repeat' (first | refine stp ?_ | refine And.intro ?_ ?_ | (intro e; exfalso; omega) | (intro e; subst e) | intro _)); refine hv0 11 fun _ => ?_; (repeat' (first | refine stp ?_ | refine And.intro ?_ ?_ | (intro e; exfalso; omega) | (intro e; subst e) | intro _)); exact ra2 ((x3.1, x3.2), (x7.1, x7.2), a3, c3) rfl⟩
end Go.Proofs.Ytcgdkcdlglbigaa
