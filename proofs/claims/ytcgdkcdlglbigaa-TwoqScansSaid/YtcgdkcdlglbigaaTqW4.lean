/- twoq, walked: requests. -/
import Derived.Test.YtcgdkcdlglbigaaTqW3
namespace Go.Proofs.Ytcgdkcdlglbigaa
open Go.Lk Go.Sl Go.Gh Go.Lr Go.Tb Go.Tq
attribute [local irreducible] TK TL TC Th Bk Nx fnPost WA TQ OpQ OpN SpecH Rd Ent IterH RoundH Rb Rp fnPostM
attribute [local irreducible] Fld.addE Fld.addF Fld.befE Fld.befF Fld.inE Fld.remF Fld.first Fld.last Fld.next Fld.prev Fld.ofR Fld.listOf Fld.joinE Fld.joinF renE renG Fld.at Fld.set Fld.place
attribute [local irreducible] Gh.addL Gh.addV Gh.addB Lr.addL Lr.addE Lr.useL Lr.remE Tq.useS Tq.useL Tq.useO Tq.useH Tq.roomS Tq.roomB Tq.roomO
set_option maxHeartbeats 8000000 in
instance tq_use : Known Try.prog 16 (∀ (p size most gm : Nat) (Q M G : List Nat) (xk : Int) (k : Nat) [NatI xk k], k < 4294967296 → SpecH Try.prog 16 #[.pointer (some ⟨p, 0, none⟩), .int .u32 xk] [TwoqAt p size most gm Q M G] (fun _ : Unit => .tuple #[.agg #[.bool (useH ⟨Q, M, G⟩ k), .bool (useL size ⟨Q, M, G⟩ k), .int .u32 (useO size most ⟨Q, M, G⟩ k : Nat)], .int .i64 0]) (fun _ => [TwoqAt p size most gm (useS size most gm ⟨Q, M, G⟩ k).Q (useS size most gm ⟨Q, M, G⟩ k).M (useS size most gm ⟨Q, M, G⟩ k).G])) := ⟨fun p size most gm Q M G xk k _ hk => by
  obtain rfl : xk = (k : Int) := NatI.out
  refine spec_of Try.func16 rfl Try.ntmps16 rfl [(0, _), (1, _)] rfl ?_; intro base F l0 hl0; (try simp only [List.cons_append] at hl0); (try simp only [List.nil_append] at hl0); subst hl0
  refine TwoqAt.openC fun pq pm pg => ?_
  refine TwoqX.openC fun kv K fr Lq Lm bm aK cK af cf t h1 h2 h3 h4 h5 => ?_
  have hgl := useS_gl (size := size) (most := most) (gm := gm) (s := ⟨Q, M, G⟩) (k := k) h5
  cases hm : mget kv k with
  | some z =>
    obtain ⟨w1, w2, w3, w4, w5⟩ := t.some_of hm
    obtain ⟨e2, e3, e4'⟩ := hit_t (size := size) (most := most) (G := G) w3
    have e4 : ((Tq.useO size most ⟨Q, M, G⟩ k : Nat) : Int) = 0 := by rw [e4']; rfl
    rw [e2, e3, e4]
    by_cases hz : z ∈ Lm
    · have e1 : Tq.useS size most gm ⟨Q, M, G⟩ k = ⟨Q, k :: M.erase k, G⟩ := use_main (w2.2 hz)
      have e5 := lru_in hz
      have hd : decide (z ∈ Lm) = true := decide_eq_true hz
      rw [e1]
      repeat' (first | refine sty ?_ | refine And.intro ?_ ?_ | (intro e; exfalso; omega) | (intro e; subst e) | intro _)
      · rw [e5]
        exact ra2 () rfl (he := (en2 (TwoqX.shut (t.useM hz w5) h1 h2 h3 h4 h5)).trans (en2 TwoqAt.shut))
      · contradiction
    · have hM : k ∉ M := fun h => hz (w2.1 h)
      have hQ : k ∈ Q := w3.resolve_right hM
      have e1 := use_queue (size := size) (most := most) (gm := gm) (G := G) hM hQ
      rw [e1]
      repeat' (first | refine sty ?_ | refine And.intro ?_ ?_ | (intro e; exfalso; omega) | (intro e; subst e) | intro _)
      · contradiction
      · exact ra2 () rfl (he := (en2 (TwoqX.shut t h1 h2 h3 h4 h5)).trans (en2 TwoqAt.shut))
  | none =>
    obtain ⟨w1, w2⟩ := t.none_of hm
    obtain ⟨e2, e3, e4⟩ := hit_f (size := size) (most := most) (G := G) (fun h : k ∈ Q ∨ k ∈ M => h.elim w1 w2)
    rw [e2, e3, e4]
    by_cases hG : k ∈ G
    · have e1 := use_ghost (size := size) (most := most) (gm := gm) w2 w1 hG
      obtain ⟨b1, b2⟩ := roomB_G (size := size) (most := most) (Q := Q) (M := M) (G := G) (G' := G.erase k)
      rw [e1, b1, b2]
      repeat' (first | ((fail_if_success (refine atCall 48 ?_)); refine sty ?_) | refine And.intro ?_ ?_ | (intro e; exfalso; omega) | (intro e; subst e) | intro _)
      · refine TL.ent (en2 (TwoqX.shut (G := G.erase k) t h1 h2 h3 h4 (Nat.le_trans List.erase_sublist.length_le h5))) ?_
        repeat' (first | ((fail_if_success (refine atD ?_)); refine sty ?_) | refine And.intro ?_ ?_ | (intro e; exfalso; omega) | (intro e; subst e) | intro _)
        rename_i b4 _ b11
        refine TwoqX.openC fun kv2 K2 fr2 Lq2 Lm2 bm2 aK2 cK2 af2 cf2 t2 _ _ _ _ g2 => ?_; obtain ⟨hm2, hkl2, r, z, rfl, hz, hrl⟩ := behind t2 t.le h1 w1 w2; rw [show (r ++ [z]).length = r.length + 1 by simp]
        obtain ⟨d1, d2, d3, d4⟩ := t2.addM hm2 hk
        obtain ⟨e6, e7⟩ := lru_new d2 (by omega)
        refine drx [obj b4 33 [.bool false, .bool false, .int .u32 0], obj p 65 [.map (some bm2), .slice (some ⟨aK2, 0, none⟩) size cK2, .slice af2 (r.length + 1) cf2, .int .i64 (size : Nat), .int .i64 (most : Nat), .pointer (some ⟨pq, 0, none⟩), .pointer (some ⟨pm, 0, none⟩), .pointer (some ⟨pg, 0, none⟩)], MapA .u32 (fun n : Nat => .int .u32 (n : Nat)) bm2 kv2, Vec 31 1 (some ⟨aK2, 0, none⟩) size cK2 (u32s K2), Vec 31 1 af2 (r.length + 1) cf2 (u32s (r ++ [z])), LruAt pm Lm2] ?_
        refine tks [0, 1, 2, 5, 3, 4] 4 ?_; repeat' (first | refine sty ?_ | refine And.intro ?_ ?_ | (intro e; exfalso; omega) | (intro e; subst e) | intro _)
        refine hv 6 fun x6 => ?_
        refine hv 7 fun x7 => ?_
        rw [e6, e7]
        refine hv0 8 fun x8 => ?_
        refine tks [9] 0 ?_; repeat' (first | refine sty ?_ | refine And.intro ?_ ?_ | (intro e; exfalso; omega) | (intro e; subst e) | intro _)
        exact ra2 () rfl (he := (en2 (TwoqX.shut d4 h1 h2 h3 h4 g2)).trans (en2 TwoqAt.shut))
      · contradiction
    · have e1 := use_new (size := size) (most := most) (gm := gm) w2 w1 hG
      have e5 : G.erase k = G := List.erase_of_not_mem hG
      rw [e1]
      repeat' (first | ((fail_if_success (refine atCall 48 ?_)); refine sty ?_) | refine And.intro ?_ ?_ | (intro e; exfalso; omega) | (intro e; subst e) | intro _)
      · contradiction
      · rw [e5]
        refine TL.ent (en2 (TwoqX.shut t h1 h2 h3 h4 h5)) ?_
        repeat' (first | ((fail_if_success (refine atD ?_)); refine sty ?_) | refine And.intro ?_ ?_ | (intro e; exfalso; omega) | (intro e; subst e) | intro _)
        rename_i b4 _ b11
        refine TwoqX.openC fun kv2 K2 fr2 Lq2 Lm2 bm2 aK2 cK2 af2 cf2 t2 _ _ _ _ g2 => ?_; obtain ⟨hm2, hkl2, r, z, rfl, hz, hrl⟩ := behind t2 t.le h1 w1 w2; rw [show (r ++ [z]).length = r.length + 1 by simp]
        obtain ⟨d1, d2, d3, d4⟩ := t2.addQ hm2 hk
        obtain ⟨e6, e7⟩ := lru_new d1 (by omega)
        refine drx [obj b4 33 [.bool false, .bool false, .int .u32 0], obj p 65 [.map (some bm2), .slice (some ⟨aK2, 0, none⟩) size cK2, .slice af2 (r.length + 1) cf2, .int .i64 (size : Nat), .int .i64 (most : Nat), .pointer (some ⟨pq, 0, none⟩), .pointer (some ⟨pm, 0, none⟩), .pointer (some ⟨pg, 0, none⟩)], MapA .u32 (fun n : Nat => .int .u32 (n : Nat)) bm2 kv2, Vec 31 1 (some ⟨aK2, 0, none⟩) size cK2 (u32s K2), Vec 31 1 af2 (r.length + 1) cf2 (u32s (r ++ [z])), LruAt pq Lq2] ?_
        refine tks [0, 1, 2, 5, 3, 4] 4 ?_; repeat' (first | refine sty ?_ | refine And.intro ?_ ?_ | (intro e; exfalso; omega) | (intro e; subst e) | intro _)
        refine hv 6 fun x6 => ?_
        refine hv 7 fun x7 => ?_
        rw [e6, e7]
        refine hv0 8 fun x8 => ?_
        refine tks [9] 0 ?_; repeat' (first | refine sty ?_ | refine And.intro ?_ ?_ | (intro e; exfalso; omega) | (intro e; subst e) | intro _)
        exact ra2 () rfl (he := (en2 (TwoqX.shut d4 h1 h2 h3 h4 g2)).trans (en2 TwoqAt.shut))⟩
end Go.Proofs.Ytcgdkcdlglbigaa
