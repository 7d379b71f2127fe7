/- TyE: TyW16, TyW17, TyW18, TyBack, TyW19, TyW20, TyG. -/
import Derived.Test.YtdpiglociolagaaGreatTyD
import Derived.Test.YtdpiglociolagaaGreatSlD
import Derived.Test.YtdpiglociolagaaGreatSlRev
import Derived.Test.YtdpiglociolagaaGreatGhA
import Derived.Test.YtdpiglociolagaaGreatSlTypes
import Derived.Test.YtdpiglociolagaaGreatSlEnd2
/- tiny, walked: requests. -/
namespace Go.Ty
open Go.Lk Go.Sl Go.Lr Go.Proofs.YtdpiglociolagaaGreat
theorem mid_req {m : Mem} {w : Nat} {h : BitVec 64} : (m.mid w h).req = m.req := by
  unfold Mem.mid
  by_cases e : hasB m.b h = true
  · rw [if_pos e]
  · rw [if_neg e]
theorem note_lt {m : Mem} {mst w : Nat} {h : BitVec 64} (hm : m.req < mst) : (m.note mst w h).req < mst := by
  unfold Mem.note
  by_cases e : (m.mid w h).req + 1 = mst
  · rw [if_pos e]; show 0 < mst; omega
  · rw [if_neg e]
    show (m.mid w h).req + 1 < mst
    have := mid_req (m := m) (w := w) (h := h)
    omega
theorem lru_newT {L : List Nat} {z : Nat} (h : z ∉ L) (h2 : z < 4194304) : Lr.addE L z = 0 ∧ Lr.addL L z = L ++ [z] := by
  have h3 : Lr.addE L z = 0 := by unfold Lr.addE; rw [if_neg (by omega), if_neg h]
  exact ⟨h3, Lr.addL_ok h3⟩
theorem lru_inT {L : List Nat} {z : Nat} (h : z ∈ L) (h2 : z < 4194304) : Lr.remE L z = 0 ∧ Lr.useL L z = L.erase z ++ [z] := by
  refine ⟨?_, if_pos h⟩
  unfold Lr.remE
  rw [if_neg (by omega), if_pos h]
end Go.Ty
namespace Go.Proofs.YtdpiglociolagaaGreat
open Go.Lk Go.Sl Go.Tb Go.Lr Go.Ty
attribute [local irreducible] TK TL TC Th Bk Nx fnPost WA TQ OpQ OpN SpecH Rd Ent IterH RoundH Rb Rp fnPostM
attribute [local irreducible] Lr.remE Lr.addE Lr.addL Lr.useL Ty.ones Ty.Mem.guess Ty.Mem.note
instance ty_zero : Known Tryz.prog 25 (∀ (p size : Nat) (v1 v2 v3 v4 v5 v6 v7 v8 v9 v10 : Value), 1 ≤ size → SpecH Tryz.prog 25 #[.pointer (some ⟨p, 0, none⟩)] [obj p 76 [.int .i64 (size : Nat), v1, v2, v3, v4, v5, v6, v7, v8, v9, v10]] (fun _ : Unit => .bool false) (fun _ => [obj p 76 [.int .i64 (size : Nat), v1, v2, v3, v4, v5, v6, v7, v8, v9, v10]])) := ⟨fun p size v1 v2 v3 v4 v5 v6 v7 v8 v9 v10 h => by
  refine spec_of Tryz.func25 rfl Tryz.ntmps25 rfl [(0, _)] rfl ?_; intro base F l0 hl0; (try simp only [List.cons_append] at hl0); (try simp only [List.nil_append] at hl0); subst hl0
  repeat' (first | refine sts ?_ | refine And.intro ?_ ?_ | (intro e; exfalso; omega) | (intro e; subst e) | intro _)
  exact rt1 () rfl⟩
set_option maxHeartbeats 8000000 in
instance ty_use : Known Tryz.prog 11 (∀ (p size most lim w : Nat) (seed : BitVec 64) (W A B : List Nat) (m : Mem) (xk : Int) (k : Nat) [NatI xk k], k < 4294967296 → SpecH Tryz.prog 11 #[.pointer (some ⟨p, 0, none⟩), .int .u32 xk] [TinyAt p size most lim w seed W A B m] (fun _ : Unit => .tuple #[.agg #[.bool (useHit W A B k), .bool (useLeft size most W A B k), .int .u32 (useOut size most (fun x => (m.note (10 * size) w (sumB seed (txt k))).guess w (sumB seed (txt x))) W A B k : Nat)], .int .i64 0]) (fun _ => [TinyAt p size most lim w seed (Ty.useW size most lim (fun x => (m.note (10 * size) w (sumB seed (txt k))).guess w (sumB seed (txt x))) W A B k).W (Ty.useW size most lim (fun x => (m.note (10 * size) w (sumB seed (txt k))).guess w (sumB seed (txt x))) W A B k).A (Ty.useW size most lim (fun x => (m.note (10 * size) w (sumB seed (txt k))).guess w (sumB seed (txt x))) W A B k).B (m.note (10 * size) w (sumB seed (txt k)))])) := ⟨fun p size most lim w seed W A B m xk k _ hk => by
  obtain rfl : xk = (k : Int) := NatI.out
  refine spec_of Tryz.func11 rfl Tryz.ntmps11 rfl [(0, _), (1, _)] rfl ?_; intro base F l0 hl0; (try simp only [List.cons_append] at hl0); (try simp only [List.nil_append] at hl0); subst hl0
  refine TinyAt.openC fun kv K fr Lw Lp Lt bm aK cK af cf pw pm sk fl t o hq => ?_
  obtain ⟨o1, o2, o3, o4, o5, o6, o7, o8⟩ := o
  have o : Ty.Ok size most lim W A B := ⟨o1, o2, o3, o4, o5, o6, o7, o8⟩
  have hq' := note_lt (w := w) (h := sumB seed (txt k)) hq
  have lw := t.wlen
  have la := t.alen
  have lb := t.blen
  have hkl := t.tab.kl
  have htot := t.tab.tot
  rw [List.length_append, List.length_append] at htot
  cases hm : mget kv k with
  | some z =>
    obtain ⟨w1, w2, w3, w4, w5, w6⟩ := t.some_of hm
    have hin : k ∈ W ∨ k ∈ A ∨ k ∈ B := w4.imp w1.2 (fun x => x.imp w2.2 w3.2)
    have e1 : useHit W A B k = true := decide_eq_true hin
    have e2 : useLeft size most W A B k = false := if_pos hin
    have e3 : useOut size most (fun x => (m.note (10 * size) w (sumB seed (txt k))).guess w (sumB seed (txt x))) W A B k = 0 := if_pos hin
    rw [e1, e2, e3, show ((0 : Nat) : Int) = 0 from rfl]
    obtain ⟨_, n4, n5, n2, n3⟩ := t.nd
    by_cases hz : z ∈ Lw
    · have e4 : Ty.useW size most lim (fun x => (m.note (10 * size) w (sumB seed (txt k))).guess w (sumB seed (txt x))) W A B k = ⟨k :: W.erase k, A, B⟩ := if_pos (w1.2 hz)
      have hd : decide (z ∈ Lw) = true := decide_eq_true hz
      obtain ⟨e6, e7⟩ := lru_inT hz (by omega)
      rw [e4]
      repeat' (first | refine sts ?_ | refine And.intro ?_ ?_ | (intro e; exfalso; omega) | (intro e; subst e) | intro _)
      · rw [e6, e7]
        exact ra2 () rfl (he := en2 (TinyAt.shutN (nf := fr.length) (t.useW hz w6) (o.useW (w1.2 hz)) hq' rfl rfl))
      · contradiction
    · have hd : decide (z ∈ Lw) = false := decide_eq_false hz
      have hkW : k ∉ W := fun h => hz (w1.1 h)
      have hin2 : k ∈ A ∨ k ∈ B := hin.resolve_left hkW
      have hz2 : z ∈ Lp ∨ z ∈ Lt := w4.resolve_left hz
      have hdj := t.disj.2
      have tu := t.useM hm hz2
      have tl := tu.blen
      obtain ⟨_, l2, _⟩ := Ok.lens hin2 hdj
      by_cases hl : lim < (k :: B.erase k).length
      · have e4 : Ty.useW size most lim (fun x => (m.note (10 * size) w (sumB seed (txt k))).guess w (sumB seed (txt x))) W A B k = ⟨W, (k :: B.erase k).getLastD 0 :: A.erase k, (k :: B.erase k).dropLast⟩ := (if_neg hkW).trans ((if_pos hin2).trans (if_pos hl))
        obtain ⟨y, M, e0⟩ : ∃ y M, Lt.erase z ++ [z] = y :: M := by
          cases h : Lt.erase z ++ [z] with
          | nil => simp at h
          | cons y M => exact ⟨y, M, rfl⟩
        rw [e0] at tu tl
        have us := seg_use1 (lim := lim) (k := z) (by omega) n4 n5 hz2 e0 (by omega)
        rw [e4]
        repeat' (first | refine sts ?_ | refine And.intro ?_ ?_ | (intro e; exfalso; omega) | (intro e; subst e) | intro _)
        · contradiction
        · exact ra2 () rfl (he := en2 (TinyAt.shutN (nf := fr.length) tu.dem.2 (o.useD hin2 hdj) hq' rfl rfl))
      · have e4 : Ty.useW size most lim (fun x => (m.note (10 * size) w (sumB seed (txt k))).guess w (sumB seed (txt x))) W A B k = ⟨W, A.erase k, k :: B.erase k⟩ := (if_neg hkW).trans ((if_pos hin2).trans (if_neg hl))
        have us := seg_use0 (lim := lim) (k := z) (by omega) n4 n5 hz2 (by omega)
        rw [e4]
        repeat' (first | refine sts ?_ | refine And.intro ?_ ?_ | (intro e; exfalso; omega) | (intro e; subst e) | intro _)
        · contradiction
        · exact ra2 () rfl (he := en2 (TinyAt.shutN (nf := fr.length) tu (o.useM hin2 hdj hl) hq' rfl rfl))
  | none =>
    obtain ⟨w1, w2, w3⟩ := t.none_of hm
    have hno : ¬ (k ∈ W ∨ k ∈ A ∨ k ∈ B) := fun h => h.elim w1 (fun h => h.elim w2 w3)
    have hno2 : ¬ (k ∈ A ∨ k ∈ B) := fun h => h.elim w2 w3
    have e1 : useHit W A B k = false := decide_eq_false hno
    rw [e1]
    obtain ⟨r, z, rfl⟩ : ∃ r z, fr = r ++ [z] := by
      rcases List.eq_nil_or_concat fr with h | ⟨r, z, h⟩
      · rw [h] at htot; simp at htot; omega
      · exact ⟨r, z, by rw [h, List.concat_eq_append]⟩
    have hrl : (r ++ [z]).length = r.length + 1 := by simp
    rw [hrl] at htot ⊢
    obtain ⟨d1, d2, d3, d4, d5⟩ := t.addW hm hk
    obtain ⟨e6, e7⟩ := lru_newT d1 (by omega)
    have e8 : (Lr.addL Lw z).length = W.length + 1 := by rw [e7, lw]; simp
    have e8' : (Lw ++ [z]).length = W.length + 1 := by rw [lw]; simp
    have e9 : (k :: W).length = W.length + 1 := rfl
    by_cases hl : (k :: W).length ≤ most
    · have e2 : useLeft size most W A B k = false := (if_neg hno).trans (if_pos hl)
      have e3 : useOut size most (fun x => (m.note (10 * size) w (sumB seed (txt k))).guess w (sumB seed (txt x))) W A B k = 0 := (if_neg hno).trans (if_pos hl)
      have e4 : Ty.useW size most lim (fun x => (m.note (10 * size) w (sumB seed (txt k))).guess w (sumB seed (txt x))) W A B k = ⟨k :: W, A, B⟩ := (if_neg w1).trans ((if_neg hno2).trans (if_pos hl))
      rw [e2, e3, e4, show ((0 : Nat) : Int) = 0 from rfl]
      repeat' (first | ((fail_if_success (refine atD ?_)); refine sts ?_) | refine And.intro ?_ ?_ | (intro e; exfalso; omega) | (intro e; subst e) | intro _)
      rename_i b4
      refine drx [obj b4 47 [.bool false, .bool false, .int .u32 0], obj p 76 [.int .i64 (size : Nat), .int .i64 (most : Nat), .map (some bm), .slice (some ⟨aK, 0, none⟩) (size + 1) cK, .slice af (r.length + 1) cf, .pointer (some ⟨pw, 0, none⟩), .pointer (some ⟨pm, 0, none⟩), .pointer (some ⟨sk, 0, none⟩), .pointer (some ⟨fl, 0, none⟩), .int .i64 ((m.note (10 * size) w (sumB seed (txt k))).req : Nat), .int .i64 (10 * size : Nat)], MapA .u32 (fun n : Nat => .int .u32 (n : Nat)) bm kv, Vec 41 1 (some ⟨aK, 0, none⟩) (size + 1) cK (u32s K), Vec 41 1 af (r.length + 1) cf (u32s (r ++ [z])), LruAt pw Lw] ?_
      refine tks [0, 4, 7, 1, 5, 2, 6] 3 ?_; repeat' (first | refine sts ?_ | refine And.intro ?_ ?_ | (intro e; exfalso; omega) | (intro e; subst e) | intro _)
      refine hvB 3 8 (fun _ => ?_) (fun _ => ?_)
      · refine hv 8 fun _ => ?_
        refine hv 9 fun _ => ?_
        rw [e7]
        repeat' (first | refine sts ?_ | refine And.intro ?_ ?_ | (intro e; exfalso; omega) | (intro e; subst e) | intro _)
        exact ra2 () rfl (he := en2 (TinyAt.shutN (nf := r.length) d5 (o.add hl) hq' rfl rfl))
      · refine hvr 3 ?_
        refine hv 9 fun _ => ?_
        rw [e7]
        repeat' (first | refine sts ?_ | refine And.intro ?_ ?_ | (intro e; exfalso; omega) | (intro e; subst e) | intro _)
        exact ra2 () rfl (he := en2 (TinyAt.shutN (nf := r.length) d5 (o.add hl) hq' rfl rfl))
    · have e2 : useLeft size most W A B k = decide (¬ rooms size most A B) := (if_neg hno).trans (if_neg hl)
      have e3 : useOut size most (fun x => (m.note (10 * size) w (sumB seed (txt k))).guess w (sumB seed (txt x))) W A B k = admO size most (fun x => (m.note (10 * size) w (sumB seed (txt k))).guess w (sumB seed (txt x))) (k :: W) A B := (if_neg hno).trans (if_neg hl)
      have e4 : Ty.useW size most lim (fun x => (m.note (10 * size) w (sumB seed (txt k))).guess w (sumB seed (txt x))) W A B k = admS size most (fun x => (m.note (10 * size) w (sumB seed (txt k))).guess w (sumB seed (txt x))) (k :: W) A B := (if_neg w1).trans ((if_neg hno2).trans (if_neg hl))
      obtain ⟨y, M, e0⟩ : ∃ y M, Lw ++ [z] = y :: M := by
        cases h : Lw ++ [z] with
        | nil => simp at h
        | cons y M => exact ⟨y, M, rfl⟩
      have e10 : Lr.addL Lw z = y :: M := e7.trans e0
      have e11 : (y :: M).length = W.length + 1 := by rw [← e0]; exact e8'
      have o1' := o.one hl
      rw [e0] at d5
      rw [e2, e3, e4]
      repeat' (first | ((fail_if_success (refine atD ?_)); refine sts ?_) | refine And.intro ?_ ?_ | (intro e; exfalso; omega) | (intro e; subst e) | intro _)
      rename_i b4
      refine drx [obj b4 47 [.bool false, .bool false, .int .u32 0], obj p 76 [.int .i64 (size : Nat), .int .i64 (most : Nat), .map (some bm), .slice (some ⟨aK, 0, none⟩) (size + 1) cK, .slice af (r.length + 1) cf, .pointer (some ⟨pw, 0, none⟩), .pointer (some ⟨pm, 0, none⟩), .pointer (some ⟨sk, 0, none⟩), .pointer (some ⟨fl, 0, none⟩), .int .i64 ((m.note (10 * size) w (sumB seed (txt k))).req : Nat), .int .i64 (10 * size : Nat)], MapA .u32 (fun n : Nat => .int .u32 (n : Nat)) bm kv, Vec 41 1 (some ⟨aK, 0, none⟩) (size + 1) cK (u32s K), Vec 41 1 af (r.length + 1) cf (u32s (r ++ [z])), LruAt pw Lw] ?_
      refine tks [0, 4, 7, 1, 5, 2, 6] 3 ?_; repeat' (first | refine sts ?_ | refine And.intro ?_ ?_ | (intro e; exfalso; omega) | (intro e; subst e) | intro _)
      refine hvB 3 8 (fun _ => ?_) (fun _ => ?_)
      · refine hv 8 fun _ => ?_
        refine hv 9 fun _ => ?_
        rw [e10]
        repeat' (first | refine sts ?_ | refine And.intro ?_ ?_ | (intro e; exfalso; omega) | (intro e; subst e) | intro _)
        first | exact ra2 () rfl | exact rt2 () rfl
      · refine hvr 3 ?_
        refine hv 9 fun _ => ?_
        rw [e10]
        repeat' (first | refine sts ?_ | refine And.intro ?_ ?_ | (intro e; exfalso; omega) | (intro e; subst e) | intro _)
        first | exact ra2 () rfl | exact rt2 () rfl⟩
end Go.Proofs.YtdpiglociolagaaGreat

/- tiny, walked: questions; keys that are dropped. -/
namespace Go.Proofs.YtdpiglociolagaaGreat
open Go.Lk Go.Sl Go.Tb Go.Lr Go.Ty
attribute [local irreducible] TK TL TC Th Bk Nx fnPost WA TQ OpQ OpN SpecH Rd Ent IterH RoundH Rb Rp fnPostM
attribute [local irreducible] Lr.remE Lr.addE Lr.addL Lr.useL Ty.ones Ty.Mem.guess Ty.Mem.note
instance ty_has : Known Tryz.prog 13 (∀ (p size most lim w : Nat) (seed : BitVec 64) (W A B : List Nat) (m : Mem) (xk : Int) (k : Nat) [NatI xk k], SpecH Tryz.prog 13 #[.pointer (some ⟨p, 0, none⟩), .int .u32 xk] [TinyAt p size most lim w seed W A B m] (fun _ : Unit => .bool (decide (k ∈ W ∨ k ∈ A ∨ k ∈ B))) (fun _ => [TinyAt p size most lim w seed W A B m])) := ⟨fun p size most lim w seed W A B m xk k _ => by
  obtain rfl : xk = (k : Int) := NatI.out
  refine spec_of Tryz.func13 rfl Tryz.ntmps13 rfl [(0, _), (1, _)] rfl ?_; intro base F l0 hl0; (try simp only [List.cons_append] at hl0); (try simp only [List.nil_append] at hl0); subst hl0
  refine TinyAt.openC fun kv K fr Lw Lp Lt bm aK cK af cf pw pm sk fl t o hq => ?_; obtain ⟨o1, o2, o3, o4, o5, o6, o7, o8⟩ := o; have o : Ty.Ok size most lim W A B := ⟨o1, o2, o3, o4, o5, o6, o7, o8⟩; have hkl := t.tab.kl; have htot := t.tab.tot; rw [List.length_append, List.length_append] at htot
  cases hm : mget kv k with
  | some z =>
    have hin : k ∈ W ∨ k ∈ A ∨ k ∈ B := t.mem_iff.2 (by rw [hm]; rfl)
    rw [decide_eq_true hin]
    repeat' (first | refine sts ?_ | refine And.intro ?_ ?_ | (intro e; exfalso; omega) | (intro e; subst e) | intro _)
    exact rt1 () rfl (he := en2 (TinyAt.shutN (nf := fr.length) t o hq rfl rfl))
  | none =>
    obtain ⟨w1, w2, w3⟩ := t.none_of hm
    rw [decide_eq_false (fun h : k ∈ W ∨ k ∈ A ∨ k ∈ B => h.elim w1 (fun h => h.elim w2 w3))]
    repeat' (first | refine sts ?_ | refine And.intro ?_ ?_ | (intro e; exfalso; omega) | (intro e; subst e) | intro _)
    exact rt1 () rfl (he := en2 (TinyAt.shutN (nf := fr.length) t o hq rfl rfl))⟩
instance ty_len : Known Tryz.prog 15 (∀ (p size most lim w : Nat) (seed : BitVec 64) (W A B : List Nat) (m : Mem), SpecH Tryz.prog 15 #[.pointer (some ⟨p, 0, none⟩)] [TinyAt p size most lim w seed W A B m] (fun _ : Unit => .int .i64 (W.length + A.length + B.length : Nat)) (fun _ => [TinyAt p size most lim w seed W A B m])) := ⟨fun p size most lim w seed W A B m => by
  refine spec_of Tryz.func15 rfl Tryz.ntmps15 rfl [(0, _)] rfl ?_; intro base F l0 hl0; (try simp only [List.cons_append] at hl0); (try simp only [List.nil_append] at hl0); subst hl0
  refine TinyAt.openC fun kv K fr Lw Lp Lt bm aK cK af cf pw pm sk fl t o hq => ?_; obtain ⟨o1, o2, o3, o4, o5, o6, o7, o8⟩ := o; have o : Ty.Ok size most lim W A B := ⟨o1, o2, o3, o4, o5, o6, o7, o8⟩; have hkl := t.tab.kl; have htot := t.tab.tot; rw [List.length_append, List.length_append] at htot
  have hn := t.len
  rw [← hn]
  repeat' (first | refine sts ?_ | refine And.intro ?_ ?_ | (intro e; exfalso; omega) | (intro e; subst e) | intro _)
  exact rt1 () rfl (he := en2 (TinyAt.shutN (nf := fr.length) t o hq rfl rfl))⟩
instance ty_guess : Known Tryz.prog 12 (∀ (p size most lim w : Nat) (seed : BitVec 64) (W A B : List Nat) (m : Mem) (xk : Int) (k : Nat) [NatI xk k], k < 4294967296 → SpecH Tryz.prog 12 #[.pointer (some ⟨p, 0, none⟩), .int .u32 xk] [TinyAt p size most lim w seed W A B m] (fun _ : Unit => .int .i64 (m.guess w (sumB seed (txt k)) : Nat)) (fun _ => [TinyAt p size most lim w seed W A B m])) := ⟨fun p size most lim w seed W A B m xk k _ hk => by
  obtain rfl : xk = (k : Int) := NatI.out
  refine spec_of Tryz.func12 rfl Tryz.ntmps12 rfl [(0, _), (1, _)] rfl ?_; intro base F l0 hl0; (try simp only [List.cons_append] at hl0); (try simp only [List.nil_append] at hl0); subst hl0
  refine TinyAt.openC fun kv K fr Lw Lp Lt bm aK cK af cf pw pm sk fl t o hq => ?_; obtain ⟨o1, o2, o3, o4, o5, o6, o7, o8⟩ := o; have o : Ty.Ok size most lim W A B := ⟨o1, o2, o3, o4, o5, o6, o7, o8⟩; have hkl := t.tab.kl; have htot := t.tab.tot; rw [List.length_append, List.length_append] at htot
  repeat' (first | refine sts ?_ | refine And.intro ?_ ?_ | (intro e; exfalso; omega) | (intro e; subst e) | intro _)
  exact rt1 () rfl (he := en2 (TinyAt.shutN (nf := fr.length) t o hq rfl rfl))⟩
set_option maxHeartbeats 4000000 in
instance ty_drop : Known Tryz.prog 14 (∀ (p size most lim w : Nat) (seed : BitVec 64) (W A B : List Nat) (m : Mem) (xk : Int) (k : Nat) [NatI xk k], SpecH Tryz.prog 14 #[.pointer (some ⟨p, 0, none⟩), .int .u32 xk] [TinyAt p size most lim w seed W A B m] (fun _ : Unit => .tuple #[.bool (decide (k ∈ W ∨ k ∈ A ∨ k ∈ B)), .int .i64 0]) (fun _ => [TinyAt p size most lim w seed (W.erase k) (A.erase k) (B.erase k) m])) := ⟨fun p size most lim w seed W A B m xk k _ => by
  obtain rfl : xk = (k : Int) := NatI.out
  refine spec_of Tryz.func14 rfl Tryz.ntmps14 rfl [(0, _), (1, _)] rfl ?_; intro base F l0 hl0; (try simp only [List.cons_append] at hl0); (try simp only [List.nil_append] at hl0); subst hl0
  refine TinyAt.openC fun kv K fr Lw Lp Lt bm aK cK af cf pw pm sk fl t o hq => ?_; obtain ⟨o1, o2, o3, o4, o5, o6, o7, o8⟩ := o; have o : Ty.Ok size most lim W A B := ⟨o1, o2, o3, o4, o5, o6, o7, o8⟩; have hkl := t.tab.kl; have htot := t.tab.tot; rw [List.length_append, List.length_append] at htot
  cases hm : mget kv k with
  | some z =>
    have hin : k ∈ W ∨ k ∈ A ∨ k ∈ B := t.mem_iff.2 (by rw [hm]; rfl)
    rw [decide_eq_true hin]
    obtain ⟨_, n4, n5, n2, n3⟩ := t.nd
    obtain ⟨_, _, _, _, w5, _⟩ := t.some_of hm
    have rm := seg_rem (lim := lim) (k := z) (Lp := Lp) (Lt := Lt) (by omega) n4 n5
    repeat' (first | refine sts ?_ | refine And.intro ?_ ?_ | (intro e; exfalso; omega) | (intro e; subst e) | intro _)
    exact rt2 () rfl (he := en2 (TinyAt.shutN (nf := fr.length + 1) (t.drop hm) o.drop hq (by simp) rfl))
  | none =>
    obtain ⟨w1, w2, w3⟩ := t.none_of hm
    rw [decide_eq_false (fun h : k ∈ W ∨ k ∈ A ∨ k ∈ B => h.elim w1 (fun h => h.elim w2 w3)), List.erase_of_not_mem w1, List.erase_of_not_mem w2, List.erase_of_not_mem w3]
    repeat' (first | refine sts ?_ | refine And.intro ?_ ?_ | (intro e; exfalso; omega) | (intro e; subst e) | intro _)
    exact rt2 () rfl (he := en2 (TinyAt.shutN (nf := fr.length) t o hq rfl rfl))⟩
end Go.Proofs.YtdpiglociolagaaGreat

/- tiny, walked: a copy. -/
namespace Go.Proofs.YtdpiglociolagaaGreat
open Go.Lk Go.Sl Go.Tb Go.Lr Go.Ty
attribute [local irreducible] TK TL TC Th Bk Nx fnPost WA TQ OpQ OpN SpecH Rd Ent IterH RoundH Rb Rp fnPostM
attribute [local irreducible] Lr.remE Lr.addE Lr.addL Lr.useL Ty.ones Ty.Mem.guess Ty.Mem.note
end Go.Proofs.YtdpiglociolagaaGreat

/- slices.Backward over slots with costs, walked. -/
namespace Go.Ty
open Go.Lk Go.Sl
def backW (ns : List Sg.It) : List (List Value) := (List.range ns.length).map fun j => [.int .i64 (ns.length - 1 - j : Nat), .agg #[.int .u32 ((ns.getD (ns.length - 1 - j) (0, 0)).1 : Nat), .int .i64 ((ns.getD (ns.length - 1 - j) (0, 0)).2 : Nat)]]
theorem backW_len {ns : List Sg.It} : (backW ns).length = ns.length := by simp [backW]
theorem backW_get {ns : List Sg.It} {j : Nat} (h : j < ns.length) : (backW ns)[j]? = some [.int .i64 (ns.length - 1 - j : Nat), .agg #[.int .u32 ((ns.getD (ns.length - 1 - j) (0, 0)).1 : Nat), .int .i64 ((ns.getD (ns.length - 1 - j) (0, 0)).2 : Nat)]] := by simp [backW, h]
def SeqW (c : Nat) (X : List Sg.It) : HP := Exs (ι := Option Addr × Nat) fun q => [cobj c 126 [.slice q.1 X.length q.2], RoS 2 q.1 X.length q.2 (Sg.wc X), fact (X.length ≤ 4194304)]
end Go.Ty
namespace Go.Proofs.YtdpiglociolagaaGreat
open Go.Lk Go.Sl Go.Ty
section
attribute [local irreducible] TK TL TC Th Bk Nx fnPost WA TQ OpQ OpN SpecH Rd Ent IterH RoundH Rb Rp fnPostM
set_option maxHeartbeats 2000000 in
theorem bwdW_spec (c : Nat) (a : Option Addr) (cap : Nat) (ns : List Sg.It) (hns : ns.length ≤ 4194304) :
    IterH Tryz.prog 105 #[.pointer (some ⟨c, 0, none⟩)] (backW ns) [cobj c 126 [.slice a ns.length cap], RoS 2 a ns.length cap (Sg.wc ns)] := by
  unfold IterH
  intro lp rec I B hst hpe hlen hround
  have e : (#[Value.func (.yield lp) #[] #[]] ++ #[Value.pointer (some ⟨c, 0, none⟩)] : Array Value) = #[.func (.yield lp) #[] #[], .pointer (some ⟨c, 0, none⟩)] := rfl
  rw [e]
  have hx : (backW ns).length = ns.length := backW_len
  refine spec_of Tryz.func105 rfl Tryz.ntmps105 rfl [(0, _), (1, _)] rfl ?_; intro base F l0 hl0; (try simp only [List.cons_append] at hl0); (try simp only [List.nil_append] at hl0); subst hl0
  repeat' (first | refine st ?_ | refine And.intro ?_ ?_ | (intro e; subst e) | intro _)
  refine tc_lp [3] (fun e (i : { i : Nat // i ≤ ns.length }) => (3, .int .i64 ((ns.length : Int) - 1 - i.1)) :: e) (fun i => [blk lp (.loop rec), I i.1, cobj c 126 [.slice a ns.length cap], RoS 2 a ns.length cap (Sg.wc ns), F]) (fun i => ns.length - i.1) ⟨0, Nat.zero_le _⟩ ?_ (hs := by
    dsimp only
    rw [show (ns.length : Int) - 1 - ((0 : Nat) : Int) = (ns.length : Int) - 1 by omega]
    (repeat (first | (apply Lps.chg; exact rfl) | fail)); apply Lps.rest; (repeat (first | exact Kept.nil _ | (apply Kept.skip; exact rfl) | (apply Kept.keep; exact rfl) | fail)); done)
  rintro K ⟨i, hi⟩ hK
  dsimp only
  by_cases hlt : i < ns.length
  · refine TC.roAt (by (repeat (first | (with_reducible exact Rem.here _ _) | (with_reducible apply Rem.there) | fail)); done) (by omega) ?_
    rintro b o rfl
    have hg := backW_get hlt
    rw [show (ns.length : Int) - 1 - (i : Int) = ((ns.length - 1 - i : Nat) : Int) by omega]
    have hsz := hlen _ (List.mem_of_getElem? hg)
    have hk : ns.length - 1 - i < ns.length := by omega
    have hr := hround i _ hg
    repeat' (first | refine st ?_ | refine And.intro ?_ ?_ | (intro e; subst e) | intro _)
    refine tl_yield hr (want_none rfl) rfl (by (repeat (first | exact Evs.nil | (apply Evs.cons; exact rfl) | fail)); done) hsz (by (repeat (first | (with_reducible exact Pick.nil _) | (apply Pick.cons; (focus ((repeat (first | (with_reducible exact Rem.here _ _) | (with_reducible apply Rem.there) | fail)); done))) | fail)); done) rfl (Nat.lt_of_ble_eq rfl) ?_
    rintro (_ | cd) l2 rfl
    · simp only [roundL, List.cons_append, List.nil_append]
      repeat' (first | refine st ?_ | refine And.intro ?_ ?_ | (intro e; subst e) | intro _)
      refine hK _ _ ⟨i + 1, by omega⟩ (by dsimp only; omega) ?_ en
      dsimp only
      rw [show (ns.length : Int) - 1 - ((i + 1 : Nat) : Int) = ((ns.length - 1 - i : Nat) : Int) - 1 by omega]
      (repeat (first | exact Sub.nil | (apply Sub.cons; exact rfl))); done
    · simp only [roundL, List.cons_append, List.nil_append]
      repeat' (first | refine st ?_ | refine And.intro ?_ ?_ | (intro e; subst e) | intro _)
      exact rt0 (some (i, cd)) rfl (by simp only [iterL]; (try simp only [List.cons_append, List.nil_append]); repeat (first | (with_reducible exact Ent.refl _) | (with_reducible exact Ent.nil _) | (apply Ent.cons; (focus ((repeat (first | (with_reducible exact Rem.here _ _) | (with_reducible apply Rem.there) | fail)); done)))))
  · have hi' : i = ns.length := by omega
    subst hi'
    repeat' (first | refine st ?_ | refine And.intro ?_ ?_ | (intro e; exfalso; omega) | (intro e; subst e) | intro _)
    exact re0 none rfl (by simp only [iterL, hx]; (try simp only [List.cons_append, List.nil_append]); repeat (first | (with_reducible exact Ent.refl _) | (with_reducible exact Ent.nil _) | (apply Ent.cons; (focus ((repeat (first | (with_reducible exact Rem.here _ _) | (with_reducible apply Rem.there) | fail)); done)))))
end
theorem backW_iter (c : Nat) (ns : List Sg.It) : IterH Tryz.prog 105 #[.pointer (some ⟨c, 0, none⟩)] (backW ns) [SeqW c ns] := by
  unfold IterH
  intro lp rec I B hst hpe hlen hround
  refine spec_open (α := Option (Nat × Code)) (ι := {q : Option Addr × Nat // ns.length ≤ 4194304}) (pre' := fun q => [blk lp (.loop rec), I 0, cobj c 126 [.slice q.1.1 ns.length q.1.2], RoS 2 q.1.1 ns.length q.1.2 (Sg.wc ns)]) (fun h x => ?_) fun q => ?_
  · obtain ⟨q, y⟩ := exs_out (f := fun q : Option Addr × Nat => [cobj c 126 [.slice q.1 ns.length q.2], RoS 2 q.1 ns.length q.2 (Sg.wc ns), fact (ns.length ≤ 4194304)]) (r := [blk lp (.loop rec), I 0]) (by unfold SeqW at x; exact .there _ (.there _ (.here _ _))) x
    have hn : ns.length ≤ 4194304 := (lst_fact (lst_drop (lst_drop y))).1
    refine ⟨⟨q, hn⟩, ?_⟩
    have e : Ent (cobj c 126 [.slice q.1 ns.length q.2] :: RoS 2 q.1 ns.length q.2 (Sg.wc ns) :: fact (ns.length ≤ 4194304) :: [blk lp (.loop rec), I 0]) [blk lp (.loop rec), I 0, cobj c 126 [.slice q.1 ns.length q.2], RoS 2 q.1 ns.length q.2 (Sg.wc ns)] := en
    exact e _ y
  · have h1 := bwdW_spec c q.1.1 q.1.2 ns q.2
    unfold IterH at h1
    refine ⟨_, _, h1 lp rec I B hst hpe hlen hround, fun o => ⟨o, rfl, ?_⟩⟩
    cases o with
    | none =>
      show Ent [blk lp (.loop rec), I (backW ns).length, cobj c 126 [.slice q.1.1 ns.length q.1.2], RoS 2 q.1.1 ns.length q.1.2 (Sg.wc ns)] [blk lp (.loop rec), I (backW ns).length, SeqW c ns]
      unfold SeqW
      refine Ent.cons (.here _ _) (Ent.cons (.here _ _) (Ent.exs q.1 ?_))
      exact Ent.cons (.here _ _) (Ent.cons (.here _ _) (Ent.fact q.2 (Ent.refl _)))
    | some x =>
      show Ent [blk lp (.loop (doneL rec x.2)), B x.1 x.2, cobj c 126 [.slice q.1.1 ns.length q.1.2], RoS 2 q.1.1 ns.length q.1.2 (Sg.wc ns)] [blk lp (.loop (doneL rec x.2)), B x.1 x.2, SeqW c ns]
      unfold SeqW
      refine Ent.cons (.here _ _) (Ent.cons (.here _ _) (Ent.exs q.1 ?_))
      exact Ent.cons (.here _ _) (Ent.cons (.here _ _) (Ent.fact q.2 (Ent.refl _)))
attribute [local irreducible] TK TL TC Th Bk Nx fnPost WA TQ OpQ OpN SpecH Rd Ent IterH RoundH Rb Rp fnPostM
instance fBackwardW : Known Tryz.prog 63 (∀ (a : Option Addr) (m cap : Nat) (ns : List Sg.It), ns.length = m → m ≤ 4194304 → SpecH Tryz.prog 63 #[.slice a m cap] [RoS 2 a m cap (Sg.wc ns)] (fun c : Nat => .func (.func 105) #[] #[.pointer (some ⟨c, 0, none⟩)]) (fun c => [SeqW c ns])) := ⟨fun a m cap ns hl hm => by
  subst hl
  refine spec_of Tryz.func63 rfl Tryz.ntmps63 rfl [(0, _)] rfl ?_; intro base F l0 hl0; (try simp only [List.cons_append] at hl0); (try simp only [List.nil_append] at hl0); subst hl0
  repeat' (first | refine st ?_ | refine And.intro ?_ ?_ | (intro e; subst e) | intro _)
  rename_i b
  refine shr b ?_
  refine rt1 b rfl ?_
  unfold SeqW
  refine Ent.trans (b := cobj b 126 [.slice a ns.length cap] :: RoS 2 a ns.length cap (Sg.wc ns) :: [F]) en ?_
  refine Ent.exs (a, cap) ?_
  exact Ent.cons (.here _ _) (Ent.cons (.here _ _) (Ent.fact hm en))⟩
end Go.Proofs.YtdpiglociolagaaGreat

/- tiny, walked: the keys of a segment; the lists. -/
namespace Go.Ty
open Go.Lk Go.Sl Go.Tb
theorem keysR_get {K L : List Nat} {i : Nat} (h : i < L.length) : (keysR K L).take (i + 1) = (keysR K L).take i ++ [K.getD (L.getD (L.length - 1 - i) 0) 0] := by
  have hl : i < (keysR K L).length := by rw [keysR_len]; exact h
  have e : (keysR K L)[i] = K.getD (L.getD (L.length - 1 - i) 0) 0 := by
    simp only [keysR, List.getElem_reverse, List.getElem_map, List.length_map]
    rw [List.getD_eq_getElem?_getD (l := L), List.getElem?_eq_getElem (by omega)]; rfl
  rw [List.take_succ_eq_append_getElem hl, e]
end Go.Ty
namespace Go.Proofs.YtdpiglociolagaaGreat
open Go.Lk Go.Sl Go.Tb Go.Lr Go.Ty
attribute [local irreducible] TK TL TC Th Bk Nx fnPost WA TQ OpQ OpN SpecH Rd Ent IterH RoundH Rb Rp fnPostM
set_option maxHeartbeats 4000000 in
instance ty_keys : Known Tryz.prog 28 (∀ (p pm lim size aK cK : Nat) (g : Int) (K Lp Lt L : List Nat) (v0 v1 v2 v4 v5 v7 v8 v9 v10 : Value), Sg.ListG g (ones Lp) (ones Lt) (ones L) → K.length = size → size ≤ 1025 → (∀ x ∈ L, x < size) → (∀ k ∈ K, k < 4294967296) → L.length ≤ 1025 → SpecH Tryz.prog 28 #[.pointer (some ⟨p, 0, none⟩), .int .i64 g] [obj p 76 [v0, v1, v2, .slice (some ⟨aK, 0, none⟩) size cK, v4, v5, .pointer (some ⟨pm, 0, none⟩), v7, v8, v9, v10], Vec 41 1 (some ⟨aK, 0, none⟩) size cK (u32s K), Sg.SegAt pm (ones Lp) (ones Lt) (lim : Int)] (fun q : Option Addr × Nat => .slice q.1 L.length q.2) (fun q => [obj p 76 [v0, v1, v2, .slice (some ⟨aK, 0, none⟩) size cK, v4, v5, .pointer (some ⟨pm, 0, none⟩), v7, v8, v9, v10], Vec 41 1 (some ⟨aK, 0, none⟩) size cK (u32s K), Sg.SegAt pm (ones Lp) (ones Lt) (lim : Int), Vec 41 1 q.1 L.length q.2 (u32s (keysR K L))])) := ⟨fun p pm lim size aK cK g K Lp Lt L v0 v1 v2 v4 v5 v7 v8 v9 v10 hg hK hs hL hk hl => by
  have e0 := ones_len (L := L)
  refine spec_of_m Tryz.func28 rfl Tryz.ntmps28 rfl [(0, _), (1, _)] rfl ?_; intro base F l0 hl0; (try simp only [List.cons_append] at hl0); (try simp only [List.nil_append] at hl0); subst hl0
  repeat' (first | refine sts ?_ | refine And.intro ?_ ?_ | (intro e; exfalso; omega) | (intro e; subst e) | intro _)
  rename_i bg bo a8 b8 c
  have hx : (backW (ones L)).length = L.length := by rw [backW_len, e0]
  refine tc_rangeFunc (xs := backW (ones L)) (own := [SeqW c (ones L)]) (R := [Sg.SegAt pm (ones Lp) (ones Lt) (lim : Int), F]) (fun i => Exs (ι := Option Addr × Nat) fun q => [obj bo 27 [.slice q.1 i q.2], Vec 41 1 q.1 i q.2 (u32s ((keysR K L).take i)), obj bg 26 [.pointer (some ⟨p, 0, none⟩)], obj p 76 [v0, v1, v2, .slice (some ⟨aK, 0, none⟩) size cK, v4, v5, .pointer (some ⟨pm, 0, none⟩), v7, v8, v9, v10], Vec 41 1 (some ⟨aK, 0, none⟩) size cK (u32s K)]) (fun _ _ => fact False) (backW_iter c _) rfl (by decide) (by intro a ha; simp only [backW, List.mem_map] at ha; obtain ⟨_, _, rfl⟩ := ha; rfl) ?_ ?_ ?_ ?_
  · refine Ent.trans ?_ (Ent.exs (none, 0) (Ent.refl _))
    show Ent _ [obj bo 27 [.slice none 0 0], Vec 41 1 none 0 0 [], obj bg 26 [.pointer (some ⟨p, 0, none⟩)], obj p 76 [v0, v1, v2, .slice (some ⟨aK, 0, none⟩) size cK, v4, v5, .pointer (some ⟨pm, 0, none⟩), v7, v8, v9, v10], Vec 41 1 (some ⟨aK, 0, none⟩) size cK (u32s K), SeqW c (ones L), Sg.SegAt pm (ones Lp) (ones Lt) (lim : Int), F]
    exact en
  · intro lp rec i a hst hpe ha base F
    have hi : i < L.length := by rw [← hx]; exact (List.getElem?_eq_some_iff.1 ha).1
    have hg2 : (ones L).getD ((ones L).length - 1 - i) (0, 0) = (L.getD (L.length - 1 - i) 0, 1) := by rw [e0]; exact ones_getD (by omega)
    obtain rfl : a = [.int .i64 ((ones L).length - 1 - i : Nat), .agg #[.int .u32 (L.getD (L.length - 1 - i) 0 : Nat), .int .i64 1]] := by rw [backW_get (by rw [e0]; exact hi), hg2] at ha; exact (Option.some.inj ha).symm
    have hlt : L.getD (L.length - 1 - i) 0 < size := hL _ (by rw [List.getD_eq_getElem?_getD, List.getElem?_eq_getElem (by omega)]; exact List.getElem_mem _)
    refine TC.exs (f := fun q : Option Addr × Nat => [obj bo 27 [.slice q.1 i q.2], Vec 41 1 q.1 i q.2 (u32s ((keysR K L).take i)), obj bg 26 [.pointer (some ⟨p, 0, none⟩)], obj p 76 [v0, v1, v2, .slice (some ⟨aK, 0, none⟩) size cK, v4, v5, .pointer (some ⟨pm, 0, none⟩), v7, v8, v9, v10], Vec 41 1 (some ⟨aK, 0, none⟩) size cK (u32s K)]) (by (repeat (first | (with_reducible exact Rem.here _ _) | (with_reducible apply Rem.there) | fail)); done) fun ⟨q1, q2⟩ => ?_
    simp only [List.cons_append, List.nil_append, putsE]
    repeat' (first | refine sts ?_ | refine And.intro ?_ ?_ | (intro e; exfalso; omega) | (intro e; subst e) | intro _)
    refine rb hst ?_
    repeat' (first | ((fail_if_success (refine atD ?_)); refine sts ?_) | refine And.intro ?_ ?_ | (intro e; exfalso; omega) | (intro e; subst e) | intro _)
    refine drx [obj bo 27 [.slice q1 i q2], Vec 41 1 q1 i q2 (u32s ((keysR K L).take i))] ?_
    refine tks [1, 6, 2, 7, 3, 4, 5, 8, 9] 4 ?_; repeat' (first | refine sts ?_ | refine And.intro ?_ ?_ | (intro e; exfalso; omega) | (intro e; subst e) | intro _)
    refine hvq 0 10 fun x10 => ?_
    refine hv 11 fun x11 => ?_
    refine hv0 12 fun x12 => ?_
    repeat' (first | refine sts ?_ | refine And.intro ?_ ?_ | (intro e; exfalso; omega) | (intro e; subst e) | intro _)
    refine rp hst hpe ?_
    refine Ent.trans ?_ (b := Exs (ι := Option Addr × Nat) (fun q => [obj bo 27 [.slice q.1 (i + 1) q.2], Vec 41 1 q.1 (i + 1) q.2 (u32s ((keysR K L).take (i + 1))), obj bg 26 [.pointer (some ⟨p, 0, none⟩)], obj p 76 [v0, v1, v2, .slice (some ⟨aK, 0, none⟩) size cK, v4, v5, .pointer (some ⟨pm, 0, none⟩), v7, v8, v9, v10], Vec 41 1 (some ⟨aK, 0, none⟩) size cK (u32s K)]) :: blk lp (.loop rec) :: [F]) en
    refine Ent.exs (x11.1, x11.2) ?_
    have e : u32s ((keysR K L).take i) ++ [.int .u32 (K.getD (L.getD (L.length - 1 - i) 0) 0 : Nat)] = u32s ((keysR K L).take (i + 1)) := by
      rw [keysR_get hi]; simp [u32s]
    rw [← e]
    exact en
  · intro rb
    rw [hx, show (keysR K L).take L.length = keysR K L by rw [← keysR_len (K := K), List.take_length]]
    simp only [List.cons_append, List.nil_append]
    refine TK.exs (f := fun q : Option Addr × Nat => [obj bo 27 [.slice q.1 L.length q.2], Vec 41 1 q.1 L.length q.2 (u32s (keysR K L)), obj bg 26 [.pointer (some ⟨p, 0, none⟩)], obj p 76 [v0, v1, v2, .slice (some ⟨aK, 0, none⟩) size cK, v4, v5, .pointer (some ⟨pm, 0, none⟩), v7, v8, v9, v10], Vec 41 1 (some ⟨aK, 0, none⟩) size cK (u32s K)]) (by (repeat (first | (with_reducible exact Rem.here _ _) | (with_reducible apply Rem.there) | fail)); done) fun ⟨q1, q2⟩ => ?_
    simp only [List.cons_append, List.nil_append]
    repeat' (first | refine sts ?_ | refine And.intro ?_ ?_ | (intro e; exfalso; omega) | (intro e; subst e) | intro _)
    exact rm1 (q1, q2) rfl
  · intro rb i c
    exact tc_factF⟩
end Go.Proofs.YtdpiglociolagaaGreat

/- tiny, walked: the lists. -/
namespace Go.Sl
section
variable {P : Program} {base : World} {n : Nat} {ds : List Deferred} {env : Env} {l l' : List HP} {F : HP} {fn : Func} {α : Type} {val : α → Value} {post : α → List HP}
theorem tk_retm3 {r1 r2 r3 : ResultVar} {v1 v2 v3 : Value} (hres : fn.results = #[r1, r2, r3]) (hc : Colls ds l l') (h1 : Res P l' env r1 v1) (h2 : Res P l' env r2 v2) (h3 : Res P l' env r3 v3) (x : α) (hx : .tuple #[v1, v2, v3] = val x) (he : Ent l' (post x ++ [F])) : TK base n ds (fnPostM P base fn val post F .ret) env l := fun a w ha hs => by
  show LeavesInM (Fc none) 0 P fn a.tmps _ a.defers .returning w
  rw [ha.defers]
  refine leaves_colls hc hs fun w' hw' => ?_
  have hr := h1.run (a := a) ha hw'
  have hr2 := h2.run (a := a) ha hw'
  have hr3 := h3.run (a := a) ha hw'
  exact ⟨.tuple #[v1, v2, v3], by simp [results_eq, hres, hr, hr2, hr3], x, by rw [hx], hw'.ent he⟩
theorem rmv3 {T T' b t t2 t3 : Nat} {v1 v2 v3 : Value} {rest : List HP} [NAgg P T] (x : α) (hx : .tuple #[v1, v2, v3] = val x) (hres : fn.results = #[.cell t T, .tmp t2, .tmp t3] := by rfl) (hc : Colls ds l l' := by (repeat (first | exact Colls.nil _ | (apply Colls.cons; (focus ((repeat (first | (with_reducible exact Rem.here _ _) | (with_reducible apply Rem.there) | fail)); done))))); done) (hp : look env t = some (.pointer (some ⟨b, 0, none⟩)) := by rfl) (hr : Rem l' (obj b T' [v1]) rest := by (repeat (first | (with_reducible exact Rem.here _ _) | (with_reducible apply Rem.there) | fail)); done) (h2 : look env t2 = some v2 := by rfl) (h3 : look env t3 = some v3 := by rfl) (he : Ent l' (post x ++ [F]) := by (try simp only [List.cons_append, List.nil_append]); (repeat (first | (with_reducible exact Ent.refl _) | (with_reducible exact Ent.nil _) | (apply Ent.fact; (focus (first | assumption | omega | decide | exact rfl | fail))) | (apply Ent.keep; (focus ((repeat (first | (with_reducible exact Rem.here _ _) | (with_reducible apply Rem.there) | fail)); done)); (focus (infer_instance))) | (apply Ent.cons; (focus ((repeat (first | (with_reducible exact Rem.here _ _) | (with_reducible apply Rem.there) | fail)); done))) | exact Ent.refl _ | exact Ent.nil _ | apply Ent.vecNil | apply Ent.roNil | fail)); done) : TK base n ds (fnPostM P base fn val post F .ret) env l := tk_retm3 hres hc (.cell hp (rd_obj hr)) (.tmp h2) (.tmp h3) x hx he
end
end Go.Sl
namespace Go.Ty
open Go.Sl
abbrev S3 := (Option Addr × Nat) × (Option Addr × Nat) × Option Addr × Nat
end Go.Ty
namespace Go.Proofs.YtdpiglociolagaaGreat
open Go.Lk Go.Sl Go.Tb Go.Lr Go.Ty
attribute [local irreducible] TK TL TC Th Bk Nx fnPost WA TQ OpQ OpN SpecH Rd Ent IterH RoundH Rb Rp fnPostM
attribute [local irreducible] Lr.remE Lr.addE Lr.addL Lr.useL Ty.ones Ty.Mem.guess Ty.Mem.note Sl.revI
set_option maxHeartbeats 8000000 in
instance ty_lists : Known Tryz.prog 10 (∀ (p size most lim w : Nat) (seed : BitVec 64) (W A B : List Nat) (m : Mem), SpecH Tryz.prog 10 #[.pointer (some ⟨p, 0, none⟩)] [TinyAt p size most lim w seed W A B m] (fun q : S3 => .tuple #[.slice q.1.1 W.length q.1.2, .slice q.2.1.1 A.length q.2.1.2, .slice q.2.2.1 B.length q.2.2.2]) (fun q => [TinyAt p size most lim w seed W A B m, Vec 41 1 q.1.1 W.length q.1.2 (u32s W), Vec 41 1 q.2.1.1 A.length q.2.1.2 (u32s A), Vec 41 1 q.2.2.1 B.length q.2.2.2 (u32s B)])) := ⟨fun p size most lim w seed W A B m => by
  refine spec_of_m Tryz.func10 rfl Tryz.ntmps10 rfl [(0, _)] rfl ?_; intro base F l0 hl0; (try simp only [List.cons_append] at hl0); (try simp only [List.nil_append] at hl0); subst hl0
  refine TinyAt.openC fun kv K fr Lw Lp Lt bm aK cK af cf pw pm sk fl t o hq => ?_; obtain ⟨o1, o2, o3, o4, o5, o6, o7, o8⟩ := o; have o : Ty.Ok size most lim W A B := ⟨o1, o2, o3, o4, o5, o6, o7, o8⟩; have hkl := t.tab.kl; have htot := t.tab.tot; rw [List.length_append, List.length_append] at htot
  have hw := t.w
  have ha := t.a
  have hb := t.b
  have hwl := t.wlen
  have hal := t.alen
  have hbl := t.blen
  have hLw : ∀ x ∈ Lw, x < size + 1 := fun x hx => t.lt (Go.Tb.Thr.inW hx)
  have hLp : ∀ x ∈ Lp, x < size + 1 := fun x hx => t.lt (Go.Tb.Thr.inP hx)
  have hLt : ∀ x ∈ Lt, x < size + 1 := fun x hx => t.lt (Go.Tb.Thr.inT hx)
  have hk := t.tab.lt
  have g0 : Sg.ListG 0 (ones Lp) (ones Lt) (ones Lp) := ⟨.inl ⟨rfl, rfl⟩⟩
  have g1 : Sg.ListG 1 (ones Lp) (ones Lt) (ones Lt) := ⟨.inr (.inl ⟨rfl, rfl⟩)⟩
  repeat' (first | refine sts ?_ | refine And.intro ?_ ?_ | (intro e; exfalso; omega) | (intro e; subst e) | intro _)
  rename_i bg bo c
  have hx : (u32a Lw).length = Lw.length := by simp [u32a]
  refine tc_rangeFunc (xs := u32a Lw) (own := [SeqC c Lw]) (R := [LruAt pw Lw, MapA .u32 (fun n : Nat => .int .u32 (n : Nat)) bm kv, Vec 41 1 af fr.length cf (u32s fr), Sg.SegAt pm (ones Lp) (ones Lt) (lim : Int), MemX sk fl seed w m, F]) (fun i => Exs (ι := Option Addr × Nat) fun q => [obj bo 27 [.slice q.1 i q.2], Vec 41 1 q.1 i q.2 (u32s ((Lw.take i).map fun n => K.getD n 0)), obj bg 26 [.pointer (some ⟨p, 0, none⟩)], obj p 76 [.int .i64 (size : Nat), .int .i64 (most : Nat), .map (some bm), .slice (some ⟨aK, 0, none⟩) (size + 1) cK, .slice af fr.length cf, .pointer (some ⟨pw, 0, none⟩), .pointer (some ⟨pm, 0, none⟩), .pointer (some ⟨sk, 0, none⟩), .pointer (some ⟨fl, 0, none⟩), .int .i64 (m.req : Nat), .int .i64 (10 * size : Nat)], Vec 41 1 (some ⟨aK, 0, none⟩) (size + 1) cK (u32s K)]) (fun _ _ => fact False) (seq_iter c _) rfl (by decide) (by intro a ha; simp only [u32a, List.mem_map] at ha; obtain ⟨_, _, rfl⟩ := ha; rfl) ?_ ?_ ?_ ?_
  · refine Ent.trans ?_ (Ent.exs (none, 0) (Ent.refl _))
    show Ent _ [obj bo 27 [.slice none 0 0], Vec 41 1 none 0 0 [], obj bg 26 [.pointer (some ⟨p, 0, none⟩)], obj p 76 [.int .i64 (size : Nat), .int .i64 (most : Nat), .map (some bm), .slice (some ⟨aK, 0, none⟩) (size + 1) cK, .slice af fr.length cf, .pointer (some ⟨pw, 0, none⟩), .pointer (some ⟨pm, 0, none⟩), .pointer (some ⟨sk, 0, none⟩), .pointer (some ⟨fl, 0, none⟩), .int .i64 (m.req : Nat), .int .i64 (10 * size : Nat)], Vec 41 1 (some ⟨aK, 0, none⟩) (size + 1) cK (u32s K), SeqC c Lw, LruAt pw Lw, MapA .u32 (fun n : Nat => .int .u32 (n : Nat)) bm kv, Vec 41 1 af fr.length cf (u32s fr), Sg.SegAt pm (ones Lp) (ones Lt) (lim : Int), MemX sk fl seed w m, F]
    exact en
  · intro lp rec i a hst hpe ha base F
    have hi : i < Lw.length := by rw [← hx]; exact (List.getElem?_eq_some_iff.1 ha).1
    obtain rfl : a = [.int .u32 (Lw.getD i 0 : Nat)] := by rw [u32a_get hi] at ha; exact (Option.some.inj ha).symm
    have hlt : Lw.getD i 0 < size + 1 := hLw _ (by rw [List.getD_eq_getElem?_getD, List.getElem?_eq_getElem hi]; exact List.getElem_mem hi)
    refine TC.exs (f := fun q : Option Addr × Nat => [obj bo 27 [.slice q.1 i q.2], Vec 41 1 q.1 i q.2 (u32s ((Lw.take i).map fun n => K.getD n 0)), obj bg 26 [.pointer (some ⟨p, 0, none⟩)], obj p 76 [.int .i64 (size : Nat), .int .i64 (most : Nat), .map (some bm), .slice (some ⟨aK, 0, none⟩) (size + 1) cK, .slice af fr.length cf, .pointer (some ⟨pw, 0, none⟩), .pointer (some ⟨pm, 0, none⟩), .pointer (some ⟨sk, 0, none⟩), .pointer (some ⟨fl, 0, none⟩), .int .i64 (m.req : Nat), .int .i64 (10 * size : Nat)], Vec 41 1 (some ⟨aK, 0, none⟩) (size + 1) cK (u32s K)]) (by (repeat (first | (with_reducible exact Rem.here _ _) | (with_reducible apply Rem.there) | fail)); done) fun ⟨q1, q2⟩ => ?_
    simp only [List.cons_append, List.nil_append, putsE]
    repeat' (first | refine sts ?_ | refine And.intro ?_ ?_ | (intro e; exfalso; omega) | (intro e; subst e) | intro _)
    refine rb hst ?_
    repeat' (first | ((fail_if_success (refine atD ?_)); refine sts ?_) | refine And.intro ?_ ?_ | (intro e; exfalso; omega) | (intro e; subst e) | intro _)
    refine drx [obj bo 27 [.slice q1 i q2], Vec 41 1 q1 i q2 (u32s ((Lw.take i).map fun n => K.getD n 0))] ?_
    refine tks [1, 6, 2, 3, 4, 5, 7, 8] 4 ?_; repeat' (first | refine sts ?_ | refine And.intro ?_ ?_ | (intro e; exfalso; omega) | (intro e; subst e) | intro _)
    refine hvq 0 9 fun x9 => ?_
    refine hv 10 fun x10 => ?_
    refine hv0 11 fun x11 => ?_
    repeat' (first | refine sts ?_ | refine And.intro ?_ ?_ | (intro e; exfalso; omega) | (intro e; subst e) | intro _)
    refine rp hst hpe ?_
    refine Ent.trans ?_ (b := Exs (ι := Option Addr × Nat) (fun q => [obj bo 27 [.slice q.1 (i + 1) q.2], Vec 41 1 q.1 (i + 1) q.2 (u32s ((Lw.take (i + 1)).map fun n => K.getD n 0)), obj bg 26 [.pointer (some ⟨p, 0, none⟩)], obj p 76 [.int .i64 (size : Nat), .int .i64 (most : Nat), .map (some bm), .slice (some ⟨aK, 0, none⟩) (size + 1) cK, .slice af fr.length cf, .pointer (some ⟨pw, 0, none⟩), .pointer (some ⟨pm, 0, none⟩), .pointer (some ⟨sk, 0, none⟩), .pointer (some ⟨fl, 0, none⟩), .int .i64 (m.req : Nat), .int .i64 (10 * size : Nat)], Vec 41 1 (some ⟨aK, 0, none⟩) (size + 1) cK (u32s K)]) :: blk lp (.loop rec) :: [F]) en
    refine Ent.exs (x10.1, x10.2) ?_
    have e : u32s ((Lw.take i).map fun n => K.getD n 0) ++ [.int .u32 (K.getD (Lw.getD i 0) 0 : Nat)] = u32s ((Lw.take (i + 1)).map fun n => K.getD n 0) := by
      rw [List.getD_eq_getElem?_getD (l := Lw), List.getElem?_eq_getElem hi]; simp only [u32s, Option.getD_some, ← List.take_append_getElem hi, List.map_append, List.map_cons, List.map_nil]
    rw [← e]
    exact en
  · intro rb
    rw [hx, List.take_length]
    simp only [List.cons_append, List.nil_append]
    refine TK.exs (f := fun q : Option Addr × Nat => [obj bo 27 [.slice q.1 Lw.length q.2], Vec 41 1 q.1 Lw.length q.2 (u32s (Lw.map fun n => K.getD n 0)), obj bg 26 [.pointer (some ⟨p, 0, none⟩)], obj p 76 [.int .i64 (size : Nat), .int .i64 (most : Nat), .map (some bm), .slice (some ⟨aK, 0, none⟩) (size + 1) cK, .slice af fr.length cf, .pointer (some ⟨pw, 0, none⟩), .pointer (some ⟨pm, 0, none⟩), .pointer (some ⟨sk, 0, none⟩), .pointer (some ⟨fl, 0, none⟩), .int .i64 (m.req : Nat), .int .i64 (10 * size : Nat)], Vec 41 1 (some ⟨aK, 0, none⟩) (size + 1) cK (u32s K)]) (by (repeat (first | (with_reducible exact Rem.here _ _) | (with_reducible apply Rem.there) | fail)); done) fun ⟨q1, q2⟩ => ?_
    simp only [List.cons_append, List.nil_append]
    have hml : Lw.length = (Lw.map fun n => K.getD n 0).length := by simp
    have hrv : (Lw.map fun n => K.getD n 0).reverse = keysR K Lw := rfl
    repeat' (first | ((fail_if_success (refine atD ?_)); refine sts ?_) | refine And.intro ?_ ?_ | (intro e; exfalso; omega) | (intro e; subst e) | intro _)
    rw [hrv, ← hw]
    refine drx [obj bo 27 [.slice q1 Lw.length q2], obj p 76 [.int .i64 (size : Nat), .int .i64 (most : Nat), .map (some bm), .slice (some ⟨aK, 0, none⟩) (size + 1) cK, .slice af fr.length cf, .pointer (some ⟨pw, 0, none⟩), .pointer (some ⟨pm, 0, none⟩), .pointer (some ⟨sk, 0, none⟩), .pointer (some ⟨fl, 0, none⟩), .int .i64 (m.req : Nat), .int .i64 (10 * size : Nat)], Vec 41 1 (some ⟨aK, 0, none⟩) (size + 1) cK (u32s K), Sg.SegAt pm (ones Lp) (ones Lt) (lim : Int)] ?_
    refine tks [1, 3] 6 ?_; repeat' (first | refine sts ?_ | refine And.intro ?_ ?_ | (intro e; exfalso; omega) | (intro e; subst e) | intro _)
    refine hvB 0 2 (fun _ => ?_) (fun x2 => ?_)
    · refine hv 2 fun x2 => ?_
      refine hv 4 fun x4 => ?_
      refine hv0 5 fun _ => ?_; refine tks [6, 7] 0 ?_; (repeat' (first | refine sts ?_ | refine And.intro ?_ ?_ | (intro e; exfalso; omega) | (intro e; subst e) | intro _)); rw [← ha, ← hb, ← hwl, ← hal, ← hbl]; exact rmv3 ((q1, q2), (x2.1, x2.2), x4.1, x4.2) rfl (he := (en2 (TinyAt.shutN (nf := fr.length) t o hq rfl rfl)).trans en)
    · refine hvB 0 4 (fun _ => ?_) (fun x4 => ?_)
      · refine hv 4 fun x4 => ?_
        refine hv0 5 fun _ => ?_; refine tks [6, 7] 0 ?_; (repeat' (first | refine sts ?_ | refine And.intro ?_ ?_ | (intro e; exfalso; omega) | (intro e; subst e) | intro _)); rw [← ha, ← hb, ← hwl, ← hal, ← hbl]; exact rmv3 ((q1, q2), (x2.1, x2.2), x4.1, x4.2) rfl (he := (en2 (TinyAt.shutN (nf := fr.length) t o hq rfl rfl)).trans en)
      · refine hvr 0 ?_
        refine hv0 5 fun _ => ?_; refine tks [6, 7] 0 ?_; (repeat' (first | refine sts ?_ | refine And.intro ?_ ?_ | (intro e; exfalso; omega) | (intro e; subst e) | intro _)); rw [← ha, ← hb, ← hwl, ← hal, ← hbl]; exact rmv3 ((q1, q2), (x2.1, x2.2), x4.1, x4.2) rfl (he := (en2 (TinyAt.shutN (nf := fr.length) t o hq rfl rfl)).trans en)
  · intro rb i c
    exact tc_factF⟩
end Go.Proofs.YtdpiglociolagaaGreat

/- Lists of keys, walked: what the references of lists of keys have in common (Has, Without, Same). -/
namespace Go.Proofs.YtdpiglociolagaaGreat
open Go.Lk Go.Sl Go.Gh
attribute [local irreducible] TK TL TC Th Bk Nx fnPost WA TQ OpQ OpN SpecH Rd Ent IterH RoundH Rb Rp fnPostM
set_option maxHeartbeats 4000000 in
instance rg_same : Known Tryz.prog 54 (∀ (a a2 : Option Addr) (m m2 c c2 : Nat) (cs cs2 : List Value) (xs ys : List Nat), AsU cs xs → AsU cs2 ys → m = xs.length → m2 = ys.length → m ≤ 4194304 → m2 ≤ 4194304 → SpecH Tryz.prog 54 #[.slice a m c, .slice a2 m2 c2] [RoS 1 a m c cs, RoS 1 a2 m2 c2 cs2] (fun _ : Unit => .bool (decide (xs = ys))) (fun _ => [])) := ⟨fun a a2 m m2 c c2 cs cs2 xs ys hcs hcs2 hm hm2 hx hy => by
  subst hm; subst hm2
  rw [hcs.out, hcs2.out]
  refine spec_of Tryz.func54 rfl Tryz.ntmps54 rfl [(0, _), (1, _)] rfl ?_; intro base F l0 hl0; (try simp only [List.cons_append] at hl0); (try simp only [List.nil_append] at hl0); subst hl0
  repeat' (first | refine stm ?_ | refine And.intro ?_ ?_ | (intro e; subst e) | intro _)
  · refine rt1 () ?_
    congr 1; symm; rw [decide_eq_false_iff_not]; rintro rfl; omega
  · have hlen : xs.length = ys.length := by omega
    refine tc_lp (ι := {i : Nat // i ≤ xs.length ∧ ∀ j, j < i → xs.getD j 0 = ys.getD j 0}) [5] (fun e i => (5, .int .i64 i.1) :: e) (fun _ => _) (fun i => xs.length - i.1) ⟨0, by omega, by omega⟩ ?_ (hl := Ent.refl _)
    rintro K ⟨i, hi, he⟩ hK
    dsimp only
    repeat' (first | refine stm ?_ | refine And.intro ?_ ?_ | (intro e; subst e) | intro _)
    · refine rt1 () ?_
      congr 1; symm; rw [decide_eq_false_iff_not]; rintro rfl; omega
    · refine again hK ⟨i + 1, by omega, fun j hj => ?_⟩
      rcases Nat.lt_or_ge j i with x | x
      · exact he j x
      · obtain rfl : j = i := by omega
        omega
    · refine rt1 () ?_
      congr 1; symm; rw [decide_eq_true_iff]
      refine List.ext_getElem hlen fun j h1 h2 => ?_
      have := he j (by omega)
      rw [List.getD_eq_getElem?_getD, List.getD_eq_getElem?_getD, List.getElem?_eq_getElem h1, List.getElem?_eq_getElem h2] at this
      exact this⟩
end Go.Proofs.YtdpiglociolagaaGreat
