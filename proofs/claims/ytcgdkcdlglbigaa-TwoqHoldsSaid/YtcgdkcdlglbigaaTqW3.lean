/- twoq, walked: room is made; requests. -/
import Derived.Test.YtcgdkcdlglbigaaTqW2
namespace Go.Tq
open Go.Lk Go.Sl Go.Tb
theorem addL_nodup {m k : Nat} {L : List Nat} (h : L.Nodup) : (Gh.addL m L k).Nodup := by
  unfold Gh.addL
  split
  · rw [List.nodup_cons]
    exact ⟨fun hk => (h.mem_erase_iff.1 hk).1 rfl, h.erase k⟩
  · rename_i hk
    have hn : (k :: L).Nodup := List.nodup_cons.2 ⟨hk, h⟩
    split
    · exact hn
    · exact hn.sublist (List.dropLast_sublist _)
/-- There is room behind. -/
theorem roomS_lt {size most gm : Nat} {Q M G : List Nat} (h : Q.length + M.length ≤ size) (h1 : 1 ≤ size) : (roomS size most gm ⟨Q, M, G⟩).Q.length + (roomS size most gm ⟨Q, M, G⟩).M.length < size := by
  unfold roomS
  dsimp only
  split
  · assumption
  · split
    · rename_i h2 h3
      dsimp only
      rw [List.length_dropLast]
      rcases h3 with h3 | h3
      · omega
      · rw [h3] at h2 ⊢; simp only [List.length_nil] at h2 ⊢; omega
    · rename_i h2 h3
      dsimp only
      have : M ≠ [] := fun e => h3 (.inr e)
      have := List.length_pos_iff.2 this
      rw [List.length_dropLast]
      omega
theorem roomS_sub {size most gm : Nat} {Q M G : List Nat} : (∀ k, k ∈ (roomS size most gm ⟨Q, M, G⟩).Q → k ∈ Q) ∧ (∀ k, k ∈ (roomS size most gm ⟨Q, M, G⟩).M → k ∈ M) := by
  unfold roomS
  dsimp only
  split
  · exact ⟨fun _ h => h, fun _ h => h⟩
  · split
    · exact ⟨fun _ h => List.dropLast_subset _ h, fun _ h => h⟩
    · exact ⟨fun _ h => h, fun _ h => List.dropLast_subset _ h⟩
theorem nodup_dropLast {L : List Nat} (h : L.Nodup) : L.dropLast.Nodup := h.sublist (List.dropLast_sublist _)
theorem roomS_ok {size most gm : Nat} {Q M G : List Nat} (o : Ok size gm ⟨Q, M, G⟩) (_h1 : 1 ≤ size) : Ok size gm (roomS size most gm ⟨Q, M, G⟩) := by
  have h2 := o.len
  dsimp only at h2
  unfold roomS
  dsimp only
  split
  · exact o
  · split
    · refine ⟨nodup_dropLast o.qn, o.mn, fun k hk => o.dj k (List.dropLast_subset _ hk), by dsimp only; rw [List.length_dropLast]; omega, addL_nodup o.gn, Gh.addL_len o.gl, fun k hk => o.lt k (hk.imp (fun h => List.dropLast_subset _ h) id)⟩
    · exact ⟨o.qn, nodup_dropLast o.mn, fun k hk h => o.dj k hk (List.dropLast_subset _ h), by dsimp only; rw [List.length_dropLast]; omega, o.gn, o.gl, fun k hk => o.lt k (hk.imp id fun h => List.dropLast_subset _ h)⟩
theorem behind {size most gm k : Nat} {Q M G : List Nat} {kv : List (Nat × Nat)} {K fr Lq Lm : List Nat} (t : Two size (roomS size most gm ⟨Q, M, G⟩).Q (roomS size most gm ⟨Q, M, G⟩).M kv K fr Lq Lm) (h : Q.length + M.length ≤ size) (h1 : 1 ≤ size) (w1 : k ∉ Q) (w2 : k ∉ M) : mget kv k = none ∧ K.length = size ∧ ∃ r z, fr = r ++ [z] ∧ z < size ∧ r.length < size := by
  have hlt := roomS_lt (size := size) (most := most) (gm := gm) (G := G) h h1
  obtain ⟨hs1, hs2⟩ := roomS_sub (size := size) (most := most) (gm := gm) (Q := Q) (M := M) (G := G)
  refine ⟨?_, t.tab.kl, ?_⟩
  · have := t.mem_iff (k := k)
    cases hx : mget kv k with
    | none => rfl
    | some y => exact (this.2 (by rw [hx]; rfl)).elim (fun h => absurd (hs1 k h) w1) (fun h => absurd (hs2 k h) w2)
  · obtain ⟨r, z, rfl, hz⟩ := t.tab.free (by rw [List.length_append, ← t.qlen, ← t.mlen]; exact hlt)
    refine ⟨r, z, rfl, hz, ?_⟩
    have := t.tab.tot
    simp only [List.length_append, List.length_singleton] at this
    omega
end Go.Tq
namespace Go.Proofs.Ytcgdkcdlglbigaa
open Go.Lk Go.Sl Go.Gh Go.Lr Go.Tb Go.Tq
attribute [local irreducible] TK TL TC Th Bk Nx fnPost WA TQ OpQ OpN SpecH Rd Ent IterH RoundH Rb Rp fnPostM
attribute [local irreducible] Fld.addE Fld.addF Fld.befE Fld.befF Fld.inE Fld.remF Fld.first Fld.last Fld.next Fld.prev Fld.ofR Fld.listOf Fld.joinE Fld.joinF renE renG Fld.at Fld.set Fld.place
attribute [local irreducible] Gh.addL Gh.addV Gh.addB Lr.addL Lr.addE Lr.useL Lr.remE
set_option maxHeartbeats 4000000 in
instance tq_evict : Known Try.prog 86 (∀ (p pl size bm aK cK : Nat) (af : Option Addr) (cf z : Nat) (kv : List (Nat × Nat)) (K fr L : List Nat) (v4 v5 v6 v7 : Value), mget kv (K.getD z 0) = some z → z < size → K.length = size → size ≤ 1024 → fr.length ≤ 1024 → K.getD z 0 < 4294967296 → SpecH Try.prog 86 #[.pointer (some ⟨p, 0, none⟩), .pointer (some ⟨pl, 0, none⟩)] [obj p 65 [.map (some bm), .slice (some ⟨aK, 0, none⟩) size cK, .slice af fr.length cf, .int .i64 (size : Nat), v4, v5, v6, v7], MapA .u32 (fun n : Nat => .int .u32 (n : Nat)) bm kv, Vec 31 1 (some ⟨aK, 0, none⟩) size cK (u32s K), Vec 31 1 af fr.length cf (u32s fr), LruAt pl (z :: L)] (fun _ : Option Addr × Nat => .int .u32 (K.getD z 0 : Nat)) (fun q => [obj p 65 [.map (some bm), .slice (some ⟨aK, 0, none⟩) size cK, .slice q.1 (fr.length + 1) q.2, .int .i64 (size : Nat), v4, v5, v6, v7], MapA .u32 (fun n : Nat => .int .u32 (n : Nat)) bm (mdel kv (K.getD z 0)), Vec 31 1 (some ⟨aK, 0, none⟩) size cK (u32s K), Vec 31 1 q.1 (fr.length + 1) q.2 (u32s (fr ++ [z])), LruAt pl L])) := ⟨fun p pl size bm aK cK af cf z kv K fr L v4 v5 v6 v7 hg hz hK hs hf hk => by
  refine spec_of Try.func86 rfl Try.ntmps86 rfl [(0, _), (1, _)] rfl ?_; intro base F l0 hl0; (try simp only [List.cons_append] at hl0); (try simp only [List.nil_append] at hl0); subst hl0
  have e1 : (z :: L).headD 0 = z := rfl
  have e2 : (z :: L).erase z = L := List.erase_cons_head ..
  repeat' (first | refine sty ?_ | refine And.intro ?_ ?_ | (intro e; exfalso; omega) | (intro e; subst e) | intro _)
  rename_i a b
  rw [e1, e2]
  exact rt1 (a, b) rfl⟩
set_option maxHeartbeats 8000000 in
instance tq_room : Known Try.prog 48 (∀ (p pq pm pg size most gm : Nat) (Q M G : List Nat), SpecH Try.prog 48 #[.pointer (some ⟨p, 0, none⟩)] [TwoqX p pq pm pg size most gm Q M G] (fun _ : Unit => .agg #[.bool false, .bool (roomB size ⟨Q, M, G⟩), .int .u32 (roomO size most ⟨Q, M, G⟩ : Nat)]) (fun _ => [TwoqX p pq pm pg size most gm (roomS size most gm ⟨Q, M, G⟩).Q (roomS size most gm ⟨Q, M, G⟩).M (roomS size most gm ⟨Q, M, G⟩).G])) := ⟨fun p pq pm pg size most gm Q M G => by
  refine spec_of Try.func48 rfl Try.ntmps48 rfl [(0, _)] rfl ?_; intro base F l0 hl0; (try simp only [List.cons_append] at hl0); (try simp only [List.nil_append] at hl0); subst hl0
  refine TwoqX.openC fun kv K fr Lq Lm bm aK cK af cf t h1 h2 h3 h4 h5 => ?_
  have hkl := t.tab.kl
  have hlen := t.len
  have hql := t.qlen
  have hml := t.mlen
  have htot := t.tab.tot
  rw [List.length_append] at htot
  by_cases hr : Q.length + M.length < size
  · have e1 : roomS size most gm ⟨Q, M, G⟩ = ⟨Q, M, G⟩ := if_pos hr
    have e2 : roomB size ⟨Q, M, G⟩ = false := decide_eq_false (by dsimp only; omega)
    have e3 : ((roomO size most ⟨Q, M, G⟩ : Nat) : Int) = 0 := by rw [show roomO size most ⟨Q, M, G⟩ = 0 from if_pos hr]; rfl
    rw [e1, e2, e3]
    repeat' (first | ((fail_if_success (refine atD ?_)); refine sty ?_) | refine And.intro ?_ ?_ | (intro e; exfalso; omega) | (intro e; subst e) | intro _)
    refine drx [] ?_
    refine tks [0, 2, 3, 4, 5] 3 ?_; repeat' (first | refine sty ?_ | refine And.intro ?_ ?_ | (intro e; exfalso; omega) | (intro e; subst e) | intro _)
    refine hv 1 fun x1 => ?_
    refine tks [6, 7] 0 ?_; repeat' (first | refine sty ?_ | refine And.intro ?_ ?_ | (intro e; exfalso; omega) | (intro e; subst e) | intro _)
    exact ra1 () rfl (he := en2 (TwoqX.shut t h1 h2 h3 h4 h5))
  · have e2 : roomB size ⟨Q, M, G⟩ = true := decide_eq_true (by dsimp only; omega)
    by_cases hq : most < Q.length ∨ M = []
    · have e1 : roomS size most gm ⟨Q, M, G⟩ = ⟨Q.dropLast, M, Gh.addL gm G (Q.getLastD 0)⟩ := by unfold roomS; rw [if_neg hr, if_pos hq]
      have e3 : roomO size most ⟨Q, M, G⟩ = Q.getLastD 0 := by unfold roomO; rw [if_neg hr, if_pos hq]
      have hLq : Lq ≠ [] := fun e => by
        rw [e] at hql
        simp only [List.length_nil] at hql
        rcases hq with hq | hq
        · omega
        · rw [hq] at hr; simp only [List.length_nil] at hr; omega
      obtain ⟨z, Lq, rfl⟩ := List.exists_cons_of_ne_nil hLq
      obtain ⟨w1, w2, w3, w4, w5⟩ := t.evictQ
      have hkk := t.tab.klt w3
      have hgl := Gh.addL_len (k := Q.getLastD 0) h5
      have hM : M = [] ↔ Lm.length = 0 := by rw [← hml]; exact List.length_eq_zero_iff.symm
      rw [e1, e2, e3, ← w1]
      rw [← w1] at hgl
      rw [hM] at hq
      rcases Nat.lt_or_ge most Q.length with hx | hx
      · clear hq
        (repeat' (first | ((fail_if_success (refine atD ?_)); refine sty ?_) | refine And.intro ?_ ?_ | (intro e; exfalso; omega) | (intro e; subst e) | intro _)); refine drx [] ?_; refine tks [0, 2, 3, 4, 5] 3 ?_; (repeat' (first | refine sty ?_ | refine And.intro ?_ ?_ | (intro e; exfalso; omega) | (intro e; subst e) | intro _)); refine hv 1 fun x1 => ?_; refine tks [6, 7] 0 ?_; (repeat' (first | ((fail_if_success (refine atD ?_)); refine sty ?_) | refine And.intro ?_ ?_ | (intro e; exfalso; omega) | (intro e; subst e) | intro _)); refine drx [] ?_; refine tks [0, 5, 1, 6, 2, 7, 3, 8] 11 ?_; (repeat' (first | refine sty ?_ | refine And.intro ?_ ?_ | (intro e; exfalso; omega) | (intro e; subst e) | intro _)); refine hv 4 fun x4 => ?_; refine tks [9, 10, 11, 12, 13, 14] 4 ?_; (repeat' (first | refine sty ?_ | refine And.intro ?_ ?_ | (intro e; exfalso; omega) | (intro e; subst e) | intro _))
        refine hvs 15 ?_
        refine tks [16, 17, 18] 0 ?_; (repeat' (first | refine sty ?_ | refine And.intro ?_ ?_ | (intro e; exfalso; omega) | (intro e; subst e) | intro _)); exact ra1 () rfl (he := en2 (TwoqX.shutN (nf := fr.length + 1) w5 h1 h2 h3 h4 hgl (by simp)))
      · replace hq : Lm.length = 0 := by rcases hq with h | h; omega; exact h
        (repeat' (first | ((fail_if_success (refine atD ?_)); refine sty ?_) | refine And.intro ?_ ?_ | (intro e; exfalso; omega) | (intro e; subst e) | intro _)); refine drx [] ?_; refine tks [0, 2, 3, 4, 5] 3 ?_; (repeat' (first | refine sty ?_ | refine And.intro ?_ ?_ | (intro e; exfalso; omega) | (intro e; subst e) | intro _)); refine hv 1 fun x1 => ?_; refine tks [6, 7] 0 ?_; (repeat' (first | ((fail_if_success (refine atD ?_)); refine sty ?_) | refine And.intro ?_ ?_ | (intro e; exfalso; omega) | (intro e; subst e) | intro _)); refine drx [] ?_; refine tks [0, 5, 1, 6, 2, 7, 3, 8] 11 ?_; (repeat' (first | refine sty ?_ | refine And.intro ?_ ?_ | (intro e; exfalso; omega) | (intro e; subst e) | intro _)); refine hv 4 fun x4 => ?_; refine tks [9, 10, 11, 12, 13, 14] 4 ?_; (repeat' (first | refine sty ?_ | refine And.intro ?_ ?_ | (intro e; exfalso; omega) | (intro e; subst e) | intro _))
        refine hv 15 fun x15 => ?_
        refine tks [16, 17, 18] 0 ?_; (repeat' (first | refine sty ?_ | refine And.intro ?_ ?_ | (intro e; exfalso; omega) | (intro e; subst e) | intro _)); exact ra1 () rfl (he := en2 (TwoqX.shutN (nf := fr.length + 1) w5 h1 h2 h3 h4 hgl (by simp)))
    · have e1 : roomS size most gm ⟨Q, M, G⟩ = ⟨Q, M.dropLast, G⟩ := by unfold roomS; rw [if_neg hr, if_neg hq]
      have e3 : roomO size most ⟨Q, M, G⟩ = M.getLastD 0 := by unfold roomO; rw [if_neg hr, if_neg hq]
      have hLm : Lm ≠ [] := fun e => by
        rw [e] at hml
        exact hq (.inr (List.length_eq_zero_iff.1 hml))
      obtain ⟨z, Lm, rfl⟩ := List.exists_cons_of_ne_nil hLm
      obtain ⟨w1, w2, w3, w4, w5⟩ := t.evictM
      have hkk := t.tab.klt w3
      have hx : ¬ most < Q.length := fun h => hq (.inl h)
      have hlm : (z :: Lm).length = Lm.length + 1 := rfl
      rw [e1, e2, e3, ← w1]
      clear hq
      (repeat' (first | ((fail_if_success (refine atD ?_)); refine sty ?_) | refine And.intro ?_ ?_ | (intro e; exfalso; omega) | (intro e; subst e) | intro _)); refine drx [] ?_; refine tks [0, 2, 3, 4, 5] 3 ?_; (repeat' (first | refine sty ?_ | refine And.intro ?_ ?_ | (intro e; exfalso; omega) | (intro e; subst e) | intro _)); refine hv 1 fun x1 => ?_; refine tks [6, 7] 0 ?_; (repeat' (first | ((fail_if_success (refine atD ?_)); refine sty ?_) | refine And.intro ?_ ?_ | (intro e; exfalso; omega) | (intro e; subst e) | intro _)); refine drx [] ?_; refine tks [0, 5, 1, 6, 2, 7, 3, 8] 11 ?_; (repeat' (first | refine sty ?_ | refine And.intro ?_ ?_ | (intro e; exfalso; omega) | (intro e; subst e) | intro _)); refine hv 4 fun x4 => ?_; refine tks [9, 10, 11, 12, 13, 14] 4 ?_; (repeat' (first | refine sty ?_ | refine And.intro ?_ ?_ | (intro e; exfalso; omega) | (intro e; subst e) | intro _))
      refine hv 15 fun x15 => ?_
      refine tks [16, 17, 18] 0 ?_; (repeat' (first | refine sty ?_ | refine And.intro ?_ ?_ | (intro e; exfalso; omega) | (intro e; subst e) | intro _)); exact ra1 () rfl (he := en2 (TwoqX.shutN (nf := fr.length + 1) w5 h1 h2 h3 h4 h5 (by simp)))⟩
end Go.Proofs.Ytcgdkcdlglbigaa
