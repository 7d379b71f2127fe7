/- twoq, walked: the lists; a copy. -/
import Derived.Test.YtcgdkcdlglbigaaTqW5
import Derived.Test.YtcgdkcdlglbigaaSlD
import Derived.Test.YtcgdkcdlglbigaaGhW4
namespace Go.Sl
open Go.Lk
/-- A list whose first and last 'i' have been exchanged. -/
def revI (L : List Nat) (i : Nat) : List Nat := (List.range L.length).map fun j => if j < i ∨ L.length ≤ j + i then L.getD (L.length - 1 - j) 0 else L.getD j 0
theorem revI_len {L : List Nat} {i : Nat} : (revI L i).length = L.length := by simp [revI]
theorem revI_at {L : List Nat} {i j : Nat} (h : j < L.length) : (revI L i).getD j 0 = if j < i ∨ L.length ≤ j + i then L.getD (L.length - 1 - j) 0 else L.getD j 0 := by
  unfold revI
  rw [List.getD_eq_getElem?_getD, List.getElem?_map, List.getElem?_range h]; rfl
theorem ext_getD {A B : List Nat} (hl : A.length = B.length) (h : ∀ j, j < A.length → A.getD j 0 = B.getD j 0) : A = B := by
  refine List.ext_getElem hl fun j h1 h2 => ?_
  have := h j h1
  rw [List.getD_eq_getElem?_getD, List.getD_eq_getElem?_getD, List.getElem?_eq_getElem h1, List.getElem?_eq_getElem h2] at this
  exact this
theorem revI_zero {L : List Nat} : revI L 0 = L := ext_getD revI_len fun j hj => by
  rw [revI_len] at hj
  rw [revI_at hj, if_neg (by omega)]
theorem revI_all {L : List Nat} {i : Nat} (h : L.length ≤ 2 * i + 1) : revI L i = L.reverse := ext_getD (by rw [revI_len, List.length_reverse]) fun j hj => by
  rw [revI_len] at hj
  rw [revI_at hj]
  have e : L.reverse.getD j 0 = L.getD (L.length - 1 - j) 0 := by
    rw [List.getD_eq_getElem?_getD, List.getD_eq_getElem?_getD, List.getElem?_reverse hj]
  rw [e]
  split
  · rfl
  · have : j = L.length - 1 - j := by omega
    rw [← this]
theorem revI_step {L : List Nat} {i : Nat} (h : 2 * i + 1 < L.length) : ((revI L i).set i ((revI L i).getD (L.length - 1 - i) 0)).set (L.length - 1 - i) ((revI L i).getD i 0) = revI L (i + 1) := by
  have h1 : (revI L i).getD (L.length - 1 - i) 0 = L.getD (L.length - 1 - i) 0 := by rw [revI_at (by omega), if_neg (by omega)]
  have h2 : (revI L i).getD i 0 = L.getD i 0 := by rw [revI_at (by omega), if_neg (by omega)]
  rw [h1, h2]
  refine ext_getD (by simp [revI_len]) fun j hj => ?_
  simp only [List.length_set, revI_len] at hj
  rw [revI_at hj, List.getD_eq_getElem?_getD, List.getElem?_set]
  by_cases e1 : L.length - 1 - i = j
  · rw [if_pos e1, if_pos (by simp [revI_len]; omega), if_pos (by omega), ← e1, show L.length - 1 - (L.length - 1 - i) = i by omega]; rfl
  · rw [if_neg e1, List.getElem?_set]
    by_cases e2 : i = j
    · subst e2
      rw [if_pos rfl, if_pos (by rw [revI_len]; exact hj), if_pos (by omega)]; rfl
    · rw [if_neg e2, ← List.getD_eq_getElem?_getD, revI_at hj]
      by_cases e3 : j < i ∨ L.length ≤ j + i
      · rw [if_pos e3, if_pos (by omega)]
      · rw [if_neg e3, if_neg (by omega)]
end Go.Sl
namespace Go.Proofs.Ytcgdkcdlglbigaa
open Go.Lk Go.Sl Go.Gh Go.Lr Go.Tb Go.Tq
attribute [local irreducible] TK TL TC Th Bk Nx fnPost WA TQ OpQ OpN SpecH Rd Ent IterH RoundH Rb Rp fnPostM
attribute [local irreducible] Fld.addE Fld.addF Fld.befE Fld.befF Fld.inE Fld.remF Fld.first Fld.last Fld.next Fld.prev Fld.ofR Fld.listOf Fld.joinE Fld.joinF renE renG Fld.at Fld.set Fld.place
attribute [local irreducible] Gh.addL Gh.addV Gh.addB Lr.addL Lr.addE Lr.useL Lr.remE Tq.useS Tq.useL Tq.useO Tq.useH Tq.roomS Tq.roomB Tq.roomO Sl.revI
set_option maxHeartbeats 4000000 in
instance reverse_spec : Known Try.prog 90 (∀ (a : Option Addr) (m cap : Nat) (L : List Nat), m = L.length → m ≤ 4194304 → SpecH Try.prog 90 #[.slice a m cap] [Vec 31 1 a m cap (u32s L)] (fun _ : Unit => .tuple #[]) (fun _ => [Vec 31 1 a m cap (u32s L.reverse)])) := ⟨fun a m cap L hm hx => by
  subst hm
  refine spec_of Try.func90 rfl Try.ntmps90 rfl [(0, _)] rfl ?_; intro base F l0 hl0; (try simp only [List.cons_append] at hl0); (try simp only [List.nil_append] at hl0); subst hl0
  repeat' (first | refine sty ?_ | refine And.intro ?_ ?_ | (intro e; exfalso; omega) | (intro e; subst e) | intro _)
  refine tc_lp (ι := {x : Nat × Int // x.1 ≤ L.length ∧ x.2 = (L.length : Nat) - 1 - (x.1 : Nat)}) [2, 3] (fun e x => (2, .int .i64 (x.1.1 : Nat)) :: (3, .int .i64 x.1.2) :: e)
    (fun x => [Vec 31 1 a L.length cap (u32s (revI L x.1.1)), F]) (fun x => L.length - x.1.1) ⟨(0, (L.length : Nat) - 1), by omega, by dsimp only; omega⟩ ?_ (hl := by dsimp only; rw [revI_zero]; exact en)
  rintro K ⟨⟨i, w⟩, hi, hw⟩ hK
  dsimp only at hi hw ⊢
  have hl := revI_len (L := L) (i := i)
  by_cases hc : 2 * i + 1 < L.length
  · obtain rfl : w = ((L.length - 1 - i : Nat) : Int) := by omega
    have e := revI_step hc
    have hl2 : ((revI L i).set i ((revI L i).getD (L.length - 1 - i) 0)).length = L.length := by rw [List.length_set]; exact hl
    refine TC.vecAt (a := a) (by (repeat (first | (with_reducible exact Rem.here _ _) | (with_reducible apply Rem.there) | fail)); done) (by omega) ?_
    rintro ⟨b, rfl⟩
    repeat' (first | ((fail_if_success (refine atD ?_)); refine sty ?_) | refine And.intro ?_ ?_ | (intro e; exfalso; omega) | (intro e; subst e) | intro _)
    refine drx [Vec 31 1 (some ⟨b, 0, none⟩) L.length cap (u32s (revI L i))] ?_
    refine tks [0, 1, 2, 3, 4, 5, 8, 9, 6, 10] 6 ?_; repeat' (first | refine sty ?_ | refine And.intro ?_ ?_ | (intro e; exfalso; omega) | (intro e; subst e) | intro _)
    refine hvqq 7 11 ?_
    refine tks [12] 3 ?_; repeat' (first | refine sty ?_ | refine And.intro ?_ ?_ | (intro e; exfalso; omega) | (intro e; subst e) | intro _)
    refine hv0 13 fun x13 => ?_
    refine tks [14] 1 ?_; repeat' (first | refine sty ?_ | refine And.intro ?_ ?_ | (intro e; exfalso; omega) | (intro e; subst e) | intro _)
    refine hv0 15 fun x15 => ?_
    rw [e]
    repeat' (first | refine sty ?_ | refine And.intro ?_ ?_ | (intro e; exfalso; omega) | (intro e; subst e) | intro _)
    exact again hK ⟨(i + 1, ((L.length - 1 - i : Nat) : Int) - 1), by omega, by dsimp only; omega⟩
  · rw [revI_all (by omega)]
    repeat' (first | refine sty ?_ | refine And.intro ?_ ?_ | (intro e; exfalso; omega) | (intro e; subst e) | intro _)
    exact re0 () rfl⟩
set_option maxHeartbeats 4000000 in
instance tq_keys : Known Try.prog 51 (∀ (p pl size aK cK : Nat) (K L : List Nat) (v0 v2 v3 v4 v5 v6 v7 : Value), K.length = size → size ≤ 1024 → (∀ x ∈ L, x < size) → (∀ k ∈ K, k < 4294967296) → SpecH Try.prog 51 #[.pointer (some ⟨p, 0, none⟩), .pointer (some ⟨pl, 0, none⟩)] [obj p 65 [v0, .slice (some ⟨aK, 0, none⟩) size cK, v2, v3, v4, v5, v6, v7], Vec 31 1 (some ⟨aK, 0, none⟩) size cK (u32s K), LruAt pl L] (fun q : Option Addr × Nat => .slice q.1 L.length q.2) (fun q => [obj p 65 [v0, .slice (some ⟨aK, 0, none⟩) size cK, v2, v3, v4, v5, v6, v7], Vec 31 1 (some ⟨aK, 0, none⟩) size cK (u32s K), LruAt pl L, Vec 31 1 q.1 L.length q.2 (u32s (keysR K L))])) := ⟨fun p pl size aK cK K L v0 v2 v3 v4 v5 v6 v7 hK hs hL hk => by
  refine spec_of_m Try.func51 rfl Try.ntmps51 rfl [(0, _), (1, _)] rfl ?_; intro base F l0 hl0; (try simp only [List.cons_append] at hl0); (try simp only [List.nil_append] at hl0); subst hl0
  refine LruAt.factsC (p := pl) (L := L) fun o1 o2 o3 => ?_
  repeat' (first | refine sty ?_ | refine And.intro ?_ ?_ | (intro e; exfalso; omega) | (intro e; subst e) | intro _)
  rename_i bg bo c
  have hx : (u32a L).length = L.length := by simp [u32a]
  refine tc_rangeFunc (xs := u32a L) (own := [SeqC c L]) (R := [LruAt pl L, F]) (fun i => Exs (ι := Option Addr × Nat) fun q => [obj bo 23 [.slice q.1 i q.2], Vec 31 1 q.1 i q.2 (u32s ((L.take i).map fun n => K.getD n 0)), obj bg 22 [.pointer (some ⟨p, 0, none⟩)], obj p 65 [v0, .slice (some ⟨aK, 0, none⟩) size cK, v2, v3, v4, v5, v6, v7], Vec 31 1 (some ⟨aK, 0, none⟩) size cK (u32s K)]) (fun _ _ => fact False) (seq_iter c _) rfl (by decide) (by intro a ha; simp only [u32a, List.mem_map] at ha; obtain ⟨_, _, rfl⟩ := ha; rfl) ?_ ?_ ?_ ?_
  · refine Ent.trans ?_ (Ent.exs (none, 0) (Ent.refl _))
    show Ent _ [obj bo 23 [.slice none 0 0], Vec 31 1 none 0 0 [], obj bg 22 [.pointer (some ⟨p, 0, none⟩)], obj p 65 [v0, .slice (some ⟨aK, 0, none⟩) size cK, v2, v3, v4, v5, v6, v7], Vec 31 1 (some ⟨aK, 0, none⟩) size cK (u32s K), SeqC c L, LruAt pl L, F]
    exact en
  · intro lp rec i a hst hpe ha base F
    have hi : i < L.length := by rw [← hx]; exact (List.getElem?_eq_some_iff.1 ha).1
    obtain rfl : a = [.int .u32 (L.getD i 0 : Nat)] := by rw [u32a_get hi] at ha; exact (Option.some.inj ha).symm
    have hlt : L.getD i 0 < size := hL _ (by rw [List.getD_eq_getElem?_getD, List.getElem?_eq_getElem hi]; exact List.getElem_mem hi)
    refine TC.exs (f := fun q : Option Addr × Nat => [obj bo 23 [.slice q.1 i q.2], Vec 31 1 q.1 i q.2 (u32s ((L.take i).map fun n => K.getD n 0)), obj bg 22 [.pointer (some ⟨p, 0, none⟩)], obj p 65 [v0, .slice (some ⟨aK, 0, none⟩) size cK, v2, v3, v4, v5, v6, v7], Vec 31 1 (some ⟨aK, 0, none⟩) size cK (u32s K)]) (by (repeat (first | (with_reducible exact Rem.here _ _) | (with_reducible apply Rem.there) | fail)); done) fun ⟨q1, q2⟩ => ?_
    simp only [List.cons_append, List.nil_append, putsE]
    repeat' (first | refine sty ?_ | refine And.intro ?_ ?_ | (intro e; exfalso; omega) | (intro e; subst e) | intro _)
    refine rb hst ?_
    repeat' (first | ((fail_if_success (refine atD ?_)); refine sty ?_) | refine And.intro ?_ ?_ | (intro e; exfalso; omega) | (intro e; subst e) | intro _)
    refine drx [obj bo 23 [.slice q1 i q2], Vec 31 1 q1 i q2 (u32s ((L.take i).map fun n => K.getD n 0))] ?_
    refine tks [1, 6, 2, 3, 4, 5, 7, 8] 4 ?_; repeat' (first | refine sty ?_ | refine And.intro ?_ ?_ | (intro e; exfalso; omega) | (intro e; subst e) | intro _)
    refine hvq 0 9 fun x9 => ?_
    refine hv 10 fun x10 => ?_
    refine hv0 11 fun x11 => ?_
    repeat' (first | refine sty ?_ | refine And.intro ?_ ?_ | (intro e; exfalso; omega) | (intro e; subst e) | intro _)
    refine rp hst hpe ?_
    refine Ent.trans ?_ (b := Exs (ι := Option Addr × Nat) (fun q => [obj bo 23 [.slice q.1 (i + 1) q.2], Vec 31 1 q.1 (i + 1) q.2 (u32s ((L.take (i + 1)).map fun n => K.getD n 0)), obj bg 22 [.pointer (some ⟨p, 0, none⟩)], obj p 65 [v0, .slice (some ⟨aK, 0, none⟩) size cK, v2, v3, v4, v5, v6, v7], Vec 31 1 (some ⟨aK, 0, none⟩) size cK (u32s K)]) :: blk lp (.loop rec) :: [F]) en
    refine Ent.exs (x10.1, x10.2) ?_
    have e : u32s ((L.take i).map fun n => K.getD n 0) ++ [.int .u32 (K.getD (L.getD i 0) 0 : Nat)] = u32s ((L.take (i + 1)).map fun n => K.getD n 0) := by
      rw [List.getD_eq_getElem?_getD (l := L), List.getElem?_eq_getElem hi]; simp only [u32s, Option.getD_some, ← List.take_append_getElem hi, List.map_append, List.map_cons, List.map_nil]
    rw [← e]
    exact en
  · intro rb
    rw [hx, List.take_length]
    simp only [List.cons_append, List.nil_append]
    refine TK.exs (f := fun q : Option Addr × Nat => [obj bo 23 [.slice q.1 L.length q.2], Vec 31 1 q.1 L.length q.2 (u32s (L.map fun n => K.getD n 0)), obj bg 22 [.pointer (some ⟨p, 0, none⟩)], obj p 65 [v0, .slice (some ⟨aK, 0, none⟩) size cK, v2, v3, v4, v5, v6, v7], Vec 31 1 (some ⟨aK, 0, none⟩) size cK (u32s K)]) (by (repeat (first | (with_reducible exact Rem.here _ _) | (with_reducible apply Rem.there) | fail)); done) fun ⟨q1, q2⟩ => ?_
    simp only [List.cons_append, List.nil_append]
    have hml : L.length = (L.map fun n => K.getD n 0).length := by simp
    have hrv : (L.map fun n => K.getD n 0).reverse = keysR K L := rfl
    repeat' (first | refine sty ?_ | refine And.intro ?_ ?_ | (intro e; exfalso; omega) | (intro e; subst e) | intro _)
    rw [hrv]
    exact rm1 (q1, q2) rfl
  · intro rb i c
    exact tc_factF⟩
set_option maxHeartbeats 8000000 in
instance tq_lists : Known Try.prog 18 (∀ (p size most gm : Nat) (Q M G : List Nat), SpecH Try.prog 18 #[.pointer (some ⟨p, 0, none⟩)] [TwoqAt p size most gm Q M G] (fun q : S3 => .tuple #[.slice q.1.1 Q.length q.1.2, .slice q.2.1.1 M.length q.2.1.2, .slice q.2.2.1 G.length q.2.2.2]) (fun q => [TwoqAt p size most gm Q M G, Vec 31 1 q.1.1 Q.length q.1.2 (u32s Q), Vec 31 1 q.2.1.1 M.length q.2.1.2 (u32s M), Vec 31 1 q.2.2.1 G.length q.2.2.2 (u32s G)])) := ⟨fun p size most gm Q M G => by
  refine spec_of Try.func18 rfl Try.ntmps18 rfl [(0, _)] rfl ?_; intro base F l0 hl0; (try simp only [List.cons_append] at hl0); (try simp only [List.nil_append] at hl0); subst hl0
  refine TwoqAt.openC fun pq pm pg => ?_
  refine TwoqX.openC fun kv K fr Lq Lm bm aK cK af cf t h1 h2 h3 h4 h5 => ?_
  have hkl := t.tab.kl
  have hlt := t.tab.lt
  have hql := t.qlen
  have hml := t.mlen
  have hLq : ∀ x ∈ Lq, x < size := fun x hx => t.qlt hx
  have hLm : ∀ x ∈ Lm, x < size := fun x hx => t.mlt hx
  have hq := t.q
  have hm := t.m
  repeat' (first | ((fail_if_success (refine atD ?_)); refine sty ?_) | refine And.intro ?_ ?_ | (intro e; exfalso; omega) | (intro e; subst e) | intro _)
  refine drx [] ?_
  refine tks [0, 1, 6, 7, 12, 2, 8, 13, 3, 9, 14, 4, 10, 15] 6 ?_; repeat' (first | refine sty ?_ | refine And.intro ?_ ?_ | (intro e; exfalso; omega) | (intro e; subst e) | intro _)
  refine hv 5 fun x5 => ?_
  refine hv 11 fun x11 => ?_
  refine hv 16 fun x16 => ?_
  refine tks [17, 18, 19] 0 ?_; repeat' (first | refine sty ?_ | refine And.intro ?_ ?_ | (intro e; exfalso; omega) | (intro e; subst e) | intro _)
  rw [← hq, ← hm, ← hql, ← hml]
  exact rt3 ((x5.1, x5.2), (x11.1, x11.2), x16.1, x16.2) rfl (he := (en2 (TwoqX.shut t h1 h2 h3 h4 h5)).trans ((en2 TwoqAt.shut).trans en))⟩
instance tq_tcopy : Known Try.prog 61 (∀ (size bm aK cK : Nat) (af : Option Addr) (cf : Nat) (kv : List (Nat × Nat)) (K fr : List Nat), K.length = size → size ≤ 1024 → fr.length ≤ 1024 → SpecH Try.prog 61 #[.agg #[.map (some bm), .slice (some ⟨aK, 0, none⟩) size cK, .slice af fr.length cf]] [MapA .u32 (fun n : Nat => .int .u32 (n : Nat)) bm kv, Vec 31 1 (some ⟨aK, 0, none⟩) size cK (u32s K), Vec 31 1 af fr.length cf (u32s fr)] (fun q : Nat × (Option Addr × Nat) × Option Addr × Nat => .agg #[.map (some q.1), .slice q.2.1.1 size q.2.1.2, .slice q.2.2.1 fr.length q.2.2.2]) (fun q => [MapA .u32 (fun n : Nat => .int .u32 (n : Nat)) bm kv, Vec 31 1 (some ⟨aK, 0, none⟩) size cK (u32s K), Vec 31 1 af fr.length cf (u32s fr), MapA .u32 (fun n : Nat => .int .u32 (n : Nat)) q.1 kv, Vec 31 1 q.2.1.1 size q.2.1.2 (u32s K), Vec 31 1 q.2.2.1 fr.length q.2.2.2 (u32s fr)])) := ⟨fun size bm aK cK af cf kv K fr hK hs hf => by
  refine spec_of Try.func61 rfl Try.ntmps61 rfl [(0, _)] rfl ?_; intro base F l0 hl0; (try simp only [List.cons_append] at hl0); (try simp only [List.nil_append] at hl0); subst hl0
  have hKu : (u32s K).length = size := by simp [u32s, hK]
  repeat' (first | ((fail_if_success (refine atD ?_)); refine sty ?_) | refine And.intro ?_ ?_ | (intro e; exfalso; omega) | (intro e; subst e) | intro _)
  rename_i b1 b2
  refine drx [obj b2 61 [.map none, .slice none 0 0, .slice none 0 0]] ?_
  refine tks [0, 3, 6, 1, 4, 7] 5 ?_; repeat' (first | refine sty ?_ | refine And.intro ?_ ?_ | (intro e; exfalso; omega) | (intro e; subst e) | intro _)
  refine hv 2 fun x2 => ?_
  refine hv 5 fun x5 => ?_
  refine hv 8 fun x8 => ?_
  refine tks [9] 1 ?_; repeat' (first | refine sty ?_ | refine And.intro ?_ ?_ | (intro e; exfalso; omega) | (intro e; subst e) | intro _)
  refine hv0 10 fun x10 => ?_
  repeat' (first | refine sty ?_ | refine And.intro ?_ ?_ | (intro e; exfalso; omega) | (intro e; subst e) | intro _)
  exact ra1 (x2, (x5.1, x5.2), x8.1, x8.2) rfl⟩
set_option maxHeartbeats 8000000 in
instance tq_copy : Known Try.prog 28 (∀ (p size most gm : Nat) (Q M G : List Nat), SpecH Try.prog 28 #[.pointer (some ⟨p, 0, none⟩)] [TwoqAt p size most gm Q M G] (fun c : Nat => .pointer (some ⟨c, 0, none⟩)) (fun c => [TwoqAt p size most gm Q M G, TwoqAt c size most gm Q M G])) := ⟨fun p size most gm Q M G => by
  refine spec_of Try.func28 rfl Try.ntmps28 rfl [(0, _)] rfl ?_; intro base F l0 hl0; (try simp only [List.cons_append] at hl0); (try simp only [List.nil_append] at hl0); subst hl0
  refine TwoqAt.openC fun pq pm pg => ?_
  refine TwoqX.openC fun kv K fr Lq Lm bm aK cK af cf t h1 h2 h3 h4 h5 => ?_
  have hkl := t.tab.kl
  have htot := t.tab.tot
  repeat' (first | ((fail_if_success (refine atD ?_)); refine sty ?_) | refine And.intro ?_ ?_ | (intro e; exfalso; omega) | (intro e; subst e) | intro _)
  refine drx [] ?_
  refine tks [0, 5, 9, 13, 18, 23, 1, 6, 10, 14, 19, 24, 2, 7, 11, 15, 20, 25, 3, 8, 12, 16, 21, 26] 7 ?_; repeat' (first | refine sty ?_ | refine And.intro ?_ ?_ | (intro e; exfalso; omega) | (intro e; subst e) | intro _)
  refine tq_cons (opq_loadAgg (vs := [.map (some bm), .slice (some ⟨aK, 0, none⟩) size cK, .slice af fr.length cf]) (by (first | exact want_none rfl | exact want_yes rfl rfl rfl rfl rfl | fail)) rfl (rd_part (k := 3) (by (repeat (first | (with_reducible exact Rem.here _ _) | (with_reducible apply Rem.there) | fail)); done) rfl) rfl) rfl ?_
  repeat' (first | refine sty ?_ | refine And.intro ?_ ?_ | (intro e; exfalso; omega) | (intro e; subst e) | intro _)
  refine hv 4 fun x4 => ?_
  refine hv 17 fun x17 => ?_
  refine hv 22 fun x22 => ?_
  refine hv 27 fun x27 => ?_
  refine tks [28] 2 ?_
  refine tq_cons (opq_build (ixs := [0, 1, 2, 3, 4, 5]) (xs := [_, _, _, _, _, _]) (cs := [.map (some x4.1), .slice x4.2.1.1 size x4.2.1.2, .slice x4.2.2.1 fr.length x4.2.2.2, .int .i64 (size : Nat), .int .i64 (most : Nat), .pointer (some ⟨x17, 0, none⟩), .pointer (some ⟨x22, 0, none⟩), .pointer (some ⟨x27, 0, none⟩)]) (by (first | exact want_none rfl | exact want_yes rfl rfl rfl rfl rfl | fail)) rfl rfl (by (repeat (first | exact Evs.nil | (apply Evs.cons; exact rfl) | fail)); done) rfl) rfl ?_
  repeat' (first | refine sty ?_ | refine And.intro ?_ ?_ | (intro e; exfalso; omega) | (intro e; subst e) | intro _)
  refine hv 29 fun x29 => ?_
  refine tks [30] 0 ?_; repeat' (first | refine sty ?_ | refine And.intro ?_ ?_ | (intro e; exfalso; omega) | (intro e; subst e) | intro _)
  refine TK.vecAt (a := x4.2.1.1) (by (repeat (first | (with_reducible exact Rem.here _ _) | (with_reducible apply Rem.there) | fail)); done) (by omega) ?_
  rintro ⟨bk, ek⟩
  rw [ek]
  refine rt1 x29 rfl (he := ?_)
  refine (en2 (TwoqX.shut t h1 h2 h3 h4 h5)).trans ((en2 TwoqAt.shut).trans ?_)
  refine Ent.cons (by (repeat (first | (with_reducible exact Rem.here _ _) | (with_reducible apply Rem.there) | fail)); done) ?_
  exact (en2 (TwoqX.shut (p := x29) (bm := x4.1) (aK := bk) (af := x4.2.2.1) t h1 h2 h3 h4 h5)).trans (en2 TwoqAt.shut)⟩
end Go.Proofs.Ytcgdkcdlglbigaa
