/- arc, walked: the lists; a copy. -/
import Derived.Test.YtcgdkcdlglbigaaArW6
import Derived.Test.YtcgdkcdlglbigaaSlRev
import Derived.Test.YtcgdkcdlglbigaaSlD
import Derived.Test.YtcgdkcdlglbigaaGhW4
namespace Go.Proofs.Ytcgdkcdlglbigaa
open Go.Lk Go.Sl Go.Gh Go.Lr Go.Tb Go.Ar
attribute [local irreducible] TK TL TC Th Bk Nx fnPost WA TQ OpQ OpN SpecH Rd Ent IterH RoundH Rb Rp fnPostM
attribute [local irreducible] Fld.addE Fld.addF Fld.befE Fld.befF Fld.inE Fld.remF Fld.first Fld.last Fld.next Fld.prev Fld.ofR Fld.listOf Fld.joinE Fld.joinF renE renG Fld.at Fld.set Fld.place
attribute [local irreducible] Gh.addL Gh.addV Gh.addB Lr.addL Lr.addE Lr.useL Lr.remE Ar.useS Ar.roomS Ar.missS Ar.roomB Ar.roomO Ar.missB Ar.missO Ar.useL Ar.useO Ar.useH Ar.upT Ar.downT Sl.revI
set_option maxHeartbeats 4000000 in
instance ar_keys : Known Try.prog 74 (∀ (p pl size aK cK : Nat) (K L : List Nat) (v0 v1 v3 v4 v5 v6 v7 v8 : Value), K.length = size → size ≤ 1024 → (∀ x ∈ L, x < size) → (∀ k ∈ K, k < 4294967296) → SpecH Try.prog 74 #[.pointer (some ⟨p, 0, none⟩), .pointer (some ⟨pl, 0, none⟩)] [obj p 90 [v0, v1, .slice (some ⟨aK, 0, none⟩) size cK, v3, v4, v5, v6, v7, v8], Vec 31 1 (some ⟨aK, 0, none⟩) size cK (u32s K), LruAt pl L] (fun q : Option Addr × Nat => .slice q.1 L.length q.2) (fun q => [obj p 90 [v0, v1, .slice (some ⟨aK, 0, none⟩) size cK, v3, v4, v5, v6, v7, v8], Vec 31 1 (some ⟨aK, 0, none⟩) size cK (u32s K), LruAt pl L, Vec 31 1 q.1 L.length q.2 (u32s (keysR K L))])) := ⟨fun p pl size aK cK K L v0 v1 v3 v4 v5 v6 v7 v8 hK hs hL hk => by
  refine spec_of_m Try.func74 rfl Try.ntmps74 rfl [(0, _), (1, _)] rfl ?_; intro base F l0 hl0; (try simp only [List.cons_append] at hl0); (try simp only [List.nil_append] at hl0); subst hl0
  refine LruAt.factsC (p := pl) (L := L) fun o1 o2 o3 => ?_
  repeat' (first | refine stp ?_ | refine And.intro ?_ ?_ | (intro e; exfalso; omega) | (intro e; subst e) | intro _)
  rename_i bg bo c
  have hx : (u32a L).length = L.length := by simp [u32a]
  refine tc_rangeFunc (xs := u32a L) (own := [SeqC c L]) (R := [LruAt pl L, F]) (fun i => Exs (ι := Option Addr × Nat) fun q => [obj bo 23 [.slice q.1 i q.2], Vec 31 1 q.1 i q.2 (u32s ((L.take i).map fun n => K.getD n 0)), obj bg 70 [.pointer (some ⟨p, 0, none⟩)], obj p 90 [v0, v1, .slice (some ⟨aK, 0, none⟩) size cK, v3, v4, v5, v6, v7, v8], Vec 31 1 (some ⟨aK, 0, none⟩) size cK (u32s K)]) (fun _ _ => fact False) (seq_iter c _) rfl (by decide) (by intro a ha; simp only [u32a, List.mem_map] at ha; obtain ⟨_, _, rfl⟩ := ha; rfl) ?_ ?_ ?_ ?_
  · refine Ent.trans ?_ (Ent.exs (none, 0) (Ent.refl _))
    show Ent _ [obj bo 23 [.slice none 0 0], Vec 31 1 none 0 0 [], obj bg 70 [.pointer (some ⟨p, 0, none⟩)], obj p 90 [v0, v1, .slice (some ⟨aK, 0, none⟩) size cK, v3, v4, v5, v6, v7, v8], Vec 31 1 (some ⟨aK, 0, none⟩) size cK (u32s K), SeqC c L, LruAt pl L, F]
    exact en
  · intro lp rec i a hst hpe ha base F
    have hi : i < L.length := by rw [← hx]; exact (List.getElem?_eq_some_iff.1 ha).1
    obtain rfl : a = [.int .u32 (L.getD i 0 : Nat)] := by rw [u32a_get hi] at ha; exact (Option.some.inj ha).symm
    have hlt : L.getD i 0 < size := hL _ (by rw [List.getD_eq_getElem?_getD, List.getElem?_eq_getElem hi]; exact List.getElem_mem hi)
    refine TC.exs (f := fun q : Option Addr × Nat => [obj bo 23 [.slice q.1 i q.2], Vec 31 1 q.1 i q.2 (u32s ((L.take i).map fun n => K.getD n 0)), obj bg 70 [.pointer (some ⟨p, 0, none⟩)], obj p 90 [v0, v1, .slice (some ⟨aK, 0, none⟩) size cK, v3, v4, v5, v6, v7, v8], Vec 31 1 (some ⟨aK, 0, none⟩) size cK (u32s K)]) (by (repeat (first | (with_reducible exact Rem.here _ _) | (with_reducible apply Rem.there) | fail)); done) fun ⟨q1, q2⟩ => ?_
    simp only [List.cons_append, List.nil_append, putsE]
    repeat' (first | refine stp ?_ | refine And.intro ?_ ?_ | (intro e; exfalso; omega) | (intro e; subst e) | intro _)
    refine rb hst ?_
    repeat' (first | ((fail_if_success (refine atD ?_)); refine stp ?_) | refine And.intro ?_ ?_ | (intro e; exfalso; omega) | (intro e; subst e) | intro _)
    refine drx [obj bo 23 [.slice q1 i q2], Vec 31 1 q1 i q2 (u32s ((L.take i).map fun n => K.getD n 0))] ?_
    refine tks [1, 6, 2, 3, 4, 5, 7, 8] 4 ?_; repeat' (first | refine stp ?_ | refine And.intro ?_ ?_ | (intro e; exfalso; omega) | (intro e; subst e) | intro _)
    refine hvq 0 9 fun x9 => ?_
    refine hv 10 fun x10 => ?_
    refine hv0 11 fun x11 => ?_
    repeat' (first | refine stp ?_ | refine And.intro ?_ ?_ | (intro e; exfalso; omega) | (intro e; subst e) | intro _)
    refine rp hst hpe ?_
    refine Ent.trans ?_ (b := Exs (ι := Option Addr × Nat) (fun q => [obj bo 23 [.slice q.1 (i + 1) q.2], Vec 31 1 q.1 (i + 1) q.2 (u32s ((L.take (i + 1)).map fun n => K.getD n 0)), obj bg 70 [.pointer (some ⟨p, 0, none⟩)], obj p 90 [v0, v1, .slice (some ⟨aK, 0, none⟩) size cK, v3, v4, v5, v6, v7, v8], Vec 31 1 (some ⟨aK, 0, none⟩) size cK (u32s K)]) :: blk lp (.loop rec) :: [F]) en
    refine Ent.exs (x10.1, x10.2) ?_
    have e : u32s ((L.take i).map fun n => K.getD n 0) ++ [.int .u32 (K.getD (L.getD i 0) 0 : Nat)] = u32s ((L.take (i + 1)).map fun n => K.getD n 0) := by
      rw [List.getD_eq_getElem?_getD (l := L), List.getElem?_eq_getElem hi]; simp only [u32s, Option.getD_some, ← List.take_append_getElem hi, List.map_append, List.map_cons, List.map_nil]
    rw [← e]
    exact en
  · intro rb
    rw [hx, List.take_length]
    simp only [List.cons_append, List.nil_append]
    refine TK.exs (f := fun q : Option Addr × Nat => [obj bo 23 [.slice q.1 L.length q.2], Vec 31 1 q.1 L.length q.2 (u32s (L.map fun n => K.getD n 0)), obj bg 70 [.pointer (some ⟨p, 0, none⟩)], obj p 90 [v0, v1, .slice (some ⟨aK, 0, none⟩) size cK, v3, v4, v5, v6, v7, v8], Vec 31 1 (some ⟨aK, 0, none⟩) size cK (u32s K)]) (by (repeat (first | (with_reducible exact Rem.here _ _) | (with_reducible apply Rem.there) | fail)); done) fun ⟨q1, q2⟩ => ?_
    simp only [List.cons_append, List.nil_append]
    have hml : L.length = (L.map fun n => K.getD n 0).length := by simp
    have hrv : (L.map fun n => K.getD n 0).reverse = keysR K L := rfl
    repeat' (first | refine stp ?_ | refine And.intro ?_ ?_ | (intro e; exfalso; omega) | (intro e; subst e) | intro _)
    rw [hrv]
    exact rm1 (q1, q2) rfl
  · intro rb i c
    exact tc_factF⟩
instance ar_tcopy : Known Try.prog 78 (∀ (size bm aK cK : Nat) (af : Option Addr) (cf : Nat) (kv : List (Nat × Nat)) (K fr : List Nat), K.length = size → size ≤ 1024 → fr.length ≤ 1024 → SpecH Try.prog 78 #[.agg #[.map (some bm), .slice (some ⟨aK, 0, none⟩) size cK, .slice af fr.length cf]] [MapA .u32 (fun n : Nat => .int .u32 (n : Nat)) bm kv, Vec 31 1 (some ⟨aK, 0, none⟩) size cK (u32s K), Vec 31 1 af fr.length cf (u32s fr)] (fun q : Nat × (Option Addr × Nat) × Option Addr × Nat => .agg #[.map (some q.1), .slice q.2.1.1 size q.2.1.2, .slice q.2.2.1 fr.length q.2.2.2]) (fun q => [MapA .u32 (fun n : Nat => .int .u32 (n : Nat)) bm kv, Vec 31 1 (some ⟨aK, 0, none⟩) size cK (u32s K), Vec 31 1 af fr.length cf (u32s fr), MapA .u32 (fun n : Nat => .int .u32 (n : Nat)) q.1 kv, Vec 31 1 q.2.1.1 size q.2.1.2 (u32s K), Vec 31 1 q.2.2.1 fr.length q.2.2.2 (u32s fr)])) := ⟨fun size bm aK cK af cf kv K fr hK hs hf => by
  refine spec_of Try.func78 rfl Try.ntmps78 rfl [(0, _)] rfl ?_; intro base F l0 hl0; (try simp only [List.cons_append] at hl0); (try simp only [List.nil_append] at hl0); subst hl0
  have hKu : (u32s K).length = size := by simp [u32s, hK]
  repeat' (first | ((fail_if_success (refine atD ?_)); refine stp ?_) | refine And.intro ?_ ?_ | (intro e; exfalso; omega) | (intro e; subst e) | intro _)
  rename_i b1 b2
  refine drx [obj b2 86 [.map none, .slice none 0 0, .slice none 0 0]] ?_
  refine tks [0, 3, 6, 1, 4, 7] 5 ?_; repeat' (first | refine stp ?_ | refine And.intro ?_ ?_ | (intro e; exfalso; omega) | (intro e; subst e) | intro _)
  refine hv 2 fun x2 => ?_
  refine hv 5 fun x5 => ?_
  refine hv 8 fun x8 => ?_
  refine tks [9] 1 ?_; repeat' (first | refine stp ?_ | refine And.intro ?_ ?_ | (intro e; exfalso; omega) | (intro e; subst e) | intro _)
  refine hv0 10 fun x10 => ?_
  repeat' (first | refine stp ?_ | refine And.intro ?_ ?_ | (intro e; exfalso; omega) | (intro e; subst e) | intro _)
  exact ra1 (x2, (x5.1, x5.2), x8.1, x8.2) rfl⟩
set_option maxHeartbeats 4000000 in
instance ar_pcopy : Known Try.prog 79 (∀ (pl pg m : Nat) (L G : List Nat), SpecH Try.prog 79 #[.agg #[.pointer (some ⟨pl, 0, none⟩), .pointer (some ⟨pg, 0, none⟩)]] [LruAt pl L, GhostAt pg m G] (fun q : Nat × Nat => .agg #[.pointer (some ⟨q.1, 0, none⟩), .pointer (some ⟨q.2, 0, none⟩)]) (fun q => [LruAt pl L, GhostAt pg m G, LruAt q.1 L, GhostAt q.2 m G])) := ⟨fun pl pg m L G => by
  refine spec_of Try.func79 rfl Try.ntmps79 rfl [(0, _)] rfl ?_; intro base F l0 hl0; (try simp only [List.cons_append] at hl0); (try simp only [List.nil_append] at hl0); subst hl0
  repeat' (first | ((fail_if_success (refine atD ?_)); refine stp ?_) | refine And.intro ?_ ?_ | (intro e; exfalso; omega) | (intro e; subst e) | intro _)
  rename_i b1 b2
  refine drx [obj b2 88 [.pointer none, .pointer none]] ?_
  refine tks [0, 3, 1, 4] 4 ?_; repeat' (first | refine stp ?_ | refine And.intro ?_ ?_ | (intro e; exfalso; omega) | (intro e; subst e) | intro _)
  refine hv 2 fun x2 => ?_
  refine hv 5 fun x5 => ?_
  refine tks [6] 1 ?_; repeat' (first | refine stp ?_ | refine And.intro ?_ ?_ | (intro e; exfalso; omega) | (intro e; subst e) | intro _)
  refine hv0 7 fun x7 => ?_
  repeat' (first | refine stp ?_ | refine And.intro ?_ ?_ | (intro e; exfalso; omega) | (intro e; subst e) | intro _)
  exact ra1 (x2, x5) rfl⟩
set_option maxHeartbeats 8000000 in
instance ar_lists : Known Try.prog 33 (∀ (p size : Nat) (O E A B : List Nat) (t : Nat), SpecH Try.prog 33 #[.pointer (some ⟨p, 0, none⟩)] [ArcAt p size O E A B t] (fun q : (Option Addr × Nat) × (Option Addr × Nat) × (Option Addr × Nat) × Option Addr × Nat => .tuple #[.slice q.1.1 O.length q.1.2, .slice q.2.1.1 E.length q.2.1.2, .slice q.2.2.1.1 A.length q.2.2.1.2, .slice q.2.2.2.1 B.length q.2.2.2.2, .int .i64 (t : Nat)]) (fun q => [ArcAt p size O E A B t, Vec 31 1 q.1.1 O.length q.1.2 (u32s O), Vec 31 1 q.2.1.1 E.length q.2.1.2 (u32s E), Vec 31 1 q.2.2.1.1 A.length q.2.2.1.2 (u32s A), Vec 31 1 q.2.2.2.1 B.length q.2.2.2.2 (u32s B)])) := ⟨fun p size O E A B t => by
  refine spec_of Try.func33 rfl Try.ntmps33 rfl [(0, _)] rfl ?_; intro base F l0 hl0; (try simp only [List.cons_append] at hl0); (try simp only [List.nil_append] at hl0); subst hl0
  refine ArcAt.openC fun po pa pf pb => ?_
  refine ArcX.openC fun kv K fr Lo Lf bm aK cK af cf tw h1 h2 iv => ?_
  have hkl := tw.tab.kl
  have hlt := tw.tab.lt
  have hql := tw.qlen
  have hml := tw.mlen
  have hLq : ∀ x ∈ Lo, x < size := fun x hx => tw.qlt hx
  have hLm : ∀ x ∈ Lf, x < size := fun x hx => tw.mlt hx
  have hq := tw.q
  have hm := tw.m
  repeat' (first | ((fail_if_success (refine atD ?_)); refine stp ?_) | refine And.intro ?_ ?_ | (intro e; exfalso; omega) | (intro e; subst e) | intro _)
  refine drx [] ?_
  refine tks [0, 1, 7, 8, 14, 20, 26, 2, 9, 15, 21, 27, 3, 10, 16, 22, 28, 4, 11, 17, 23, 29, 5, 12, 18, 24] 9 ?_; repeat' (first | refine stp ?_ | refine And.intro ?_ ?_ | (intro e; exfalso; omega) | (intro e; subst e) | intro _)
  refine hv 6 fun x6 => ?_
  refine hv 13 fun x13 => ?_
  refine hv 19 fun x19 => ?_
  refine hv 25 fun x25 => ?_
  refine tks [30, 31, 32, 33, 34] 0 ?_; repeat' (first | refine stp ?_ | refine And.intro ?_ ?_ | (intro e; exfalso; omega) | (intro e; subst e) | intro _)
  rw [← hq, ← hm, ← hql, ← hml]
  exact rt5 ((x6.1, x6.2), (x13.1, x13.2), (x19.1, x19.2), x25.1, x25.2) rfl ((en2 (ArcX.shut tw h1 h2 iv)).trans ((en2 ArcAt.shut).trans en))⟩
set_option maxHeartbeats 8000000 in
instance ar_copy : Known Try.prog 41 (∀ (p size : Nat) (O E A B : List Nat) (t : Nat), SpecH Try.prog 41 #[.pointer (some ⟨p, 0, none⟩)] [ArcAt p size O E A B t] (fun c : Nat => .pointer (some ⟨c, 0, none⟩)) (fun c => [ArcAt p size O E A B t, ArcAt c size O E A B t])) := ⟨fun p size O E A B t => by
  refine spec_of Try.func41 rfl Try.ntmps41 rfl [(0, _)] rfl ?_; intro base F l0 hl0; (try simp only [List.cons_append] at hl0); (try simp only [List.nil_append] at hl0); subst hl0
  refine ArcAt.openC fun po pa pf pb => ?_
  refine ArcX.openC fun kv K fr Lo Lf bm aK cK af cf tw h1 h2 iv => ?_
  have hkl := tw.tab.kl
  have htot := tw.tab.tot
  repeat' (first | ((fail_if_success (refine atD ?_)); refine stp ?_) | refine And.intro ?_ ?_ | (intro e; exfalso; omega) | (intro e; subst e) | intro _)
  refine drx [] ?_
  refine tks [0, 4, 9, 14, 19, 1, 5, 10, 15, 20, 2, 6, 11, 16, 21, 3, 7, 12, 17, 22] 6 ?_; repeat' (first | refine stp ?_ | refine And.intro ?_ ?_ | (intro e; exfalso; omega) | (intro e; subst e) | intro _)
  refine hv 8 fun x8 => ?_
  refine hv 13 fun x13 => ?_
  refine hv 18 fun x18 => ?_
  refine tks [23] 2 ?_; repeat' (first | refine stp ?_ | refine And.intro ?_ ?_ | (intro e; exfalso; omega) | (intro e; subst e) | intro _)
  refine hv 24 fun x24 => ?_
  refine tks [25] 0 ?_; repeat' (first | refine stp ?_ | refine And.intro ?_ ?_ | (intro e; exfalso; omega) | (intro e; subst e) | intro _)
  refine TK.vecAt (a := x8.2.1.1) (by (repeat (first | (with_reducible exact Rem.here _ _) | (with_reducible apply Rem.there) | fail)); done) (by omega) ?_
  rintro ⟨bk, ek⟩
  rw [ek]
  refine rt1 x24 rfl (he := ?_)
  refine (en2 (ArcX.shut tw h1 h2 iv)).trans ((en2 ArcAt.shut).trans ?_)
  refine Ent.cons (by (repeat (first | (with_reducible exact Rem.here _ _) | (with_reducible apply Rem.there) | fail)); done) ?_
  exact (en2 (ArcX.shut (p := x24) (bm := x8.1) (aK := bk) (af := x8.2.2.1) tw h1 h2 iv)).trans (en2 ArcAt.shut)⟩
end Go.Proofs.Ytcgdkcdlglbigaa
