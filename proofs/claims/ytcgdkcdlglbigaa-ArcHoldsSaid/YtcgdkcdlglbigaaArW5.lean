/- arc, walked: requests. -/
import Derived.Test.YtcgdkcdlglbigaaArW4
namespace Go.Ar
/-- Whether a key is in a list. -/
structure MemG (L : List Nat) (k : Nat) (b : Bool) : Prop where
  out : decide (k ∈ L) = b
end Go.Ar
namespace Go.Proofs.Ytcgdkcdlglbigaa
open Go.Lk Go.Sl Go.Gh Go.Lr Go.Tb Go.Ar
attribute [local irreducible] TK TL TC Th Bk Nx fnPost WA TQ OpQ OpN SpecH Rd Ent IterH RoundH Rb Rp fnPostM
attribute [local irreducible] Fld.addE Fld.addF Fld.befE Fld.befF Fld.inE Fld.remF Fld.first Fld.last Fld.next Fld.prev Fld.ofR Fld.listOf Fld.joinE Fld.joinF renE renG Fld.at Fld.set Fld.place
attribute [local irreducible] Gh.addL Gh.addV Gh.addB Lr.addL Lr.addE Lr.useL Lr.remE Ar.useS Ar.roomS Ar.missS Ar.roomB Ar.roomO Ar.missB Ar.missO Ar.useL Ar.useO Ar.useH Ar.upT Ar.downT
theorem g_hasG : Known Try.prog 69 (∀ (p most : Nat) (L : List Nat) (xk : Int) (k : Nat) [NatI xk k] (b : Bool), MemG L k b → SpecH Try.prog 69 #[.pointer (some ⟨p, 0, none⟩), .int .u32 xk] [GhostAt p most L] (fun _ : Unit => .bool b) (fun _ => [GhostAt p most L])) := ⟨fun p most L xk k _ b hb => by
  have h := g_has.out p most L xk k
  rwa [hb.out] at h⟩
set_option maxHeartbeats 16000000 in
instance ar_use : Known Try.prog 31 (∀ (p size : Nat) (O E A B : List Nat) (t : Nat) (xk : Int) (k : Nat) [NatI xk k], k < 4294967296 → SpecH Try.prog 31 #[.pointer (some ⟨p, 0, none⟩), .int .u32 xk] [ArcAt p size O E A B t] (fun _ : Unit => .tuple #[.agg #[.bool (Ar.useH ⟨O, E, A, B, t⟩ k), .bool (Ar.useL size ⟨O, E, A, B, t⟩ k), .int .u32 (Ar.useO size ⟨O, E, A, B, t⟩ k : Nat)], .int .i64 0]) (fun _ => [ArcAt p size (Ar.useS size ⟨O, E, A, B, t⟩ k).O (Ar.useS size ⟨O, E, A, B, t⟩ k).F (Ar.useS size ⟨O, E, A, B, t⟩ k).A (Ar.useS size ⟨O, E, A, B, t⟩ k).B (Ar.useS size ⟨O, E, A, B, t⟩ k).t])) := ⟨fun p size O E A B t xk k _ hk => by
  obtain rfl : xk = (k : Int) := NatI.out
  refine spec_of Try.func31 rfl Try.ntmps31 rfl [(0, _), (1, _)] rfl ?_; intro base F l0 hl0; (try simp only [List.cons_append] at hl0); (try simp only [List.nil_append] at hl0); subst hl0
  haveI := g_hasG
  refine ArcAt.openC fun po pa pf pb => ?_
  refine ArcX.openC fun kv K fr Lo Lf bm aK cK af cf tw h1 h2 iv => ?_
  obtain ⟨l1, l2, l3, l4⟩ := iv.lens
  have hml := tw.tab.tot
  cases hm : mget kv k with
  | some z =>
    obtain ⟨w1, w2, w3, w4, w5⟩ := tw.some_of hm
    obtain ⟨e1, e2, e3, e4'⟩ := use_hit (size := size) (A := A) (B := B) (t := t) w3
    have e4 : ((Ar.useO size ⟨O, E, A, B, t⟩ k : Nat) : Int) = 0 := by rw [e4']; rfl
    have tw2 := both tw hm
    obtain ⟨e5, e6⟩ := lru_newA (L := Lf.erase z) (z := z) (fun h => (tw.nd.2.1.mem_erase_iff.1 h).1 rfl) (by omega)
    rw [e1, e2, e3, e4]
    repeat' (first | ((fail_if_success (refine atD ?_)); refine stp ?_) | refine And.intro ?_ ?_ | (intro e; exfalso; omega) | (intro e; subst e) | intro _)
    refine drx [] ?_
    refine tks [0, 6, 1, 7, 2, 8, 3, 9, 4, 10] 4 ?_; repeat' (first | refine stp ?_ | refine And.intro ?_ ?_ | (intro e; exfalso; omega) | (intro e; subst e) | intro _)
    refine hv 5 fun x5 => ?_
    refine hv 11 fun x11 => ?_
    refine tks [12, 13] 0 ?_; repeat' (first | refine stp ?_ | refine And.intro ?_ ?_ | (intro e; exfalso; omega) | (intro e; subst e) | intro _)
    rw [e5, e6]
    repeat' (first | refine stp ?_ | refine And.intro ?_ ?_ | (intro e; exfalso; omega) | (intro e; subst e) | intro _)
    exact ra2 () rfl (he := (en2 (ArcX.shut tw2 h1 h2 (iv.hit w3))).trans (en2 ArcAt.shut))
  | none =>
    obtain ⟨w1, w2⟩ := tw.none_of hm
    have w3 : ¬ (k ∈ O ∨ k ∈ E) := fun h => h.elim w1 w2
    by_cases hA : k ∈ A
    · have hA1 : MemG A k true := ⟨decide_eq_true hA⟩
      have hAl := List.length_pos_of_mem hA
      obtain ⟨e1, e2, e3, e4⟩ := use_a (size := size) (B := B) (t := t) w3 hA
      have hF : O.length = size → fromO false ⟨O, E, A, B, upT size ⟨O, E, A, B, t⟩⟩ := fun x => by omega
      rw [e1, e2, e3, e4]
      repeat' (first | ((fail_if_success (refine atD ?_)); refine stp ?_) | refine And.intro ?_ ?_ | (intro e; exfalso; omega) | (intro e; subst e) | intro _)
      refine drx [] ?_
      refine tks [0, 6, 1, 7, 2, 8, 3, 9, 4, 10] 4 ?_; repeat' (first | refine stp ?_ | refine And.intro ?_ ?_ | (intro e; exfalso; omega) | (intro e; subst e) | intro _)
      refine hv 5 fun x5 => ?_
      refine hv 11 fun x11 => ?_
      refine tks [12, 13] 0 ?_; repeat' (first | ((fail_if_success (refine atD ?_)); refine stp ?_) | refine And.intro ?_ ?_ | (intro e; exfalso; omega) | (intro e; subst e) | intro _)
      refine tail 15 ?_
      repeat' (first | refine stp ?_ | refine And.intro ?_ ?_ | (intro e; exfalso; omega) | (intro e; subst e) | intro _)
      have hd : B.length / A.length ≤ B.length := Nat.div_le_self _ _
      have hq : IntKind.i64.wrap ((B.length : Int) / (A.length : Int)) = ((B.length / A.length : Nat) : Int) := by
        rw [← Int.natCast_ediv]
        generalize B.length / A.length = qq at hd
        exact IntWalk.i64_in _ (by omega)
      refine tq_cons (opq_quo (by (first | exact want_none rfl | exact want_yes rfl rfl rfl rfl rfl | fail)) rfl rfl (by omega) (by omega)) rfl ?_
      rw [hq]
      have hu := upT_int (size := size) (t := t) (O := O) (F := E) (A := A) (B := B)
      generalize B.length / A.length = qq at hd hu
      clear hq
      repeat' (first | ((fail_if_success (refine atCall 70 ?_)); refine stp ?_) | refine And.intro ?_ ?_ | (intro e; exfalso; omega) | (intro e; subst e) | intro _)
      rw [hu]
      have iv1 := iv.setT iv.up_le
      refine TL.ent (en2 (ArcX.shut (t := upT size ⟨O, E, A, B, t⟩) tw h1 h2 iv1)) ?_
      repeat' (first | ((fail_if_success (refine atD ?_)); refine stp ?_) | refine And.intro ?_ ?_ | (intro e; exfalso; omega) | (intro e; subst e) | intro _)
      rename_i b4 b8
      obtain ⟨r1, r2, r3⟩ := iv1.room (often := false) h1 hF
      obtain ⟨s1, s2, s3, s4, s5, s6⟩ := room_sub (often := false) (A := A) (B := B) l1 hF
      generalize roomS size false ⟨O, E, A, B, upT size ⟨O, E, A, B, t⟩⟩ = S at r1 r2 r3 s1 s2 s3 s4 s5 s6 ⊢
      obtain ⟨O2, E2, A2, B2, T2⟩ := S
      dsimp only at r1 r2 r3 s1 s2 s3 s4 s5 s6 ⊢
      subst r3
      refine ArcX.openL fun kv2 K2 fr2 Lo2 Lf2 bm2 aK2 cK2 af2 cf2 tw2 _ _ iv2 => ?_
      obtain ⟨hm2, hkl2, r, z, rfl, hz, hrl⟩ := behindA tw2 r2 s1 s2 w1 w2
      rw [show (r ++ [z]).length = r.length + 1 by simp]
      repeat' (first | ((fail_if_success (refine atD ?_)); refine stp ?_) | refine And.intro ?_ ?_ | (intro e; exfalso; omega) | (intro e; subst e) | intro _)
      obtain ⟨d1, d2, d3, d4⟩ := tw2.addM hm2 hk
      obtain ⟨e6, e7⟩ := lru_newA d2 (by omega)
      have iv3 := iv2.comeA r2 (fun h => w1 (s1 k h)) (fun h => w2 (s2 k h)) (s5 k hA)
      refine drx [obj b4 33 [.bool false, .bool (roomB size ⟨O, E, A, B, upT size ⟨O, E, A, B, t⟩⟩), .int .u32 (roomO size false ⟨O, E, A, B, upT size ⟨O, E, A, B, t⟩⟩ : Nat)], obj p 90 [.int .i64 (size : Nat), .map (some bm2), .slice (some ⟨aK2, 0, none⟩) size cK2, .slice af2 (r.length + 1) cf2, .pointer (some ⟨po, 0, none⟩), .pointer (some ⟨pa, 0, none⟩), .pointer (some ⟨pf, 0, none⟩), .pointer (some ⟨pb, 0, none⟩), .int .i64 (upT size ⟨O, E, A, B, t⟩ : Nat)], MapA .u32 (fun n : Nat => .int .u32 (n : Nat)) bm2 kv2, Vec 31 1 (some ⟨aK2, 0, none⟩) size cK2 (u32s K2), Vec 31 1 af2 (r.length + 1) cf2 (u32s (r ++ [z])), LruAt pf Lf2] ?_
      refine tks [1, 3, 6, 2, 4, 5] 5 ?_; (repeat' (first | refine stp ?_ | refine And.intro ?_ ?_ | (intro e; exfalso; omega) | (intro e; subst e) | intro _))
      refine hvB 0 7 (fun _ => ?_) (fun x7 => ?_)
      · refine hv 7 fun x7 => ?_
        refine hv 8 fun x8 => ?_
        (rw [e6, e7]); (refine hv0 9 fun x9 => ?_); (refine tks [10] 0 ?_); (repeat' (first | refine stp ?_ | refine And.intro ?_ ?_ | (intro e; exfalso; omega) | (intro e; subst e) | intro _)); (exact ra2 () rfl (he := (en2 (ArcX.shut d4 h1 h2 iv3)).trans (en2 ArcAt.shut)))
      · refine hvB 0 8 (fun _ => ?_) (fun x8 => ?_)
        · refine hv 8 fun x8 => ?_
          (rw [e6, e7]); (refine hv0 9 fun x9 => ?_); (refine tks [10] 0 ?_); (repeat' (first | refine stp ?_ | refine And.intro ?_ ?_ | (intro e; exfalso; omega) | (intro e; subst e) | intro _)); (exact ra2 () rfl (he := (en2 (ArcX.shut d4 h1 h2 iv3)).trans (en2 ArcAt.shut)))
        · refine hvr 0 ?_
          (rw [e6, e7]); (refine hv0 9 fun x9 => ?_); (refine tks [10] 0 ?_); (repeat' (first | refine stp ?_ | refine And.intro ?_ ?_ | (intro e; exfalso; omega) | (intro e; subst e) | intro _)); (exact ra2 () rfl (he := (en2 (ArcX.shut d4 h1 h2 iv3)).trans (en2 ArcAt.shut)))
    · have hA1 : MemG A k false := ⟨decide_eq_false hA⟩
      by_cases hB : k ∈ B
      · have hB1 : MemG B k true := ⟨decide_eq_true hB⟩
        have hBl := List.length_pos_of_mem hB
        have hdl := iv.down_le
        obtain ⟨e1, e2, e3, e4⟩ := use_b (size := size) (t := t) w3 hA hB
        have hF : O.length = size → fromO true ⟨O, E, A, B, downT ⟨O, E, A, B, t⟩⟩ := fun x => ⟨show 0 < O.length by omega, (Nat.lt_or_eq_of_le (show downT ⟨O, E, A, B, t⟩ ≤ O.length by omega)).elim .inl (fun h => .inr ⟨h.symm, rfl⟩)⟩
        rw [e1, e2, e3, e4]
        repeat' (first | ((fail_if_success (refine atD ?_)); refine stp ?_) | refine And.intro ?_ ?_ | (intro e; exfalso; omega) | (intro e; subst e) | intro _)
        refine drx [] ?_
        refine tks [0, 6, 1, 7, 2, 8, 3, 9, 4, 10] 4 ?_; repeat' (first | refine stp ?_ | refine And.intro ?_ ?_ | (intro e; exfalso; omega) | (intro e; subst e) | intro _)
        refine hv 5 fun x5 => ?_
        refine hv 11 fun x11 => ?_
        refine tks [12, 13] 0 ?_; repeat' (first | ((fail_if_success (refine atD ?_)); refine stp ?_) | refine And.intro ?_ ?_ | (intro e; exfalso; omega) | (intro e; subst e) | intro _)
        refine tail 11 ?_
        repeat' (first | refine stp ?_ | refine And.intro ?_ ?_ | (intro e; exfalso; omega) | (intro e; subst e) | intro _)
        have hd : A.length / B.length ≤ A.length := Nat.div_le_self _ _
        have hq : IntKind.i64.wrap ((A.length : Int) / (B.length : Int)) = ((A.length / B.length : Nat) : Int) := by
          rw [← Int.natCast_ediv]
          generalize A.length / B.length = qq at hd
          exact IntWalk.i64_in _ (by omega)
        refine tq_cons (opq_quo (by (first | exact want_none rfl | exact want_yes rfl rfl rfl rfl rfl | fail)) rfl rfl (by omega) (by omega)) rfl ?_
        rw [hq]
        have hu := downT_int (t := t) (O := O) (F := E) (A := A) (B := B)
        generalize A.length / B.length = qq at hd hu
        clear hq
        repeat' (first | ((fail_if_success (refine atCall 70 ?_)); refine stp ?_) | refine And.intro ?_ ?_ | (intro e; exfalso; omega) | (intro e; subst e) | intro _)
        rw [hu]
        have iv1 := iv.setT hdl
        refine TL.ent (en2 (ArcX.shut (t := downT ⟨O, E, A, B, t⟩) tw h1 h2 iv1)) ?_
        repeat' (first | ((fail_if_success (refine atD ?_)); refine stp ?_) | refine And.intro ?_ ?_ | (intro e; exfalso; omega) | (intro e; subst e) | intro _)
        rename_i b4 b8
        obtain ⟨r1, r2, r3⟩ := iv1.room (often := true) h1 hF
        obtain ⟨s1, s2, s3, s4, s5, s6⟩ := room_sub (often := true) (A := A) (B := B) l1 hF
        generalize roomS size true ⟨O, E, A, B, downT ⟨O, E, A, B, t⟩⟩ = S at r1 r2 r3 s1 s2 s3 s4 s5 s6 ⊢
        obtain ⟨O2, E2, A2, B2, T2⟩ := S
        dsimp only at r1 r2 r3 s1 s2 s3 s4 s5 s6 ⊢
        subst r3
        refine ArcX.openL fun kv2 K2 fr2 Lo2 Lf2 bm2 aK2 cK2 af2 cf2 tw2 _ _ iv2 => ?_
        obtain ⟨hm2, hkl2, r, z, rfl, hz, hrl⟩ := behindA tw2 r2 s1 s2 w1 w2
        rw [show (r ++ [z]).length = r.length + 1 by simp]
        repeat' (first | ((fail_if_success (refine atD ?_)); refine stp ?_) | refine And.intro ?_ ?_ | (intro e; exfalso; omega) | (intro e; subst e) | intro _)
        obtain ⟨d1, d2, d3, d4⟩ := tw2.addM hm2 hk
        obtain ⟨e6, e7⟩ := lru_newA d2 (by omega)
        have iv3 := iv2.comeB r2 (fun h => w1 (s1 k h)) (fun h => w2 (s2 k h)) (s6 k hB)
        refine drx [obj b4 33 [.bool false, .bool (roomB size ⟨O, E, A, B, downT ⟨O, E, A, B, t⟩⟩), .int .u32 (roomO size true ⟨O, E, A, B, downT ⟨O, E, A, B, t⟩⟩ : Nat)], obj p 90 [.int .i64 (size : Nat), .map (some bm2), .slice (some ⟨aK2, 0, none⟩) size cK2, .slice af2 (r.length + 1) cf2, .pointer (some ⟨po, 0, none⟩), .pointer (some ⟨pa, 0, none⟩), .pointer (some ⟨pf, 0, none⟩), .pointer (some ⟨pb, 0, none⟩), .int .i64 (downT ⟨O, E, A, B, t⟩ : Nat)], MapA .u32 (fun n : Nat => .int .u32 (n : Nat)) bm2 kv2, Vec 31 1 (some ⟨aK2, 0, none⟩) size cK2 (u32s K2), Vec 31 1 af2 (r.length + 1) cf2 (u32s (r ++ [z])), LruAt pf Lf2] ?_
        refine tks [1, 3, 6, 2, 4, 5] 5 ?_; (repeat' (first | refine stp ?_ | refine And.intro ?_ ?_ | (intro e; exfalso; omega) | (intro e; subst e) | intro _))
        refine hvB 0 7 (fun _ => ?_) (fun x7 => ?_)
        · refine hv 7 fun x7 => ?_
          refine hv 8 fun x8 => ?_
          (rw [e6, e7]); (refine hv0 9 fun x9 => ?_); (refine tks [10] 0 ?_); (repeat' (first | refine stp ?_ | refine And.intro ?_ ?_ | (intro e; exfalso; omega) | (intro e; subst e) | intro _)); (exact ra2 () rfl (he := (en2 (ArcX.shut d4 h1 h2 iv3)).trans (en2 ArcAt.shut)))
        · refine hvB 0 8 (fun _ => ?_) (fun x8 => ?_)
          · refine hv 8 fun x8 => ?_
            (rw [e6, e7]); (refine hv0 9 fun x9 => ?_); (refine tks [10] 0 ?_); (repeat' (first | refine stp ?_ | refine And.intro ?_ ?_ | (intro e; exfalso; omega) | (intro e; subst e) | intro _)); (exact ra2 () rfl (he := (en2 (ArcX.shut d4 h1 h2 iv3)).trans (en2 ArcAt.shut)))
          · refine hvr 0 ?_
            (rw [e6, e7]); (refine hv0 9 fun x9 => ?_); (refine tks [10] 0 ?_); (repeat' (first | refine stp ?_ | refine And.intro ?_ ?_ | (intro e; exfalso; omega) | (intro e; subst e) | intro _)); (exact ra2 () rfl (he := (en2 (ArcX.shut d4 h1 h2 iv3)).trans (en2 ArcAt.shut)))
      · have hB1 : MemG B k false := ⟨decide_eq_false hB⟩
        obtain ⟨e1, e2, e3, e4⟩ := use_new (size := size) (t := t) w3 hA hB
        rw [e1, e2, e3, e4]
        repeat' (first | ((fail_if_success (refine atD ?_)); refine stp ?_) | refine And.intro ?_ ?_ | (intro e; exfalso; omega) | (intro e; subst e) | intro _)
        refine drx [] ?_
        refine tks [0, 6, 1, 7, 2, 8, 3, 9, 4, 10] 4 ?_; repeat' (first | refine stp ?_ | refine And.intro ?_ ?_ | (intro e; exfalso; omega) | (intro e; subst e) | intro _)
        refine hv 5 fun x5 => ?_
        refine hv 11 fun x11 => ?_
        refine tks [12, 13] 0 ?_; repeat' (first | ((fail_if_success (refine atD ?_)); refine stp ?_) | refine And.intro ?_ ?_ | (intro e; exfalso; omega) | (intro e; subst e) | intro _)
        refine TL.ent (en2 (ArcX.shut tw h1 h2 iv)) ?_
        repeat' (first | ((fail_if_success (refine atD ?_)); refine stp ?_) | refine And.intro ?_ ?_ | (intro e; exfalso; omega) | (intro e; subst e) | intro _)
        rename_i b4 b8
        obtain ⟨r1, r3, ⟨r2, q2, q3⟩, s1, s2, s3, s4⟩ := iv.miss h1
        generalize missS size ⟨O, E, A, B, t⟩ = S at r1 r2 r3 q2 q3 s1 s2 s3 s4 ⊢
        obtain ⟨O2, E2, A2, B2, T2⟩ := S
        dsimp only at r1 r2 r3 q2 q3 s1 s2 s3 s4 ⊢
        have r4 := r3.symm
        subst r4
        refine ArcX.openL fun kv2 K2 fr2 Lo2 Lf2 bm2 aK2 cK2 af2 cf2 tw2 _ _ iv2 => ?_
        obtain ⟨hm2, hkl2, r, z, rfl, hz, hrl⟩ := behindA tw2 r2 s1 s2 w1 w2
        rw [show (r ++ [z]).length = r.length + 1 by simp]
        repeat' (first | ((fail_if_success (refine atD ?_)); refine stp ?_) | refine And.intro ?_ ?_ | (intro e; exfalso; omega) | (intro e; subst e) | intro _)
        obtain ⟨d1, d2, d3, d4⟩ := tw2.addQ hm2 hk
        obtain ⟨e6, e7⟩ := lru_newA d1 (by omega)
        have iv3 := iv2.comeO r2 (fun h => w1 (s1 k h)) (fun h => w2 (s2 k h)) (fun h => (s3 k h).elim hA w1) (fun h => (s4 k h).elim hB w2) q2 q3
        refine drx [obj b4 33 [.bool false, .bool (missB size ⟨O, E, A, B, t⟩), .int .u32 (missO size ⟨O, E, A, B, t⟩ : Nat)], obj p 90 [.int .i64 (size : Nat), .map (some bm2), .slice (some ⟨aK2, 0, none⟩) size cK2, .slice af2 (r.length + 1) cf2, .pointer (some ⟨po, 0, none⟩), .pointer (some ⟨pa, 0, none⟩), .pointer (some ⟨pf, 0, none⟩), .pointer (some ⟨pb, 0, none⟩), .int .i64 (t : Nat)], MapA .u32 (fun n : Nat => .int .u32 (n : Nat)) bm2 kv2, Vec 31 1 (some ⟨aK2, 0, none⟩) size cK2 (u32s K2), Vec 31 1 af2 (r.length + 1) cf2 (u32s (r ++ [z])), LruAt po Lo2] ?_
        refine tks [1, 3, 6, 2, 4, 5] 5 ?_; (repeat' (first | refine stp ?_ | refine And.intro ?_ ?_ | (intro e; exfalso; omega) | (intro e; subst e) | intro _))
        refine hvB 0 7 (fun _ => ?_) (fun x7 => ?_)
        · refine hv 7 fun x7 => ?_
          refine hv 8 fun x8 => ?_
          (rw [e6, e7]); (refine hv0 9 fun x9 => ?_); (refine tks [10] 0 ?_); (repeat' (first | refine stp ?_ | refine And.intro ?_ ?_ | (intro e; exfalso; omega) | (intro e; subst e) | intro _)); (exact ra2 () rfl (he := (en2 (ArcX.shut d4 h1 h2 iv3)).trans (en2 ArcAt.shut)))
        · refine hvB 0 8 (fun _ => ?_) (fun x8 => ?_)
          · refine hv 8 fun x8 => ?_
            (rw [e6, e7]); (refine hv0 9 fun x9 => ?_); (refine tks [10] 0 ?_); (repeat' (first | refine stp ?_ | refine And.intro ?_ ?_ | (intro e; exfalso; omega) | (intro e; subst e) | intro _)); (exact ra2 () rfl (he := (en2 (ArcX.shut d4 h1 h2 iv3)).trans (en2 ArcAt.shut)))
          · refine hvr 0 ?_
            (rw [e6, e7]); (refine hv0 9 fun x9 => ?_); (refine tks [10] 0 ?_); (repeat' (first | refine stp ?_ | refine And.intro ?_ ?_ | (intro e; exfalso; omega) | (intro e; subst e) | intro _)); (exact ra2 () rfl (he := (en2 (ArcX.shut d4 h1 h2 iv3)).trans (en2 ArcAt.shut)))⟩
end Go.Proofs.Ytcgdkcdlglbigaa
