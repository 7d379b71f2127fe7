/- The reference of arc, walked: any request; a key that is dropped. -/
import Derived.Test.YtcgdkcdlglbigaaArR2
import Derived.Test.YtcgdkcdlglbigaaArW5
namespace Go.Proofs.Ytcgdkcdlglbigaa
open Go.Lk Go.Sl Go.Gh Go.Tb Go.Ar
attribute [local irreducible] TK TL TC Th Bk Nx fnPost WA TQ OpQ OpN SpecH Rd Ent IterH RoundH Rb Rp fnPostM
attribute [local irreducible] Gh.addL Gh.addV Gh.addB Ar.useS Ar.roomS Ar.missS Ar.roomB Ar.roomO Ar.missB Ar.missO Ar.useL Ar.useO Ar.useH Ar.upT Ar.downT
set_option maxHeartbeats 16000000 in
instance ra_use : Known Try.prog 76 (∀ (a1 a2 a3 a4 : Option Addr) (n1 n2 n3 n4 c1 c2 c3 c4 size t : Nat) (O E A B : List Nat) (xk : Int) (k : Nat) [NatI xk k], k < 4294967296 → n1 = O.length → n2 = E.length → n3 = A.length → n4 = B.length → Inv size ⟨O, E, A, B, t⟩ → 1 ≤ size → size ≤ 1024 → SpecH Try.prog 76 #[.agg #[.int .i64 (size : Nat), .slice a1 n1 c1, .slice a2 n2 c2, .slice a3 n3 c3, .slice a4 n4 c4, .int .i64 (t : Nat)], .int .u32 xk] [RoS 1 a1 n1 c1 (u32s O), RoS 1 a2 n2 c2 (u32s E), RoS 1 a3 n3 c3 (u32s A), RoS 1 a4 n4 c4 (u32s B)] (fun q : S4 => .tuple #[.agg #[.int .i64 (size : Nat), .slice q.1.1 (Ar.useS size ⟨O, E, A, B, t⟩ k).O.length q.1.2, .slice q.2.1.1 (Ar.useS size ⟨O, E, A, B, t⟩ k).F.length q.2.1.2, .slice q.2.2.1.1 (Ar.useS size ⟨O, E, A, B, t⟩ k).A.length q.2.2.1.2, .slice q.2.2.2.1 (Ar.useS size ⟨O, E, A, B, t⟩ k).B.length q.2.2.2.2, .int .i64 ((Ar.useS size ⟨O, E, A, B, t⟩ k).t : Nat)], .agg #[.bool (Ar.useH ⟨O, E, A, B, t⟩ k), .bool (Ar.useL size ⟨O, E, A, B, t⟩ k), .int .u32 (Ar.useO size ⟨O, E, A, B, t⟩ k : Nat)]]) (fun q => [RoS 1 q.1.1 (Ar.useS size ⟨O, E, A, B, t⟩ k).O.length q.1.2 (u32s (Ar.useS size ⟨O, E, A, B, t⟩ k).O), RoS 1 q.2.1.1 (Ar.useS size ⟨O, E, A, B, t⟩ k).F.length q.2.1.2 (u32s (Ar.useS size ⟨O, E, A, B, t⟩ k).F), RoS 1 q.2.2.1.1 (Ar.useS size ⟨O, E, A, B, t⟩ k).A.length q.2.2.1.2 (u32s (Ar.useS size ⟨O, E, A, B, t⟩ k).A), RoS 1 q.2.2.2.1 (Ar.useS size ⟨O, E, A, B, t⟩ k).B.length q.2.2.2.2 (u32s (Ar.useS size ⟨O, E, A, B, t⟩ k).B)])) := ⟨fun a1 a2 a3 a4 n1 n2 n3 n4 c1 c2 c3 c4 size t O E A B xk k _ hk e1 e2 e3 e4 iv h1 h2 => by
  obtain rfl : xk = (k : Int) := NatI.out
  subst e1; subst e2; subst e3; subst e4
  obtain ⟨l1, l2, l3, l4⟩ := iv.lens
  obtain ⟨⟨o, f, a, b⟩, q1, q2, q3⟩ := iv.parts
  refine spec_of Try.func76 rfl Try.ntmps76 rfl [(0, _), (1, _)] rfl ?_; intro base F l0 hl0; (try simp only [List.cons_append] at hl0); (try simp only [List.nil_append] at hl0); subst hl0
  haveI := ra_hasB
  haveI := ra_inB
  by_cases hin : k ∈ O ∨ k ∈ E
  · obtain ⟨f1, f2, f3, f4⟩ := use_hit (size := size) (A := A) (B := B) (t := t) hin
    have f4' : ((Ar.useO size ⟨O, E, A, B, t⟩ k : Nat) : Int) = 0 := by rw [f4]; rfl
    have hd : HasA O E k true := ⟨decide_eq_true hin⟩
    have hw1 : wo O k = O.erase k := filter_ne_erase o
    have hw2 : wo E k = E.erase k := filter_ne_erase f
    have hl2 : (wo E k).length ≤ E.length := List.length_filter_le _ _
    rw [f1, f2, f3, f4', ← hw1, ← hw2]
    repeat' (first | ((fail_if_success (refine atD ?_)); refine stp ?_) | refine And.intro ?_ ?_ | (intro e; exfalso; omega) | (intro e; subst e) | intro _)
    refine tail 7 ?_
    repeat' (first | refine stp ?_ | refine And.intro ?_ ?_ | (intro e; exfalso; omega) | (intro e; subst e) | intro _)
    rename_i b2 b4 b5 b6 oa oc _ _ ea ec
    exact raa ((oa, oc), (ea, ec), (a3, c3), a4, c4) rfl
  have hd : HasA O E k false := ⟨decide_eq_false hin⟩
  by_cases hA : k ∈ A
  · have hd1 : MemR A k true := ⟨decide_eq_true hA⟩
    have hAl := List.length_pos_of_mem hA
    obtain ⟨f1, f2, f3, f4⟩ := use_a (size := size) (B := B) (t := t) hin hA
    have hF : O.length = size → fromO false ⟨O, E, A, B, upT size ⟨O, E, A, B, t⟩⟩ := fun x => by omega
    have iv1 := iv.setT iv.up_le
    obtain ⟨r1, r2, r3⟩ := iv1.room (often := false) h1 hF
    have r4 := r1.len
    have r5 := r1.oa
    have r6 := r1.al
    obtain ⟨⟨_, _, s3, _⟩, _⟩ := r1.parts
    unfold Ar.all at r6
    rw [f1, f2, f3, f4]
    repeat' (first | ((fail_if_success (refine atD ?_)); refine stp ?_) | refine And.intro ?_ ?_ | (intro e; exfalso; omega) | (intro e; subst e) | intro _)
    refine tail 7 ?_
    repeat' (first | ((fail_if_success (refine atD ?_)); refine stp ?_) | refine And.intro ?_ ?_ | (intro e; exfalso; omega) | (intro e; subst e) | intro _)
    refine tail 9 ?_
    repeat' (first | refine stp ?_ | refine And.intro ?_ ?_ | (intro e; exfalso; omega) | (intro e; subst e) | intro _)
    have hd : B.length / A.length ≤ B.length := Nat.div_le_self _ _
    have hq : IntKind.i64.wrap ((B.length : Int) / (A.length : Int)) = ((B.length / A.length : Nat) : Int) := by
      rw [← Int.natCast_ediv]
      generalize B.length / A.length = qq at hd
      exact IntWalk.i64_in _ (by omega)
    refine tq_cons (opq_quo (by (first | exact want_none rfl | exact want_yes rfl rfl rfl rfl rfl | fail)) rfl rfl (by omega) (by omega)) rfl ?_
    rw [hq]
    have hu := upT_int (size := size) (t := t) (O := O) (F := E) (A := A) (B := B)
    generalize B.length / A.length = qq at hd hu
    clear hq
    repeat' (first | ((fail_if_success (refine atCall 107 ?_)); refine stp ?_) | refine And.intro ?_ ?_ | (intro e; exfalso; omega) | (intro e; subst e) | intro _)
    rw [hu]
    have hw : wo (roomS size false ⟨O, E, A, B, upT size ⟨O, E, A, B, t⟩⟩).A k = (roomS size false ⟨O, E, A, B, upT size ⟨O, E, A, B, t⟩⟩).A.erase k := filter_ne_erase s3
    rw [← hw]
    repeat' (first | ((fail_if_success (refine atD ?_)); refine stp ?_) | refine And.intro ?_ ?_ | (intro e; exfalso; omega) | (intro e; subst e) | intro _)
    rename_i b2 b4 b5 b6 ra rb wa wc na nc
    refine drx [obj b4 78 [.int .i64 0, .slice none 0 0, .slice none 0 0, .slice none 0 0, .slice none 0 0, .int .i64 0], obj b5 33 [.bool false, .bool false, .int .u32 0]] ?_; refine tks [0, 1] 2 ?_; (repeat' (first | refine stp ?_ | refine And.intro ?_ ?_ | (intro e; exfalso; omega) | (intro e; subst e) | intro _)); refine hv0 2 fun _ => ?_; refine hv0 3 fun _ => ?_; (repeat' (first | refine stp ?_ | refine And.intro ?_ ?_ | (intro e; exfalso; omega) | (intro e; subst e) | intro _))
    exact raa (ra, (na, nc), (wa, wc), rb.2.2) rfl
  have hd1 : MemR A k false := ⟨decide_eq_false hA⟩
  by_cases hB : k ∈ B
  · have hd2 : MemR B k true := ⟨decide_eq_true hB⟩
    have hBl := List.length_pos_of_mem hB
    have hdl := iv.down_le
    obtain ⟨f1, f2, f3, f4⟩ := use_b (size := size) (t := t) hin hA hB
    have hF : O.length = size → fromO true ⟨O, E, A, B, downT ⟨O, E, A, B, t⟩⟩ := fun x => ⟨show 0 < O.length by omega, (Nat.lt_or_eq_of_le (show downT ⟨O, E, A, B, t⟩ ≤ O.length by omega)).elim .inl (fun h => .inr ⟨h.symm, rfl⟩)⟩
    have iv1 := iv.setT hdl
    obtain ⟨r1, r2, r3⟩ := iv1.room (often := true) h1 hF
    have r4 := r1.len
    have r5 := r1.oa
    have r6 := r1.al
    obtain ⟨⟨_, _, _, s3⟩, _⟩ := r1.parts
    unfold Ar.all at r6
    rw [f1, f2, f3, f4]
    repeat' (first | ((fail_if_success (refine atD ?_)); refine stp ?_) | refine And.intro ?_ ?_ | (intro e; exfalso; omega) | (intro e; subst e) | intro _)
    refine tail 7 ?_
    repeat' (first | ((fail_if_success (refine atD ?_)); refine stp ?_) | refine And.intro ?_ ?_ | (intro e; exfalso; omega) | (intro e; subst e) | intro _)
    refine tail 6 ?_
    repeat' (first | refine stp ?_ | refine And.intro ?_ ?_ | (intro e; exfalso; omega) | (intro e; subst e) | intro _)
    have hd : A.length / B.length ≤ A.length := Nat.div_le_self _ _
    have hq : IntKind.i64.wrap ((A.length : Int) / (B.length : Int)) = ((A.length / B.length : Nat) : Int) := by
      rw [← Int.natCast_ediv]
      generalize A.length / B.length = qq at hd
      exact IntWalk.i64_in _ (by omega)
    refine tq_cons (opq_quo (by (first | exact want_none rfl | exact want_yes rfl rfl rfl rfl rfl | fail)) rfl rfl (by omega) (by omega)) rfl ?_
    rw [hq]
    have hu := downT_int (t := t) (O := O) (F := E) (A := A) (B := B)
    generalize A.length / B.length = qq at hd hu
    clear hq
    repeat' (first | ((fail_if_success (refine atCall 107 ?_)); refine stp ?_) | refine And.intro ?_ ?_ | (intro e; exfalso; omega) | (intro e; subst e) | intro _)
    rw [hu]
    have hw : wo (roomS size true ⟨O, E, A, B, downT ⟨O, E, A, B, t⟩⟩).B k = (roomS size true ⟨O, E, A, B, downT ⟨O, E, A, B, t⟩⟩).B.erase k := filter_ne_erase s3
    rw [← hw]
    repeat' (first | ((fail_if_success (refine atD ?_)); refine stp ?_) | refine And.intro ?_ ?_ | (intro e; exfalso; omega) | (intro e; subst e) | intro _)
    rename_i b2 b4 b5 b6 ra rb wa wc na nc
    refine drx [obj b4 78 [.int .i64 0, .slice none 0 0, .slice none 0 0, .slice none 0 0, .slice none 0 0, .int .i64 0], obj b5 33 [.bool false, .bool false, .int .u32 0]] ?_; refine tks [0, 1] 2 ?_; (repeat' (first | refine stp ?_ | refine And.intro ?_ ?_ | (intro e; exfalso; omega) | (intro e; subst e) | intro _)); refine hv0 2 fun _ => ?_; refine hv0 3 fun _ => ?_; (repeat' (first | refine stp ?_ | refine And.intro ?_ ?_ | (intro e; exfalso; omega) | (intro e; subst e) | intro _))
    exact raa (ra, (na, nc), rb.2.1, (wa, wc)) rfl
  have hd2 : MemR B k false := ⟨decide_eq_false hB⟩
  obtain ⟨f1, f2, f3, f4⟩ := use_new (size := size) (t := t) hin hA hB
  obtain ⟨m1, m2, ⟨m3, m4, m5⟩, _⟩ := iv.miss h1
  rw [f1, f2, f3, f4]
  by_cases z1 : O.length = size
  · obtain ⟨g1, g2, g3⟩ := miss_full (E := E) (A := A) (B := B) (t := t) z1
    have hne : O ≠ [] := fun e => by rw [e] at z1; simp only [List.length_nil] at z1; omega
    have hdl : O.dropLast.length = O.length - 1 := List.length_dropLast
    have hA0 : A.length = 0 := by omega
    rw [g1, g2, g3]
    clear g1 g2 g3 m1 m2 m3 m4 m5
    repeat' (first | ((fail_if_success (refine atD ?_)); refine stp ?_) | refine And.intro ?_ ?_ | (intro e; exfalso; omega) | (intro e; subst e) | intro _)
    refine tail 7 ?_
    repeat' (first | ((fail_if_success (refine atD ?_)); refine stp ?_) | refine And.intro ?_ ?_ | (intro e; exfalso; omega) | (intro e; subst e) | intro _)
    rename_i b2 b4 b5 b6 _ _ na nc
    refine drx [obj b4 78 [.int .i64 0, .slice none 0 0, .slice none 0 0, .slice none 0 0, .slice none 0 0, .int .i64 0], obj b5 33 [.bool false, .bool false, .int .u32 0]] ?_; refine tks [0, 1] 2 ?_; (repeat' (first | refine stp ?_ | refine And.intro ?_ ?_ | (intro e; exfalso; omega) | (intro e; subst e) | intro _)); refine hv0 2 fun _ => ?_; refine hv0 3 fun _ => ?_; (repeat' (first | refine stp ?_ | refine And.intro ?_ ?_ | (intro e; exfalso; omega) | (intro e; subst e) | intro _))
    exact raa ((na, nc), (a2, c2), (a3, c3), a4, c4) rfl
  by_cases z2 : O.length + A.length = size
  · obtain ⟨g1, g2, g3⟩ := miss_a (E := E) (B := B) (t := t) z1 z2
    have hne : A ≠ [] := fun e => by rw [e] at z2; simp only [List.length_nil] at z2; omega
    have hdl : A.dropLast.length = A.length - 1 := List.length_dropLast
    rw [g1, g2, g3]
    rw [g1] at m3 m4 m5
    clear g1 g2 g3
    repeat' (first | ((fail_if_success (refine atD ?_)); refine stp ?_) | refine And.intro ?_ ?_ | (intro e; exfalso; omega) | (intro e; subst e) | intro _)
    refine tail 7 ?_
    repeat' (first | ((fail_if_success (refine atD ?_)); refine stp ?_) | refine And.intro ?_ ?_ | (intro e; exfalso; omega) | (intro e; subst e) | intro _)
    rename_i b2 b4 b5 b6 _ _ ra rb na nc
    refine drx [obj b4 78 [.int .i64 0, .slice none 0 0, .slice none 0 0, .slice none 0 0, .slice none 0 0, .int .i64 0], obj b5 33 [.bool false, .bool false, .int .u32 0]] ?_; refine tks [0, 1] 2 ?_; (repeat' (first | refine stp ?_ | refine And.intro ?_ ?_ | (intro e; exfalso; omega) | (intro e; subst e) | intro _)); refine hv0 2 fun _ => ?_; refine hv0 3 fun _ => ?_; (repeat' (first | refine stp ?_ | refine And.intro ?_ ?_ | (intro e; exfalso; omega) | (intro e; subst e) | intro _))
    exact raa ((na, nc), rb.1, rb.2.1, rb.2.2) rfl
  by_cases z3 : O.length + E.length + A.length + B.length = 2 * size
  · obtain ⟨g1, g2, g3⟩ := miss_b (t := t) z1 z2 z3
    have hne : B ≠ [] := fun e => by rw [e] at z3; simp only [List.length_nil] at z3; omega
    have hdl : B.dropLast.length = B.length - 1 := List.length_dropLast
    rw [g1, g2, g3]
    rw [g1] at m3 m4 m5
    clear g1 g2 g3
    repeat' (first | ((fail_if_success (refine atD ?_)); refine stp ?_) | refine And.intro ?_ ?_ | (intro e; exfalso; omega) | (intro e; subst e) | intro _)
    refine tail 7 ?_
    repeat' (first | ((fail_if_success (refine atD ?_)); refine stp ?_) | refine And.intro ?_ ?_ | (intro e; exfalso; omega) | (intro e; subst e) | intro _)
    rename_i b2 b4 b5 b6 _ _ ra rb na nc
    refine drx [obj b4 78 [.int .i64 0, .slice none 0 0, .slice none 0 0, .slice none 0 0, .slice none 0 0, .int .i64 0], obj b5 33 [.bool false, .bool false, .int .u32 0]] ?_; refine tks [0, 1] 2 ?_; (repeat' (first | refine stp ?_ | refine And.intro ?_ ?_ | (intro e; exfalso; omega) | (intro e; subst e) | intro _)); refine hv0 2 fun _ => ?_; refine hv0 3 fun _ => ?_; (repeat' (first | refine stp ?_ | refine And.intro ?_ ?_ | (intro e; exfalso; omega) | (intro e; subst e) | intro _))
    exact raa ((na, nc), rb.1, rb.2.1, rb.2.2) rfl
  obtain ⟨g1, g2, g3⟩ := miss_c (t := t) z1 z2 z3
  rw [g1, g2, g3]
  rw [g1] at m3 m4 m5
  clear g1 g2 g3
  by_cases z4 : O.length + E.length + A.length + B.length < size
  · obtain ⟨g4, g5, g6⟩ := room_no (often := false) (A := A) (B := B) (t := t) (show O.length + E.length < size by omega)
    rw [g4, g5, g6]
    repeat' (first | ((fail_if_success (refine atD ?_)); refine stp ?_) | refine And.intro ?_ ?_ | (intro e; exfalso; omega) | (intro e; subst e) | intro _)
    refine tail 7 ?_
    repeat' (first | ((fail_if_success (refine atD ?_)); refine stp ?_) | refine And.intro ?_ ?_ | (intro e; exfalso; omega) | (intro e; subst e) | intro _)
    rename_i b2 b4 b5 b6 na nc
    refine drx [obj b4 78 [.int .i64 0, .slice none 0 0, .slice none 0 0, .slice none 0 0, .slice none 0 0, .int .i64 0], obj b5 33 [.bool false, .bool false, .int .u32 0]] ?_; refine tks [0, 1] 2 ?_; (repeat' (first | refine stp ?_ | refine And.intro ?_ ?_ | (intro e; exfalso; omega) | (intro e; subst e) | intro _)); refine hv0 2 fun _ => ?_; refine hv0 3 fun _ => ?_; (repeat' (first | refine stp ?_ | refine And.intro ?_ ?_ | (intro e; exfalso; omega) | (intro e; subst e) | intro _))
    exact raa ((na, nc), (a2, c2), (a3, c3), a4, c4) rfl
  · repeat' (first | ((fail_if_success (refine atD ?_)); refine stp ?_) | refine And.intro ?_ ?_ | (intro e; exfalso; omega) | (intro e; subst e) | intro _)
    refine tail 7 ?_
    repeat' (first | ((fail_if_success (refine atD ?_)); refine stp ?_) | refine And.intro ?_ ?_ | (intro e; exfalso; omega) | (intro e; subst e) | intro _)
    rename_i b2 b4 b5 b6 ra rb na nc
    refine drx [obj b4 78 [.int .i64 0, .slice none 0 0, .slice none 0 0, .slice none 0 0, .slice none 0 0, .int .i64 0], obj b5 33 [.bool false, .bool false, .int .u32 0]] ?_; refine tks [0, 1] 2 ?_; (repeat' (first | refine stp ?_ | refine And.intro ?_ ?_ | (intro e; exfalso; omega) | (intro e; subst e) | intro _)); refine hv0 2 fun _ => ?_; refine hv0 3 fun _ => ?_; (repeat' (first | refine stp ?_ | refine And.intro ?_ ?_ | (intro e; exfalso; omega) | (intro e; subst e) | intro _))
    exact raa ((na, nc), rb.1, rb.2.1, rb.2.2) rfl⟩
set_option maxHeartbeats 4000000 in
instance ra_drop : Known Try.prog 77 (∀ (a1 a2 a3 a4 : Option Addr) (n1 n2 n3 n4 c1 c2 c3 c4 size t : Nat) (O E A B : List Nat) (xk : Int) (k : Nat) [NatI xk k], n1 = O.length → n2 = E.length → n3 = A.length → n4 = B.length → Inv size ⟨O, E, A, B, t⟩ → 1 ≤ size → size ≤ 1024 → SpecH Try.prog 77 #[.agg #[.int .i64 (size : Nat), .slice a1 n1 c1, .slice a2 n2 c2, .slice a3 n3 c3, .slice a4 n4 c4, .int .i64 (t : Nat)], .int .u32 xk] [RoS 1 a1 n1 c1 (u32s O), RoS 1 a2 n2 c2 (u32s E), RoS 1 a3 n3 c3 (u32s A), RoS 1 a4 n4 c4 (u32s B)] (fun q : S4 => .tuple #[.agg #[.int .i64 (size : Nat), .slice q.1.1 (O.erase k).length q.1.2, .slice q.2.1.1 (E.erase k).length q.2.1.2, .slice q.2.2.1.1 A.length q.2.2.1.2, .slice q.2.2.2.1 B.length q.2.2.2.2, .int .i64 (t : Nat)], .bool (decide (k ∈ O ∨ k ∈ E))]) (fun q => [RoS 1 q.1.1 (O.erase k).length q.1.2 (u32s (O.erase k)), RoS 1 q.2.1.1 (E.erase k).length q.2.1.2 (u32s (E.erase k)), RoS 1 q.2.2.1.1 A.length q.2.2.1.2 (u32s A), RoS 1 q.2.2.2.1 B.length q.2.2.2.2 (u32s B)])) := ⟨fun a1 a2 a3 a4 n1 n2 n3 n4 c1 c2 c3 c4 size t O E A B xk k _ e1 e2 e3 e4 iv h1 h2 => by
  obtain rfl : xk = (k : Int) := NatI.out
  subst e1; subst e2; subst e3; subst e4
  obtain ⟨l1, l2, l3, l4⟩ := iv.lens
  obtain ⟨⟨o, f, a, b⟩, q1, q2, q3⟩ := iv.parts
  have hw1 : wo O k = O.erase k := filter_ne_erase o
  have hw2 : wo E k = E.erase k := filter_ne_erase f
  rw [← hw1, ← hw2]
  refine spec_of Try.func77 rfl Try.ntmps77 rfl [(0, _), (1, _)] rfl ?_; intro base F l0 hl0; (try simp only [List.cons_append] at hl0); (try simp only [List.nil_append] at hl0); subst hl0
  repeat' (first | ((fail_if_success (refine atD ?_)); refine stp ?_) | refine And.intro ?_ ?_ | (intro e; exfalso; omega) | (intro e; subst e) | intro _)
  rename_i b1 b2
  refine drx [obj b1 78 [.int .i64 (size : Nat), .slice a1 O.length c1, .slice a2 E.length c2, .slice a3 A.length c3, .slice a4 B.length c4, .int .i64 (t : Nat)]] ?_
  refine tks [0, 2, 4, 6] 8 ?_; repeat' (first | refine stp ?_ | refine And.intro ?_ ?_ | (intro e; exfalso; omega) | (intro e; subst e) | intro _)
  refine hvB 1 5 (fun _ => ?_) (fun _ => ?_)
  · refine hvB 3 5 (fun x3 => ?_) (fun _ => ?_)
    · refine hvr 5 ?_
      refine tks [8] 4 ?_; (repeat' (first | refine stp ?_ | refine And.intro ?_ ?_ | (intro e; exfalso; omega) | (intro e; subst e) | intro _)); refine hv 7 fun x7 => ?_; refine hv0 9 fun _ => ?_; refine tks [10] 1 ?_; (repeat' (first | refine stp ?_ | refine And.intro ?_ ?_ | (intro e; exfalso; omega) | (intro e; subst e) | intro _)); refine hv0 11 fun _ => ?_; (repeat' (first | refine stp ?_ | refine And.intro ?_ ?_ | (intro e; exfalso; omega) | (intro e; subst e) | intro _)); exact ra2 ((x3.1, x3.2), (x7.1, x7.2), (a3, c3), a4, c4) rfl
    · refine hv 3 fun x3 => ?_
      refine tks [8] 4 ?_; (repeat' (first | refine stp ?_ | refine And.intro ?_ ?_ | (intro e; exfalso; omega) | (intro e; subst e) | intro _)); refine hv 7 fun x7 => ?_; refine hv0 9 fun _ => ?_; refine tks [10] 1 ?_; (repeat' (first | refine stp ?_ | refine And.intro ?_ ?_ | (intro e; exfalso; omega) | (intro e; subst e) | intro _)); refine hv0 11 fun _ => ?_; (repeat' (first | refine stp ?_ | refine And.intro ?_ ?_ | (intro e; exfalso; omega) | (intro e; subst e) | intro _)); exact ra2 ((x3.1, x3.2), (x7.1, x7.2), (a3, c3), a4, c4) rfl
  · refine hvr 1 ?_
    refine hv 3 fun x3 => ?_
    refine tks [8] 4 ?_; (repeat' (first | refine stp ?_ | refine And.intro ?_ ?_ | (intro e; exfalso; omega) | (intro e; subst e) | intro _)); refine hv 7 fun x7 => ?_; refine hv0 9 fun _ => ?_; refine tks [10] 1 ?_; (repeat' (first | refine stp ?_ | refine And.intro ?_ ?_ | (intro e; exfalso; omega) | (intro e; subst e) | intro _)); refine hv0 11 fun _ => ?_; (repeat' (first | refine stp ?_ | refine And.intro ?_ ?_ | (intro e; exfalso; omega) | (intro e; subst e) | intro _)); exact ra2 ((x3.1, x3.2), (x7.1, x7.2), (a3, c3), a4, c4) rfl⟩
end Go.Proofs.Ytcgdkcdlglbigaa
