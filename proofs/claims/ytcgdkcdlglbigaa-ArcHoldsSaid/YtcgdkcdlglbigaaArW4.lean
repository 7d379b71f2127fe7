/- arc, walked: requests. -/
import Derived.Test.YtcgdkcdlglbigaaArW3
import Derived.Test.YtcgdkcdlglbigaaArMiss
namespace Go.Proofs.Ytcgdkcdlglbigaa
open Go.Lk Go.Sl Go.Gh Go.Lr Go.Tb Go.Ar
attribute [local irreducible] TK TL TC Th Bk Nx fnPost WA TQ OpQ OpN SpecH Rd Ent IterH RoundH Rb Rp fnPostM
attribute [local irreducible] Fld.addE Fld.addF Fld.befE Fld.befF Fld.inE Fld.remF Fld.first Fld.last Fld.next Fld.prev Fld.ofR Fld.listOf Fld.joinE Fld.joinF renE renG Fld.at Fld.set Fld.place
attribute [local irreducible] Gh.addL Gh.addV Gh.addB Lr.addL Lr.addE Lr.useL Lr.remE Ar.useS Ar.roomS Ar.missS Ar.roomB Ar.roomO Ar.missB Ar.missO Ar.useL Ar.useO Ar.useH Ar.upT Ar.downT
set_option maxHeartbeats 16000000 in
instance ar_miss : Known Try.prog 71 (∀ (p po pa pf pb size : Nat) (O E A B : List Nat) (t : Nat), SpecH Try.prog 71 #[.pointer (some ⟨p, 0, none⟩)] [ArcX p po pa pf pb size O E A B t] (fun _ : Unit => .agg #[.bool false, .bool (missB size ⟨O, E, A, B, t⟩), .int .u32 (missO size ⟨O, E, A, B, t⟩ : Nat)]) (fun _ => [ArcX p po pa pf pb size (missS size ⟨O, E, A, B, t⟩).O (missS size ⟨O, E, A, B, t⟩).F (missS size ⟨O, E, A, B, t⟩).A (missS size ⟨O, E, A, B, t⟩).B t])) := ⟨fun p po pa pf pb size O E A B t => by
  refine spec_of Try.func71 rfl Try.ntmps71 rfl [(0, _)] rfl ?_; intro base F l0 hl0; (try simp only [List.cons_append] at hl0); (try simp only [List.nil_append] at hl0); subst hl0
  refine ArcX.openC fun kv K fr Lo Lf bm aK cK af cf tw h1 h2 iv => ?_
  have hkl := tw.tab.kl
  have hlen := tw.len
  have hol := tw.qlen
  have hfl := tw.mlen
  have htot := tw.tab.tot
  rw [List.length_append] at htot
  obtain ⟨iv', _, ⟨z1, z2, z3⟩, _⟩ := iv.miss h1
  obtain ⟨l1, l2, l3, l4⟩ := iv.lens
  by_cases c1 : O.length = size
  · have hne : O ≠ [] := fun e => by rw [e] at c1; simp only [List.length_nil] at c1; omega
    have hLo : Lo ≠ [] := fun e => by rw [e] at hol; exact hne (List.length_eq_zero_iff.1 hol)
    obtain ⟨z, Lo, rfl⟩ := List.exists_cons_of_ne_nil hLo
    obtain ⟨w1, w2, w3, w4, w5⟩ := tw.evictQ
    have hkk := tw.tab.klt w3
    obtain ⟨e1, e2, e3⟩ := miss_full (E := E) (A := A) (B := B) (t := t) c1
    rw [e1] at iv'
    rw [e1, e2, e3, ← w1]
    (repeat' (first | ((fail_if_success (refine atD ?_)); refine stp ?_) | refine And.intro ?_ ?_ | (intro e; exfalso; omega) | (intro e; subst e) | intro _)); refine drx [] ?_; refine tks [0, 6, 1, 7, 2, 8, 3, 9, 4, 10] 4 ?_; (repeat' (first | refine stp ?_ | refine And.intro ?_ ?_ | (intro e; exfalso; omega) | (intro e; subst e) | intro _)); refine hv 5 fun x5 => ?_; refine hv 11 fun x11 => ?_; refine tks [12, 13] 0 ?_; (repeat' (first | ((fail_if_success (refine atD ?_)); refine stp ?_) | refine And.intro ?_ ?_ | (intro e; exfalso; omega) | (intro e; subst e) | intro _)); refine drx [] ?_; refine tks [0, 2, 4, 5, 6, 7, 8] 5 ?_; (repeat' (first | refine stp ?_ | refine And.intro ?_ ?_ | (intro e; exfalso; omega) | (intro e; subst e) | intro _)); refine hv 1 fun x1 => ?_; refine tks [3] 3 ?_; (repeat' (first | refine stp ?_ | refine And.intro ?_ ?_ | (intro e; exfalso; omega) | (intro e; subst e) | intro _)); refine hv 9 fun x9 => ?_; refine tks [10, 11] 0 ?_
    repeat' (first | refine stp ?_ | refine And.intro ?_ ?_ | (intro e; exfalso; omega) | (intro e; subst e) | intro _)
    exact ra1 () rfl (he := en2 (ArcX.shutN (nf := fr.length + 1) w5 h1 h2 iv' (by simp)))
  by_cases c2 : O.length + A.length = size
  · obtain ⟨e1, e2, e3⟩ := miss_a (E := E) (B := B) (t := t) c1 c2
    have hF : O.length = size → fromO false ⟨O, E, A.dropLast, B, t⟩ := fun x => absurd x c1
    rw [e1, e2, e3]
    (repeat' (first | ((fail_if_success (refine atD ?_)); refine stp ?_) | refine And.intro ?_ ?_ | (intro e; exfalso; omega) | (intro e; subst e) | intro _)); refine drx [] ?_; refine tks [0, 6, 1, 7, 2, 8, 3, 9, 4, 10] 4 ?_; (repeat' (first | refine stp ?_ | refine And.intro ?_ ?_ | (intro e; exfalso; omega) | (intro e; subst e) | intro _)); refine hv 5 fun x5 => ?_; refine hv 11 fun x11 => ?_; refine tks [12, 13] 0 ?_; (repeat' (first | ((fail_if_success (refine atD ?_)); refine stp ?_) | refine And.intro ?_ ?_ | (intro e; exfalso; omega) | (intro e; subst e) | intro _)); refine drx [] ?_; refine tks [0, 2, 4, 5, 6, 7, 8] 5 ?_; (repeat' (first | refine stp ?_ | refine And.intro ?_ ?_ | (intro e; exfalso; omega) | (intro e; subst e) | intro _)); refine hv 1 fun x1 => ?_; refine tks [3] 3 ?_; (repeat' (first | refine stp ?_ | refine And.intro ?_ ?_ | (intro e; exfalso; omega) | (intro e; subst e) | intro _)); refine hv 9 fun x9 => ?_; refine tks [10, 11] 0 ?_
    repeat' (first | ((fail_if_success (refine atCall 70 ?_)); refine stp ?_) | refine And.intro ?_ ?_ | (intro e; exfalso; omega) | (intro e; subst e) | intro _)
    refine TL.ent (en2 (ArcX.shut (A := A.dropLast) tw h1 h2 iv.popA)) ?_
    repeat' (first | refine stp ?_ | refine And.intro ?_ ?_ | (intro e; exfalso; omega) | (intro e; subst e) | intro _)
    exact ra1 () rfl
  by_cases c3 : O.length + E.length + A.length + B.length = 2 * size
  · obtain ⟨e1, e2, e3⟩ := miss_b (t := t) c1 c2 c3
    have hF : O.length = size → fromO false ⟨O, E, A, B.dropLast, t⟩ := fun x => absurd x c1
    rw [e1, e2, e3]
    (repeat' (first | ((fail_if_success (refine atD ?_)); refine stp ?_) | refine And.intro ?_ ?_ | (intro e; exfalso; omega) | (intro e; subst e) | intro _)); refine drx [] ?_; refine tks [0, 6, 1, 7, 2, 8, 3, 9, 4, 10] 4 ?_; (repeat' (first | refine stp ?_ | refine And.intro ?_ ?_ | (intro e; exfalso; omega) | (intro e; subst e) | intro _)); refine hv 5 fun x5 => ?_; refine hv 11 fun x11 => ?_; refine tks [12, 13] 0 ?_; (repeat' (first | ((fail_if_success (refine atD ?_)); refine stp ?_) | refine And.intro ?_ ?_ | (intro e; exfalso; omega) | (intro e; subst e) | intro _)); refine drx [] ?_; refine tks [0, 2, 4, 5, 6, 7, 8] 5 ?_; (repeat' (first | refine stp ?_ | refine And.intro ?_ ?_ | (intro e; exfalso; omega) | (intro e; subst e) | intro _)); refine hv 1 fun x1 => ?_; refine tks [3] 3 ?_; (repeat' (first | refine stp ?_ | refine And.intro ?_ ?_ | (intro e; exfalso; omega) | (intro e; subst e) | intro _)); refine hv 9 fun x9 => ?_; refine tks [10, 11] 0 ?_
    repeat' (first | ((fail_if_success (refine atCall 70 ?_)); refine stp ?_) | refine And.intro ?_ ?_ | (intro e; exfalso; omega) | (intro e; subst e) | intro _)
    refine TL.ent (en2 (ArcX.shut (B := B.dropLast) tw h1 h2 iv.popB)) ?_
    repeat' (first | refine stp ?_ | refine And.intro ?_ ?_ | (intro e; exfalso; omega) | (intro e; subst e) | intro _)
    exact ra1 () rfl
  obtain ⟨e1, e2, e3⟩ := miss_c (t := t) c1 c2 c3
  by_cases c4 : O.length + E.length + A.length + B.length < size
  · obtain ⟨f1, f2, f3⟩ := room_no (often := false) (A := A) (B := B) (t := t) (show O.length + E.length < size by omega)
    rw [e1, e2, e3, f1, f2, f3]
    (repeat' (first | ((fail_if_success (refine atD ?_)); refine stp ?_) | refine And.intro ?_ ?_ | (intro e; exfalso; omega) | (intro e; subst e) | intro _)); refine drx [] ?_; refine tks [0, 6, 1, 7, 2, 8, 3, 9, 4, 10] 4 ?_; (repeat' (first | refine stp ?_ | refine And.intro ?_ ?_ | (intro e; exfalso; omega) | (intro e; subst e) | intro _)); refine hv 5 fun x5 => ?_; refine hv 11 fun x11 => ?_; refine tks [12, 13] 0 ?_; (repeat' (first | ((fail_if_success (refine atD ?_)); refine stp ?_) | refine And.intro ?_ ?_ | (intro e; exfalso; omega) | (intro e; subst e) | intro _)); refine drx [] ?_; refine tks [0, 2, 4, 5, 6, 7, 8] 5 ?_; (repeat' (first | refine stp ?_ | refine And.intro ?_ ?_ | (intro e; exfalso; omega) | (intro e; subst e) | intro _)); refine hv 1 fun x1 => ?_; refine tks [3] 3 ?_; (repeat' (first | refine stp ?_ | refine And.intro ?_ ?_ | (intro e; exfalso; omega) | (intro e; subst e) | intro _)); refine hv 9 fun x9 => ?_; refine tks [10, 11] 0 ?_
    repeat' (first | refine stp ?_ | refine And.intro ?_ ?_ | (intro e; exfalso; omega) | (intro e; subst e) | intro _)
    exact ra1 () rfl (he := en2 (ArcX.shut tw h1 h2 iv))
  · have hF : O.length = size → fromO false ⟨O, E, A, B, t⟩ := fun x => absurd x c1
    rw [e1, e2, e3]
    (repeat' (first | ((fail_if_success (refine atD ?_)); refine stp ?_) | refine And.intro ?_ ?_ | (intro e; exfalso; omega) | (intro e; subst e) | intro _)); refine drx [] ?_; refine tks [0, 6, 1, 7, 2, 8, 3, 9, 4, 10] 4 ?_; (repeat' (first | refine stp ?_ | refine And.intro ?_ ?_ | (intro e; exfalso; omega) | (intro e; subst e) | intro _)); refine hv 5 fun x5 => ?_; refine hv 11 fun x11 => ?_; refine tks [12, 13] 0 ?_; (repeat' (first | ((fail_if_success (refine atD ?_)); refine stp ?_) | refine And.intro ?_ ?_ | (intro e; exfalso; omega) | (intro e; subst e) | intro _)); refine drx [] ?_; refine tks [0, 2, 4, 5, 6, 7, 8] 5 ?_; (repeat' (first | refine stp ?_ | refine And.intro ?_ ?_ | (intro e; exfalso; omega) | (intro e; subst e) | intro _)); refine hv 1 fun x1 => ?_; refine tks [3] 3 ?_; (repeat' (first | refine stp ?_ | refine And.intro ?_ ?_ | (intro e; exfalso; omega) | (intro e; subst e) | intro _)); refine hv 9 fun x9 => ?_; refine tks [10, 11] 0 ?_
    repeat' (first | ((fail_if_success (refine atCall 70 ?_)); refine stp ?_) | refine And.intro ?_ ?_ | (intro e; exfalso; omega) | (intro e; subst e) | intro _)
    refine TL.ent (en2 (ArcX.shut tw h1 h2 iv)) ?_
    repeat' (first | refine stp ?_ | refine And.intro ?_ ?_ | (intro e; exfalso; omega) | (intro e; subst e) | intro _)
    exact ra1 () rfl⟩
end Go.Proofs.Ytcgdkcdlglbigaa
