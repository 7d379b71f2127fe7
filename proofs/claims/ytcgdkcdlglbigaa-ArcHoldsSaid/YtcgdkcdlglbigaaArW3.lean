/- arc, walked: room is made. -/
import Derived.Test.YtcgdkcdlglbigaaArW2
namespace Go.Ar
open Go.Lk Go.Sl Go.Tb
theorem addL_new {m k : Nat} {L : List Nat} (h : k ∉ L) (hl : L.length + 1 ≤ m) : Gh.addL m L k = k :: L := by unfold Gh.addL; rw [if_neg h, if_pos hl]
section
variable {size t : Nat} {often : Bool} {O F A B : List Nat}
theorem room_no (hr : O.length + F.length < size) : roomS size often ⟨O, F, A, B, t⟩ = ⟨O, F, A, B, t⟩ ∧ roomB size ⟨O, F, A, B, t⟩ = false ∧ ((roomO size often ⟨O, F, A, B, t⟩ : Nat) : Int) = 0 :=
  ⟨if_pos hr, decide_eq_false (by dsimp only; omega), by rw [show roomO size often ⟨O, F, A, B, t⟩ = 0 from if_pos hr]; rfl⟩
theorem room_o (hr : ¬ O.length + F.length < size) (hc : fromO often ⟨O, F, A, B, t⟩) : roomS size often ⟨O, F, A, B, t⟩ = ⟨O.dropLast, F, O.getLastD 0 :: A, B, t⟩ ∧ roomB size ⟨O, F, A, B, t⟩ = true ∧ roomO size often ⟨O, F, A, B, t⟩ = O.getLastD 0 :=
  ⟨by unfold roomS; rw [if_neg hr, if_pos hc], decide_eq_true (by dsimp only; omega), by unfold roomO; rw [if_neg hr, if_pos hc]⟩
theorem room_f (hr : ¬ O.length + F.length < size) (hc : ¬ fromO often ⟨O, F, A, B, t⟩) : roomS size often ⟨O, F, A, B, t⟩ = ⟨O, F.dropLast, A, F.getLastD 0 :: B, t⟩ ∧ roomB size ⟨O, F, A, B, t⟩ = true ∧ roomO size often ⟨O, F, A, B, t⟩ = F.getLastD 0 :=
  ⟨by unfold roomS; rw [if_neg hr, if_neg hc], decide_eq_true (by dsimp only; omega), by unfold roomO; rw [if_neg hr, if_neg hc]⟩
end
end Go.Ar
namespace Go.Proofs.Ytcgdkcdlglbigaa
open Go.Lk Go.Sl Go.Gh Go.Lr Go.Tb Go.Ar
attribute [local irreducible] TK TL TC Th Bk Nx fnPost WA TQ OpQ OpN SpecH Rd Ent IterH RoundH Rb Rp fnPostM
attribute [local irreducible] Fld.addE Fld.addF Fld.befE Fld.befF Fld.inE Fld.remF Fld.first Fld.last Fld.next Fld.prev Fld.ofR Fld.listOf Fld.joinE Fld.joinF renE renG Fld.at Fld.set Fld.place
attribute [local irreducible] Gh.addL Gh.addV Gh.addB Lr.addL Lr.addE Lr.useL Lr.remE Ar.useS Ar.roomS Ar.missS Ar.roomB Ar.roomO
set_option maxHeartbeats 4000000 in
instance ar_evict : Known Try.prog 103 (∀ (p pl size bm aK cK : Nat) (af : Option Addr) (cf z : Nat) (kv : List (Nat × Nat)) (K fr L : List Nat) (pg : Nat) (v4 v5 v6 v7 v8 : Value), mget kv (K.getD z 0) = some z → z < size → K.length = size → size ≤ 1024 → fr.length ≤ 1024 → K.getD z 0 < 4294967296 → SpecH Try.prog 103 #[.pointer (some ⟨p, 0, none⟩), .agg #[.pointer (some ⟨pl, 0, none⟩), .pointer (some ⟨pg, 0, none⟩)]] [obj p 90 [.int .i64 (size : Nat), .map (some bm), .slice (some ⟨aK, 0, none⟩) size cK, .slice af fr.length cf, v4, v5, v6, v7, v8], MapA .u32 (fun n : Nat => .int .u32 (n : Nat)) bm kv, Vec 31 1 (some ⟨aK, 0, none⟩) size cK (u32s K), Vec 31 1 af fr.length cf (u32s fr), LruAt pl (z :: L)] (fun _ : Option Addr × Nat => .int .u32 (K.getD z 0 : Nat)) (fun q => [obj p 90 [.int .i64 (size : Nat), .map (some bm), .slice (some ⟨aK, 0, none⟩) size cK, .slice q.1 (fr.length + 1) q.2, v4, v5, v6, v7, v8], MapA .u32 (fun n : Nat => .int .u32 (n : Nat)) bm (mdel kv (K.getD z 0)), Vec 31 1 (some ⟨aK, 0, none⟩) size cK (u32s K), Vec 31 1 q.1 (fr.length + 1) q.2 (u32s (fr ++ [z])), LruAt pl L])) := ⟨fun p pl size bm aK cK af cf z kv K fr L pg v4 v5 v6 v7 v8 hg hz hK hs hf hk => by
  refine spec_of Try.func103 rfl Try.ntmps103 rfl [(0, _), (1, _)] rfl ?_; intro base F l0 hl0; (try simp only [List.cons_append] at hl0); (try simp only [List.nil_append] at hl0); subst hl0
  have e1 : (z :: L).headD 0 = z := rfl
  have e2 : (z :: L).erase z = L := List.erase_cons_head ..
  repeat' (first | refine stp ?_ | refine And.intro ?_ ?_ | (intro e; exfalso; omega) | (intro e; subst e) | intro _)
  rename_i x a b
  rw [e1, e2]
  exact rt1 (a, b) rfl⟩
set_option maxHeartbeats 16000000 in
instance ar_room : Known Try.prog 70 (∀ (p po pa pf pb size : Nat) (O E A B : List Nat) (t : Nat) (often : Bool), (O.length = size → fromO often ⟨O, E, A, B, t⟩) → SpecH Try.prog 70 #[.pointer (some ⟨p, 0, none⟩), .bool often] [ArcX p po pa pf pb size O E A B t] (fun _ : Unit => .agg #[.bool false, .bool (roomB size ⟨O, E, A, B, t⟩), .int .u32 (roomO size often ⟨O, E, A, B, t⟩ : Nat)]) (fun _ => [ArcX p po pa pf pb size (roomS size often ⟨O, E, A, B, t⟩).O (roomS size often ⟨O, E, A, B, t⟩).F (roomS size often ⟨O, E, A, B, t⟩).A (roomS size often ⟨O, E, A, B, t⟩).B t])) := ⟨fun p po pa pf pb size O E A B t often hF => by
  refine spec_of Try.func70 rfl Try.ntmps70 rfl [(0, _), (1, _)] rfl ?_; intro base F l0 hl0; (try simp only [List.cons_append] at hl0); (try simp only [List.nil_append] at hl0); subst hl0
  refine ArcX.openC fun kv K fr Lo Lf bm aK cK af cf tw h1 h2 iv => ?_
  have hkl := tw.tab.kl
  have hlen := tw.len
  have hol := tw.qlen
  have hfl := tw.mlen
  have htot := tw.tab.tot
  rw [List.length_append] at htot
  obtain ⟨iv', hlt, _⟩ := iv.room (often := often) h1 hF
  obtain ⟨l1, l2, l3, l4⟩ := iv.lens
  obtain ⟨_, n1, n2, n3⟩ := iv.parts
  by_cases hr : O.length + E.length < size
  · obtain ⟨e1, e2, e3⟩ := room_no (often := often) (A := A) (B := B) (t := t) hr
    rw [e1, e2, e3]
    (repeat' (first | ((fail_if_success (refine atD ?_)); refine stp ?_) | refine And.intro ?_ ?_ | (intro e; exfalso; omega) | (intro e; subst e) | intro _)); refine drx [] ?_; refine tks [0, 2, 3, 4, 5] 2 ?_; (repeat' (first | refine stp ?_ | refine And.intro ?_ ?_ | (intro e; exfalso; omega) | (intro e; subst e) | intro _)); refine hv 1 fun x1 => ?_; refine tks [6] 0 ?_; (repeat' (first | refine stp ?_ | refine And.intro ?_ ?_ | (intro e; exfalso; omega) | (intro e; subst e) | intro _))
    exact ra1 () rfl (he := en2 (ArcX.shut tw h1 h2 iv))
  · by_cases hc : fromO often ⟨O, E, A, B, t⟩
    · obtain ⟨e1, e2, e3⟩ := room_o hr hc
      have hne : O ≠ [] := List.length_pos_iff.1 hc.1
      have hLo : Lo ≠ [] := fun e => by rw [e] at hol; exact hne (List.length_eq_zero_iff.1 hol)
      obtain ⟨z, Lo, rfl⟩ := List.exists_cons_of_ne_nil hLo
      obtain ⟨w1, w2, w3, w4, w5⟩ := tw.evictQ
      have hkk := tw.tab.klt w3
      have hal := addL_new (m := 2 * size) (n1 _ (Inv.last_mem hne)).2.1 (by have := hc.1; dsimp only at this; omega)
      rw [e1] at iv'
      rw [e1, e2, e3, ← w1]
      rw [← w1] at hal iv'
      have hc0 : 0 < Lo.length + 1 := by omega
      have hzl : (z :: Lo).length = Lo.length + 1 := rfl
      have hcc := hc.2
      dsimp only at hcc
      rw [hol] at hcc
      cases often with
      | true =>
        rcases Nat.lt_or_ge t (z :: Lo).length with hx | hx
        · clear hcc hc hF
          (repeat' (first | ((fail_if_success (refine atD ?_)); refine stp ?_) | refine And.intro ?_ ?_ | (intro e; exfalso; omega) | (intro e; subst e) | intro _)); refine drx [] ?_; refine tks [0, 2, 3, 4, 5] 2 ?_; (repeat' (first | refine stp ?_ | refine And.intro ?_ ?_ | (intro e; exfalso; omega) | (intro e; subst e) | intro _)); refine hv 1 fun x1 => ?_; refine tks [6] 0 ?_; (repeat' (first | refine stp ?_ | refine And.intro ?_ ?_ | (intro e; exfalso; omega) | (intro e; subst e) | intro _))
          all_goals (rw [hal]; exact ra1 () rfl (he := en2 (ArcX.shutN (nf := fr.length + 1) w5 h1 h2 iv' (by simp))))
        · have hx2 : (z :: Lo).length = t := by rcases hcc with h | h; omega; exact h.1
          clear hcc hc hF
          (repeat' (first | ((fail_if_success (refine atD ?_)); refine stp ?_) | refine And.intro ?_ ?_ | (intro e; exfalso; omega) | (intro e; subst e) | intro _)); refine drx [] ?_; refine tks [0, 2, 3, 4, 5] 2 ?_; (repeat' (first | refine stp ?_ | refine And.intro ?_ ?_ | (intro e; exfalso; omega) | (intro e; subst e) | intro _)); refine hv 1 fun x1 => ?_; refine tks [6] 0 ?_; (repeat' (first | refine stp ?_ | refine And.intro ?_ ?_ | (intro e; exfalso; omega) | (intro e; subst e) | intro _))
          all_goals (rw [hal]; exact ra1 () rfl (he := en2 (ArcX.shutN (nf := fr.length + 1) w5 h1 h2 iv' (by simp))))
      | false =>
        have hx : t < (z :: Lo).length := by rcases hcc with h | h; exact h; cases h.2
        clear hcc hc hF
        (repeat' (first | ((fail_if_success (refine atD ?_)); refine stp ?_) | refine And.intro ?_ ?_ | (intro e; exfalso; omega) | (intro e; subst e) | intro _)); refine drx [] ?_; refine tks [0, 2, 3, 4, 5] 2 ?_; (repeat' (first | refine stp ?_ | refine And.intro ?_ ?_ | (intro e; exfalso; omega) | (intro e; subst e) | intro _)); refine hv 1 fun x1 => ?_; refine tks [6] 0 ?_; (repeat' (first | refine stp ?_ | refine And.intro ?_ ?_ | (intro e; exfalso; omega) | (intro e; subst e) | intro _))
        all_goals (rw [hal]; exact ra1 () rfl (he := en2 (ArcX.shutN (nf := fr.length + 1) w5 h1 h2 iv' (by simp))))
    · obtain ⟨e1, e2, e3⟩ := room_f hr hc
      have hne : E ≠ [] := fun e => by
        rw [e] at hr
        simp only [List.length_nil] at hr
        exact hc (hF (by omega))
      have hLf : Lf ≠ [] := fun e => by rw [e] at hfl; exact hne (List.length_eq_zero_iff.1 hfl)
      obtain ⟨z, Lf, rfl⟩ := List.exists_cons_of_ne_nil hLf
      obtain ⟨w1, w2, w3, w4, w5⟩ := tw.evictM
      have hkk := tw.tab.klt w3
      have hel := List.length_pos_iff.2 hne
      have hal := addL_new (m := 2 * size) (n2 _ (Inv.last_mem hne)).2 (by omega)
      rw [e1] at iv'
      rw [e1, e2, e3, ← w1]
      rw [← w1] at hal iv'
      have hcc : Lo.length = 0 ∨ (0 < Lo.length ∧ ¬ t < Lo.length ∧ (Lo.length = t → often = false)) := by
        rcases Nat.eq_zero_or_pos Lo.length with h | h
        · exact .inl h
        · refine .inr ⟨h, fun h2 => hc ⟨by dsimp only; omega, .inl (by dsimp only; omega)⟩, fun h2 => ?_⟩
          cases often with
          | false => rfl
          | true => exact absurd ⟨by dsimp only; omega, .inr ⟨by dsimp only; omega, rfl⟩⟩ hc
      clear hc hF
      rcases hcc with hx | ⟨hx1, hx2, hx3⟩
      · (repeat' (first | ((fail_if_success (refine atD ?_)); refine stp ?_) | refine And.intro ?_ ?_ | (intro e; exfalso; omega) | (intro e; subst e) | intro _)); refine drx [] ?_; refine tks [0, 2, 3, 4, 5] 2 ?_; (repeat' (first | refine stp ?_ | refine And.intro ?_ ?_ | (intro e; exfalso; omega) | (intro e; subst e) | intro _)); refine hv 1 fun x1 => ?_; refine tks [6] 0 ?_; (repeat' (first | refine stp ?_ | refine And.intro ?_ ?_ | (intro e; exfalso; omega) | (intro e; subst e) | intro _))
        all_goals (rw [hal]; exact ra1 () rfl (he := en2 (ArcX.shutN (nf := fr.length + 1) w5 h1 h2 iv' (by simp))))
      · cases often with
        | true =>
          have hx4 : Lo.length ≠ t := fun h => by cases hx3 h
          clear hx3
          (repeat' (first | ((fail_if_success (refine atD ?_)); refine stp ?_) | refine And.intro ?_ ?_ | (intro e; exfalso; omega) | (intro e; subst e) | intro _)); refine drx [] ?_; refine tks [0, 2, 3, 4, 5] 2 ?_; (repeat' (first | refine stp ?_ | refine And.intro ?_ ?_ | (intro e; exfalso; omega) | (intro e; subst e) | intro _)); refine hv 1 fun x1 => ?_; refine tks [6] 0 ?_; (repeat' (first | refine stp ?_ | refine And.intro ?_ ?_ | (intro e; exfalso; omega) | (intro e; subst e) | intro _))
          all_goals (rw [hal]; exact ra1 () rfl (he := en2 (ArcX.shutN (nf := fr.length + 1) w5 h1 h2 iv' (by simp))))
        | false =>
          clear hx3
          (repeat' (first | ((fail_if_success (refine atD ?_)); refine stp ?_) | refine And.intro ?_ ?_ | (intro e; exfalso; omega) | (intro e; subst e) | intro _)); refine drx [] ?_; refine tks [0, 2, 3, 4, 5] 2 ?_; (repeat' (first | refine stp ?_ | refine And.intro ?_ ?_ | (intro e; exfalso; omega) | (intro e; subst e) | intro _)); refine hv 1 fun x1 => ?_; refine tks [6] 0 ?_; (repeat' (first | refine stp ?_ | refine And.intro ?_ ?_ | (intro e; exfalso; omega) | (intro e; subst e) | intro _))
          all_goals (rw [hal]; exact ra1 () rfl (he := en2 (ArcX.shutN (nf := fr.length + 1) w5 h1 h2 iv' (by simp))))⟩
end Go.Proofs.Ytcgdkcdlglbigaa
