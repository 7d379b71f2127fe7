/- wheel, walked: lists, the next bucket, marks, copies. -/
import Derived.Test.YtmiblmoppdgnjaaDoorWhW4
import Derived.Test.YtmiblmoppdgnjaaDoorWhW5
namespace Go.Wh
open Go.Lk Go.Sl Go.Lf
/-- The marks of buckets. -/
def fullM (m : List It) : Nat → BitVec 64 := m.foldl (fun f y => updW f (y.2 / 64) (f (y.2 / 64) ||| (1#64 <<< (y.2 % 64)))) fun _ => 0#64
theorem full_app {m : List It} {y : It} : fullM (m ++ [y]) = updW (fullM m) (y.2 / 64) (fullM m (y.2 / 64) ||| (1#64 <<< (y.2 % 64))) := by unfold fullM; rw [List.foldl_append]; rfl
theorem full_mkF : ∀ {l m : List It} {f : Nat → BitVec 64}, MK f m → (∀ y ∈ l, y.2 < 256) → MK (l.foldl (fun f y => updW f (y.2 / 64) (f (y.2 / 64) ||| (1#64 <<< (y.2 % 64)))) f) (m ++ l)
  | [], m, f, h, _ => by simpa using h
  | y :: l, m, f, h, hl => by
    have hy := hl y (by simp)
    have h2 := mk_set (m' := m ++ [y]) h hy (fun c hc => by rw [grp_app]; simp [grp, Ne.symm hc]) (by rw [grp_app]; simp [grp])
    have h3 := full_mkF (l := l) h2 fun z hz => hl z (by simp [hz])
    simpa using h3
theorem full_mk {m : List It} (h : ∀ y ∈ m, y.2 < 256) : MK (fullM m) m := by
  have := full_mkF (l := m) mk_nil h
  rw [List.nil_append] at this
  exact this
end Go.Wh
namespace Go.Proofs.YtmiblmoppdgnjaaDoor
open Go.Lk Go.Sl Go.Lf Go.Wh
attribute [local irreducible] TK TL TC Th Bk Nx fnPost WA TQ OpQ OpN SpecH Rd Ent IterH RoundH Rb Rp fnPostM
attribute [local irreducible] Fld.addE Fld.addF Fld.befE Fld.befF Fld.inE Fld.remF Fld.first Fld.last Fld.next Fld.prev Fld.ofR Fld.listOf Fld.joinE Fld.joinF renE renG Fld.at Fld.set Fld.place
attribute [local irreducible] Lf.wo Lf.cntOf Lf.grp
set_option maxHeartbeats 4000000 in
instance wh_list : Known Tryd.prog 20 (∀ (p : Nat) (m : List It) (b : Int), SpecH Tryd.prog 20 #[.pointer (some ⟨p, 0, none⟩), .int .i64 b] [WheelAt p m] (fun q : Option Addr × Nat => .tuple #[.slice q.1 (lstM m b).length q.2, .int .i64 (lstE b)]) (fun q => [WheelAt p m, Vec 31 1 q.1 (lstM m b).length q.2 (u32s (lstM m b))])) := ⟨fun p m b => by
  refine spec_of Tryd.func20 rfl Tryd.ntmps20 rfl [(0, _), (1, _)] rfl ?_; intro base F l0 hl0; (try simp only [List.cons_append] at hl0); (try simp only [List.nil_append] at hl0); subst hl0
  refine WheelAt.openC fun pl N f o mk w => ?_
  by_cases hb : badB b
  · have e1 : lstM m b = [] := if_pos hb
    have e2 : lstE b = 2 := if_pos hb
    rw [e1, e2]
    unfold badB at hb
    repeat' (first | ((fail_if_success (refine atCall 31 ?_)); refine stz ?_) | refine And.intro ?_ ?_ | (intro e; exfalso; omega) | (intro e; subst e) | intro _)
    refine call (wh_check_bad.out p pl f _ 0 b (by omega)) ?_
    repeat' (first | refine stz ?_ | refine And.intro ?_ ?_ | (intro e; exfalso; omega) | (intro e; subst e) | intro _)
    refine rt2 (none, 0) rfl (he := ?_)
    exact (WheelAt.shut o mk |> en2).trans en
  · have e1 : lstM m b = grp m b.toNat := if_neg hb
    have e2 : lstE b = 0 := if_neg hb
    rw [e1, e2]
    unfold badB at hb
    obtain ⟨B, rfl⟩ : ∃ B : Nat, b = B := ⟨b.toNat, by omega⟩
    rw [Int.toNat_natCast]
    have hB : B < 256 := by omega
    clear e1 e2
    repeat' (first | ((fail_if_success (refine atCall 31 ?_)); refine stz ?_) | refine And.intro ?_ ?_ | (intro e; exfalso; omega) | (intro e; subst e) | intro _)
    refine call (wh_check.out p pl f _ 0 B (by omega) (by omega) (by omega)) ?_
    haveI : Known Tryd.prog 41 (SpecH Tryd.prog 41 #[.pointer (some ⟨pl, 0, none⟩), .int .i64 (B : Nat)] [FieldAt pl (FW N m)] (fun c : Nat => .func (.func 55) #[] #[.pointer (some ⟨c, 0, none⟩)]) (fun c => [FieldAt pl (FW N m), SeqC c (grp m B)])) := ⟨by
      have h := fAll.out pl (FW N m) (B : Nat)
      have e : (FW N m).listOf (B : Nat) = grp m B := by
        unfold Fld.listOf
        rw [if_pos (by omega), Int.toNat_natCast, fw_at, if_pos hB]
      rwa [e] at h⟩
    repeat' (first | refine stz ?_ | refine And.intro ?_ ?_ | (intro e; exfalso; omega) | (intro e; subst e) | intro _)
    rename_i a cap
    refine rt2 (a, cap) rfl (he := ?_)
    exact (WheelAt.shut o mk |> en2).trans en⟩
set_option maxHeartbeats 4000000 in
instance wh_next : Known Tryd.prog 19 (∀ (p : Nat) (m : List It) (b : Int), SpecH Tryd.prog 19 #[.pointer (some ⟨p, 0, none⟩), .int .i64 b] [WheelAt p m, Tab64] (fun _ : Unit => .tuple #[.int .i64 ((nxO m b).getD 0 : Nat), .int .i64 (nxE m b)]) (fun _ => [WheelAt p m])) := ⟨fun p m b => by
  refine spec_of Tryd.func19 rfl Tryd.ntmps19 rfl [(0, _), (1, _)] rfl ?_; intro base F l0 hl0; (try simp only [List.cons_append] at hl0); (try simp only [List.nil_append] at hl0); subst hl0
  refine WheelAt.openC fun pl N f o mk w => ?_
  by_cases hb : badB b
  · have e1 : nxO m b = none := if_pos hb
    have e2 : nxE m b = 2 := if_pos hb
    rw [e1, e2]
    unfold badB at hb
    repeat' (first | ((fail_if_success (refine atCall 31 ?_)); refine stz ?_) | refine And.intro ?_ ?_ | (intro e; exfalso; omega) | (intro e; subst e) | intro _)
    refine call (wh_check_bad.out p pl f _ 0 b (by omega)) ?_
    repeat' (first | refine stz ?_ | refine And.intro ?_ ?_ | (intro e; exfalso; omega) | (intro e; subst e) | intro _)
    exact rt2 () rfl (he := en2 (WheelAt.shut o mk))
  · have e1 : nxO m b = nb (bitB f) b.toNat := (if_neg hb).trans (nb_congr fun c hc => (mk c hc).symm)
    have e2 : nxE m b = if (nb (bitB f) b.toNat).isSome then 0 else 9 := by unfold nxE; rw [if_neg hb, e1]
    rw [e1, e2]
    unfold badB at hb
    obtain ⟨B, rfl⟩ : ∃ B : Nat, b = B := ⟨b.toNat, by omega⟩
    rw [Int.toNat_natCast]
    have hB : B < 256 := by omega
    clear e1 e2
    repeat' (first | ((fail_if_success (refine atCall 31 ?_)); refine stz ?_) | refine And.intro ?_ ?_ | (intro e; exfalso; omega) | (intro e; subst e) | intro _)
    refine call (wh_check.out p pl f _ 0 B (by omega) (by omega) (by omega)) ?_
    cases hx : nb (bitB f) B with
    | none =>
      haveI : Known Tryd.prog 39 (SpecH Tryd.prog 39 #[.pointer (some ⟨p, 1, none⟩), .int .i64 (B : Nat)] [obj p 63 [.pointer (some ⟨pl, 0, none⟩), .int .u64 ((f 0).toNat : Nat), .int .u64 ((f 1).toNat : Nat), .int .u64 ((f 2).toNat : Nat), .int .u64 ((f 3).toNat : Nat), .int .i64 (m.length : Nat)], Tab64] (fun _ : Unit => .tuple #[.int .i64 0, .bool false]) (fun _ => [obj p 63 [.pointer (some ⟨pl, 0, none⟩), .int .u64 ((f 0).toNat : Nat), .int .u64 ((f 1).toNat : Nat), .int .u64 ((f 2).toNat : Nat), .int .u64 ((f 3).toNat : Nat), .int .i64 (m.length : Nat)]])) := ⟨by
        have h := mk_next_spec.out p (.pointer (some ⟨pl, 0, none⟩)) (.int .i64 (m.length : Nat)) f (B : Nat) B hB
        rwa [hx] at h⟩
      repeat' (first | refine stz ?_ | refine And.intro ?_ ?_ | (intro e; exfalso; omega) | (intro e; subst e) | intro _)
      exact rt2 () rfl (he := en2 (WheelAt.shut o mk))
    | some c =>
      haveI : Known Tryd.prog 39 (SpecH Tryd.prog 39 #[.pointer (some ⟨p, 1, none⟩), .int .i64 (B : Nat)] [obj p 63 [.pointer (some ⟨pl, 0, none⟩), .int .u64 ((f 0).toNat : Nat), .int .u64 ((f 1).toNat : Nat), .int .u64 ((f 2).toNat : Nat), .int .u64 ((f 3).toNat : Nat), .int .i64 (m.length : Nat)], Tab64] (fun _ : Unit => .tuple #[.int .i64 (c : Nat), .bool true]) (fun _ => [obj p 63 [.pointer (some ⟨pl, 0, none⟩), .int .u64 ((f 0).toNat : Nat), .int .u64 ((f 1).toNat : Nat), .int .u64 ((f 2).toNat : Nat), .int .u64 ((f 3).toNat : Nat), .int .i64 (m.length : Nat)]])) := ⟨by
        have h := mk_next_spec.out p (.pointer (some ⟨pl, 0, none⟩)) (.int .i64 (m.length : Nat)) f (B : Nat) B hB
        rwa [hx] at h⟩
      repeat' (first | refine stz ?_ | refine And.intro ?_ ?_ | (intro e; exfalso; omega) | (intro e; subst e) | intro _)
      exact rt2 () rfl (he := en2 (WheelAt.shut o mk))⟩
instance wh_len : Known Tryd.prog 22 (∀ (p : Nat) (m : List It), SpecH Tryd.prog 22 #[.pointer (some ⟨p, 0, none⟩)] [WheelAt p m] (fun _ : Unit => .int .i64 (m.length : Nat)) (fun _ => [WheelAt p m])) := ⟨fun p m => by
  refine spec_of Tryd.func22 rfl Tryd.ntmps22 rfl [(0, _)] rfl ?_; intro base F l0 hl0; (try simp only [List.cons_append] at hl0); (try simp only [List.nil_append] at hl0); subst hl0
  refine WheelAt.openC fun pl N f o mk w => ?_
  repeat' (first | ((fail_if_success (refine atCall 31 ?_)); refine stz ?_) | refine And.intro ?_ ?_ | (intro e; exfalso; omega) | (intro e; subst e) | intro _)
  refine call (wh_check.out p pl f _ 0 0 (by omega) (by omega) (by omega)) ?_
  repeat' (first | refine stz ?_ | refine And.intro ?_ ?_ | (intro e; exfalso; omega) | (intro e; subst e) | intro _)
  exact rt1 () rfl (he := en2 (WheelAt.shut o mk))⟩
instance wh_full : Known Tryd.prog 23 (∀ (p : Nat) (m : List It), SpecH Tryd.prog 23 #[.pointer (some ⟨p, 0, none⟩)] [WheelAt p m] (fun _ : Unit => .agg #[.int .u64 ((fullM m 0).toNat : Nat), .int .u64 ((fullM m 1).toNat : Nat), .int .u64 ((fullM m 2).toNat : Nat), .int .u64 ((fullM m 3).toNat : Nat)]) (fun _ => [WheelAt p m])) := ⟨fun p m => by
  refine spec_of Tryd.func23 rfl Tryd.ntmps23 rfl [(0, _)] rfl ?_; intro base F l0 hl0; (try simp only [List.cons_append] at hl0); (try simp only [List.nil_append] at hl0); subst hl0
  refine WheelAt.openC fun pl N f o mk w => ?_
  have mk2 := full_mk o.bk
  rw [← mk_uniq mk mk2 (w := 0) (by omega), ← mk_uniq mk mk2 (w := 1) (by omega), ← mk_uniq mk mk2 (w := 2) (by omega), ← mk_uniq mk mk2 (w := 3) (by omega)]
  repeat' (first | ((fail_if_success (refine atCall 31 ?_)); refine stz ?_) | refine And.intro ?_ ?_ | (intro e; exfalso; omega) | (intro e; subst e) | intro _)
  refine call (wh_check.out p pl f _ 0 0 (by omega) (by omega) (by omega)) ?_
  repeat' (first | refine stz ?_ | refine And.intro ?_ ?_ | (intro e; exfalso; omega) | (intro e; subst e) | intro _)
  refine ra1 () rfl (he := ?_)
  exact en2 (WheelAt.shut o mk)⟩
set_option maxHeartbeats 4000000 in
instance wh_copy : Known Tryd.prog 27 (∀ (p : Nat) (m : List It), SpecH Tryd.prog 27 #[.pointer (some ⟨p, 0, none⟩)] [WheelAt p m] (fun c : Nat => .pointer (some ⟨c, 0, none⟩)) (fun c => [WheelAt p m, WheelAt c m])) := ⟨fun p m => by
  refine spec_of Tryd.func27 rfl Tryd.ntmps27 rfl [(0, _)] rfl ?_; intro base F l0 hl0; (try simp only [List.cons_append] at hl0); (try simp only [List.nil_append] at hl0); subst hl0
  refine WheelAt.openC fun pl N f o mk w => ?_
  repeat' (first | ((fail_if_success (refine atCall 31 ?_)); refine stz ?_) | refine And.intro ?_ ?_ | (intro e; exfalso; omega) | (intro e; subst e) | intro _)
  refine call (wh_check.out p pl f _ 0 0 (by omega) (by omega) (by omega)) ?_
  repeat' (first | ((fail_if_success (refine atD ?_)); refine stz ?_) | refine And.intro ?_ ?_ | (intro e; exfalso; omega) | (intro e; subst e) | intro _)
  refine drx [FieldAt pl (FW N m)] ?_
  refine tks [0, 5, 9, 1, 6, 10, 2, 7, 11, 3, 8, 12] 4 ?_; repeat' (first | refine stz ?_ | refine And.intro ?_ ?_ | (intro e; exfalso; omega) | (intro e; subst e) | intro _)
  refine hv 4 fun x4 => ?_
  refine tks [13] 2 ?_; repeat' (first | refine stz ?_ | refine And.intro ?_ ?_ | (intro e; exfalso; omega) | (intro e; subst e) | intro _)
  refine hv 14 fun x14 => ?_
  refine tks [15] 0 ?_; repeat' (first | refine stz ?_ | refine And.intro ?_ ?_ | (intro e; exfalso; omega) | (intro e; subst e) | intro _)
  refine rt1 x14 rfl ?_
  refine Ent.trans (WheelAt.shut (p := p) (pl := pl) o mk |> en2) ?_
  refine Ent.cons (by (repeat (first | (with_reducible exact Rem.here _ _) | (with_reducible apply Rem.there) | fail)); done) ?_
  exact en2 (WheelAt.shut o mk)⟩
end Go.Proofs.YtmiblmoppdgnjaaDoor
