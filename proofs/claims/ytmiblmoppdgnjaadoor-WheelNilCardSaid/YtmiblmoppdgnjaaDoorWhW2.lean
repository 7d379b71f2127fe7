/- wheel, walked: the calls. -/
import Derived.Test.YtmiblmoppdgnjaaDoorWhW1
import Derived.Test.YtmiblmoppdgnjaaDoorEqaTypes
namespace Go.Wh
open Go.Lk Go.Sl Go.Lf Go.Proofs.YtmiblmoppdgnjaaDoor
structure WQ where
  pl : Nat
  N : Nat
  f : Nat → BitVec 64
/-- A wheel. -/
def WheelAt (p : Nat) (m : List It) : HP := Exs (ι := WQ) fun q => [fact (MO q.N m ∧ MK q.f m), obj p 63 [.pointer (some ⟨q.pl, 0, none⟩), .int .u64 ((q.f 0).toNat : Nat), .int .u64 ((q.f 1).toNat : Nat), .int .u64 ((q.f 2).toNat : Nat), .int .u64 ((q.f 3).toNat : Nat), .int .i64 (m.length : Nat)], FieldAt q.pl (FW q.N m)]
section
variable {r0 : Option Nat} {P : Program} {base : World} {n : Nat} {ds : List Deferred} {Q : Exit → Act → World → Prop} {env : Env} {l r : List HP} {KK : Act → World → Prop} {c : Code} {p : Nat} {m : List It} {all : Array Oper} {ro : List Oper}
theorem WheelAt.openK (h : ∀ (pl N : Nat) (f : Nat → BitVec 64), MO N m → MK f m → Wf (FW N m) → TK base n ds KK env (obj p 63 [.pointer (some ⟨pl, 0, none⟩), .int .u64 ((f 0).toNat : Nat), .int .u64 ((f 1).toNat : Nat), .int .u64 ((f 2).toNat : Nat), .int .u64 ((f 3).toNat : Nat), .int .i64 (m.length : Nat)] :: FieldAt pl (FW N m) :: r)) (hr : Rem l (WheelAt p m) r := by (repeat (first | (with_reducible exact Rem.here _ _) | (with_reducible apply Rem.there) | fail)); done) : TK base n ds KK env l := by
  unfold WheelAt at hr
  refine TK.exs hr fun ⟨pl, N, f⟩ => ?_
  refine TK.fact fun ⟨h1, h2⟩ => ?_
  exact TK.know (fun _ z => FieldAt.wf (p := pl) (f := FW N m) (.there _ (.here _ _)) z) fun w => h pl N f h1 h2 w
theorem WheelAt.openC (h : ∀ (pl N : Nat) (f : Nat → BitVec 64), MO N m → MK f m → Wf (FW N m) → TC r0 P base n ds c Q env (obj p 63 [.pointer (some ⟨pl, 0, none⟩), .int .u64 ((f 0).toNat : Nat), .int .u64 ((f 1).toNat : Nat), .int .u64 ((f 2).toNat : Nat), .int .u64 ((f 3).toNat : Nat), .int .i64 (m.length : Nat)] :: FieldAt pl (FW N m) :: r)) (hr : Rem l (WheelAt p m) r := by (repeat (first | (with_reducible exact Rem.here _ _) | (with_reducible apply Rem.there) | fail)); done) : TC r0 P base n ds c Q env l := WheelAt.openK h hr
theorem WheelAt.shut {pl N : Nat} {f : Nat → BitVec 64} (h1 : MO N m) (h2 : MK f m) : Ent (obj p 63 [.pointer (some ⟨pl, 0, none⟩), .int .u64 ((f 0).toNat : Nat), .int .u64 ((f 1).toNat : Nat), .int .u64 ((f 2).toNat : Nat), .int .u64 ((f 3).toNat : Nat), .int .i64 (m.length : Nat)] :: FieldAt pl (FW N m) :: r) (WheelAt p m :: r) := by
  refine Ent.exs (⟨pl, N, f⟩ : WQ) ?_
  exact Ent.fact ⟨h1, h2⟩ (Ent.refl _)
/-- What a wheel says of itself. -/
theorem WheelAt.facts (h : (∃ N, MO N m ∧ N ≤ 4194304) → TK base n ds KK env l) (hr : Rem l (WheelAt p m) r := by (repeat (first | (with_reducible exact Rem.here _ _) | (with_reducible apply Rem.there) | fail)); done) : TK base n ds KK env l := by
  refine TK.know (p := ∃ N, MO N m ∧ N ≤ 4194304) (fun _ y => ?_) h
  unfold WheelAt at hr
  obtain ⟨⟨pl, N, f⟩, y⟩ := exs_out hr y
  obtain ⟨h1, h2⟩ := (lst_fact y).1
  have w := FieldAt.wf (p := pl) (f := FW N m) (.there _ (.there _ (.here _ _))) y
  exact ⟨N, h1, w.bound.2.1⟩
theorem WheelAt.factsC (h : (∃ N, MO N m ∧ N ≤ 4194304) → TC r0 P base n ds c Q env l) (hr : Rem l (WheelAt p m) r := by (repeat (first | (with_reducible exact Rem.here _ _) | (with_reducible apply Rem.there) | fail)); done) : TC r0 P base n ds c Q env l := WheelAt.facts h hr
end
end Go.Wh
namespace Go.Proofs.YtmiblmoppdgnjaaDoor
open Go.Lk Go.Sl Go.Lf Go.Wh
attribute [local irreducible] TK TL TC Th Bk Nx fnPost WA TQ OpQ OpN SpecH Rd Ent IterH RoundH Rb Rp fnPostM
attribute [local irreducible] Fld.addE Fld.addF Fld.befE Fld.befF Fld.inE Fld.remF Fld.first Fld.last Fld.next Fld.prev Fld.ofR Fld.listOf Fld.joinE Fld.joinF renE renG Fld.at Fld.set Fld.place
attribute [local irreducible] Lf.wo Lf.cntOf Lf.grp
instance wh_check : Known Tryd.prog 31 (∀ (p pl : Nat) (f : Nat → BitVec 64) (c5 : Value) (s b : Int), s < 4194304 → 0 ≤ b → b < 256 → SpecH Tryd.prog 31 #[.pointer (some ⟨p, 0, none⟩), .int .u32 s, .int .i64 b] [obj p 63 [.pointer (some ⟨pl, 0, none⟩), .int .u64 ((f 0).toNat : Nat), .int .u64 ((f 1).toNat : Nat), .int .u64 ((f 2).toNat : Nat), .int .u64 ((f 3).toNat : Nat), c5]] (fun _ : Unit => .int .i64 0) (fun _ => [obj p 63 [.pointer (some ⟨pl, 0, none⟩), .int .u64 ((f 0).toNat : Nat), .int .u64 ((f 1).toNat : Nat), .int .u64 ((f 2).toNat : Nat), .int .u64 ((f 3).toNat : Nat), c5]])) := ⟨fun p pl f c5 s b h1 h2 h3 => by
  refine spec_of Tryd.func31 rfl Tryd.ntmps31 rfl [(0, _), (1, _), (2, _)] rfl ?_; intro base F l0 hl0; (try simp only [List.cons_append] at hl0); (try simp only [List.nil_append] at hl0); subst hl0
  repeat' (first | refine stz ?_ | refine And.intro ?_ ?_ | (intro e; exfalso; omega) | (intro e; subst e) | intro _)
  exact rt1 () rfl⟩
theorem wh_check_bad : Known Tryd.prog 31 (∀ (p pl : Nat) (f : Nat → BitVec 64) (c5 : Value) (s b : Int), (4194304 ≤ s ∨ b < 0 ∨ 256 ≤ b) → SpecH Tryd.prog 31 #[.pointer (some ⟨p, 0, none⟩), .int .u32 s, .int .i64 b] [obj p 63 [.pointer (some ⟨pl, 0, none⟩), .int .u64 ((f 0).toNat : Nat), .int .u64 ((f 1).toNat : Nat), .int .u64 ((f 2).toNat : Nat), .int .u64 ((f 3).toNat : Nat), c5]] (fun _ : Unit => .int .i64 2) (fun _ => [obj p 63 [.pointer (some ⟨pl, 0, none⟩), .int .u64 ((f 0).toNat : Nat), .int .u64 ((f 1).toNat : Nat), .int .u64 ((f 2).toNat : Nat), .int .u64 ((f 3).toNat : Nat), c5]])) := ⟨fun p pl f c5 s b h => by
  refine spec_of Tryd.func31 rfl Tryd.ntmps31 rfl [(0, _), (1, _), (2, _)] rfl ?_; intro base F l0 hl0; (try simp only [List.cons_append] at hl0); (try simp only [List.nil_append] at hl0); subst hl0
  repeat' (first | refine stz ?_ | refine And.intro ?_ ?_ | (intro e; exfalso; omega) | (intro e; subst e) | intro _)
  all_goals exact rt1 () rfl⟩
instance wh_new : Known Tryd.prog 9 (SpecH Tryd.prog 9 #[] [] (fun p : Nat => .pointer (some ⟨p, 0, none⟩)) (fun p => [WheelAt p []])) := ⟨by
  refine spec_of Tryd.func9 rfl Tryd.ntmps9 rfl [] rfl ?_; intro base F l0 hl0; (try simp only [List.cons_append] at hl0); (try simp only [List.nil_append] at hl0); subst hl0
  haveI : NatI 8 8 := ⟨rfl⟩
  haveI : NatI 256 256 := ⟨rfl⟩
  repeat' (first | refine stz ?_ | refine And.intro ?_ ?_ | (intro e; exfalso; omega) | (intro e; subst e) | intro _)
  rename_i pl p
  rw [← fw_nil]
  refine rt1 p rfl ?_
  exact en2 (WheelAt.shut (f := fun _ => 0#64) mo_nil mk_nil)⟩
theorem sameL_zero {n : Nat} : u32s ((List.range n).map fun j => if j < 0 then j else 0) = rows n fun _ => [Value.int .u32 0] := by
  induction n with
  | zero => rfl
  | succ n ih => simp [rows, u32s, List.range_succ] at ih ⊢; exact ih
theorem sameL_all {n : Nat} : ((List.range n).map fun j => if j < n then j else 0) = List.range n := by
  conv => rhs; rw [← List.map_id (List.range n)]
  exact List.map_congr_left fun j hj => by rw [if_pos (List.mem_range.1 hj)]; rfl
theorem sameL_set {n i : Nat} : (((List.range n).map fun j => if j < i then j else 0).set i i) = (List.range n).map fun j => if j < i + 1 then j else 0 := by
  refine List.ext_getElem (by simp) fun j h1 h2 => ?_
  rw [List.getElem_set]
  simp only [List.getElem_map, List.getElem_range]
  by_cases e : i = j
  · rw [if_pos e, if_pos (by omega)]; exact e
  · rw [if_neg e]
    by_cases e2 : j < i
    · rw [if_pos e2, if_pos (by omega)]
    · rw [if_neg e2, if_neg (by omega)]
set_option maxHeartbeats 4000000 in
instance wh_room : Known Tryd.prog 32 (∀ (p pl N s : Nat) (m : List It) (f : Nat → BitVec 64) (c5 : Value), s < 4194304 → MO N m → SpecH Tryd.prog 32 #[.pointer (some ⟨p, 0, none⟩), .int .u32 (s : Nat)] [obj p 63 [.pointer (some ⟨pl, 0, none⟩), .int .u64 ((f 0).toNat : Nat), .int .u64 ((f 1).toNat : Nat), .int .u64 ((f 2).toNat : Nat), .int .u64 ((f 3).toNat : Nat), c5], FieldAt pl (FW N m)] (fun _ : Nat => .tuple #[]) (fun M => [fact (s < M ∧ N ≤ M), obj p 63 [.pointer (some ⟨pl, 0, none⟩), .int .u64 ((f 0).toNat : Nat), .int .u64 ((f 1).toNat : Nat), .int .u64 ((f 2).toNat : Nat), .int .u64 ((f 3).toNat : Nat), c5], FieldAt pl (FW M m)])) := ⟨fun p pl N s m f c5 hs ho => by
  refine spec_of Tryd.func32 rfl Tryd.ntmps32 rfl [(0, _), (1, _)] rfl ?_; intro base F l0 hl0; (try simp only [List.cons_append] at hl0); (try simp only [List.nil_append] at hl0); subst hl0
  refine TC.know (fun _ z => FieldAt.wf (p := pl) (f := FW N m) (by (repeat (first | (with_reducible exact Rem.here _ _) | (with_reducible apply Rem.there) | fail)); done) z) fun w => ?_
  have hb := w.bound
  obtain ⟨b1, b2, _, _⟩ := hb
  change 1 ≤ N at b1
  change N ≤ 4194304 at b2
  haveI iN : Known Tryd.prog 45 (SpecH Tryd.prog 45 #[.pointer (some ⟨pl, 0, none⟩)] [FieldAt pl (FW N m)] (fun _ : Unit => .int .i64 (N : Nat)) (fun _ => [FieldAt pl (FW N m)])) := ⟨fNodes.out pl (FW N m)⟩
  by_cases hr : s < N
  · repeat' (first | refine stz ?_ | refine And.intro ?_ ?_ | (intro e; exfalso; omega) | (intro e; subst e) | intro _)
    exact rt0 N rfl (he := en)
  · obtain ⟨M, hM⟩ : ∃ M : Nat, min (4194304 : Int) (max (2 * N) (s + 1)) = M := ⟨(min (4194304 : Int) (max (2 * N) (s + 1))).toNat, by omega⟩
    have hren := fw_ren w ho (M := M) (by omega) (by omega)
    have hfl : ∀ b, ((FW N m).at b).length ≤ N := fun b => w.len_le b
    haveI iR : Known Tryd.prog 46 (∀ (a : Option Addr) (cap : Nat), SpecH Tryd.prog 46 #[.pointer (some ⟨pl, 0, none⟩), .slice a N cap, .int .i64 (min (4194304 : Int) (max (2 * N) (s + 1)))] [FieldAt pl (FW N m), Vec 31 1 a N cap (u32s (List.range N))] (fun _ : Unit => .int .i64 (renE (FW N m) (List.range N) M)) (fun _ => [FieldAt pl (FW M m), Vec 31 1 a N cap (u32s (List.range N))])) := ⟨fun a cap => by
      have h := fRenumber.out pl (FW N m) a cap (List.range N) (M : Int) (fun x hx => by have := List.mem_range.1 hx; omega) (by simpa using b2)
      rw [hren, List.length_range] at h
      rw [hM]; exact h⟩
    repeat' (first | refine stz ?_ | refine And.intro ?_ ?_ | (intro e; exfalso; omega) | (intro e; subst e) | intro _)
    rename_i b
    refine tc_lp (ι := {q : Nat × List Nat // q.1 ≤ N ∧ q.2 = (List.range N).map fun j => if j < q.1 then j else 0}) [20] (fun e q => (20, .int .i64 (q.1.1 : Nat)) :: e) (fun q => [Vec 31 1 (some ⟨b, 0, none⟩) N N (u32s q.1.2), obj p 63 [.pointer (some ⟨pl, 0, none⟩), .int .u64 ((f 0).toNat : Nat), .int .u64 ((f 1).toNat : Nat), .int .u64 ((f 2).toNat : Nat), .int .u64 ((f 3).toNat : Nat), c5], FieldAt pl (FW N m), F]) (fun q => N - q.1.1) ⟨(0, _), by omega, rfl⟩ ?_ (hl := by dsimp only; rw [sameL_zero]; exact en)
    rintro K ⟨⟨i, D⟩, hi, hD⟩ hK
    dsimp only at hi hD ⊢
    have hl : D.length = N := by rw [hD]; simp
    by_cases hlt : i < N
    · repeat' (first | refine stz ?_ | refine And.intro ?_ ?_ | (intro e; exfalso; omega) | (intro e; subst e) | intro _)
      exact again hK ⟨(i + 1, D.set i i), by omega, by dsimp only; rw [hD]; exact sameL_set⟩
    · obtain rfl : i = N := by omega
      rw [hD, sameL_all]
      repeat' (first | refine stz ?_ | refine And.intro ?_ ?_ | (intro e; exfalso; omega) | (intro e; subst e) | intro _)
      exact re0 M rfl (he := en)⟩
end Go.Proofs.YtmiblmoppdgnjaaDoor
