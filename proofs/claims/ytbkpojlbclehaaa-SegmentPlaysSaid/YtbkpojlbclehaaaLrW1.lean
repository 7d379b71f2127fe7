/- lru, walked: a list of slots. -/
import Derived.Test.YtbkpojlbclehaaaLrTheory
import Derived.Test.YtbkpojlbclehaaaLkA
import Derived.Test.YtbkpojlbclehaaaLkC
import Derived.Test.YtbkpojlbclehaaaSlX
import Derived.Test.YtbkpojlbclehaaaSlEnd2
namespace Go.Lr
open Go.Lk Go.Sl Go.Proofs.Ytbkpojlbclehaaa
/-- A list of slots. -/
def LruAt (p : Nat) (L : List Nat) : HP := Exs (ι := Nat × Nat) fun q => [obj p 105 [.pointer (some ⟨q.1, 0, none⟩)], FieldAt q.1 (F1 q.2 L)]
section
variable {r0 : Option Nat} {P : Program} {base : World} {n : Nat} {ds : List Deferred} {Q : Exit → Act → World → Prop} {env : Env} {l r : List HP} {KK : Act → World → Prop} {c : Code} {p : Nat} {L : List Nat}
theorem LruAt.openK (h : ∀ pl N : Nat, Wf (F1 N L) → TK base n ds KK env (obj p 105 [.pointer (some ⟨pl, 0, none⟩)] :: FieldAt pl (F1 N L) :: r)) (hr : Rem l (LruAt p L) r := by (repeat (first | (with_reducible exact Rem.here _ _) | (with_reducible apply Rem.there) | fail)); done) : TK base n ds KK env l := by
  unfold LruAt at hr
  refine TK.exs hr fun ⟨pl, N⟩ => ?_
  exact TK.know (fun _ z => FieldAt.wf (p := pl) (f := F1 N L) (.there _ (.here _ _)) z) fun w => h pl N w
theorem LruAt.openC (h : ∀ pl N : Nat, Wf (F1 N L) → TC r0 P base n ds c Q env (obj p 105 [.pointer (some ⟨pl, 0, none⟩)] :: FieldAt pl (F1 N L) :: r)) (hr : Rem l (LruAt p L) r := by (repeat (first | (with_reducible exact Rem.here _ _) | (with_reducible apply Rem.there) | fail)); done) : TC r0 P base n ds c Q env l := LruAt.openK h hr
theorem LruAt.openL {all : Array Oper} {ro : List Oper} (h : ∀ pl N : Nat, Wf (F1 N L) → TL r0 P base n ds all ro Q env (obj p 105 [.pointer (some ⟨pl, 0, none⟩)] :: FieldAt pl (F1 N L) :: r)) (hr : Rem l (LruAt p L) r := by (repeat (first | (with_reducible exact Rem.here _ _) | (with_reducible apply Rem.there) | fail)); done) : TL r0 P base n ds all ro Q env l := LruAt.openK h hr
theorem LruAt.shut {pl N : Nat} : Ent (obj p 105 [.pointer (some ⟨pl, 0, none⟩)] :: FieldAt pl (F1 N L) :: r) (LruAt p L :: r) := Ent.exs (pl, N) (Ent.refl _)
theorem LruAt.facts (h : L.Nodup → (∀ x ∈ L, x < 4194304) → L.length ≤ 4194304 → TK base n ds KK env l) (hr : Rem l (LruAt p L) r := by (repeat (first | (with_reducible exact Rem.here _ _) | (with_reducible apply Rem.there) | fail)); done) : TK base n ds KK env l := by
  refine TK.know (p := L.Nodup ∧ (∀ x ∈ L, x < 4194304) ∧ L.length ≤ 4194304) (fun _ y => ?_) fun ⟨a, b, c⟩ => h a b c
  unfold LruAt at hr
  obtain ⟨⟨pl, N⟩, y⟩ := exs_out hr y
  obtain ⟨w1, w2, w3, w4, w5⟩ := f1_wf (FieldAt.wf (p := pl) (f := F1 N L) (.there _ (.here _ _)) y)
  exact ⟨w1, fun x hx => by have := w2 x hx; omega, by omega⟩
theorem LruAt.factsC (h : L.Nodup → (∀ x ∈ L, x < 4194304) → L.length ≤ 4194304 → TC r0 P base n ds c Q env l) (hr : Rem l (LruAt p L) r := by (repeat (first | (with_reducible exact Rem.here _ _) | (with_reducible apply Rem.there) | fail)); done) : TC r0 P base n ds c Q env l := LruAt.facts h hr
end
end Go.Lr
namespace Go.Lr
open Go.Lk Go.Sl
/-- The numbers from 0 on, as far as they are written. -/
def sameL (n i : Nat) : List Nat := (List.range n).map fun j => if j < i then j else 0
theorem sameL_zero {n : Nat} : u32s (sameL n 0) = rows n fun _ => [Value.int .u32 0] := by
  induction n with
  | zero => rfl
  | succ n ih => simp [rows, u32s, sameL, List.range_succ] at ih ⊢; exact ih
theorem sameL_all {n : Nat} : sameL n n = List.range n := by
  unfold sameL
  conv => rhs; rw [← List.map_id (List.range n)]
  exact List.map_congr_left fun j hj => by rw [if_pos (List.mem_range.1 hj)]; rfl
theorem sameL_set {n i : Nat} (_h : i < n) : (sameL n i).set i i = sameL n (i + 1) := by
  refine List.ext_getElem (by simp [sameL]) fun j h1 h2 => ?_
  rw [List.getElem_set]
  simp only [sameL, List.getElem_map, List.getElem_range]
  by_cases e : i = j
  · rw [if_pos e, if_pos (by omega)]; exact e
  · rw [if_neg e]
    by_cases e2 : j < i
    · rw [if_pos e2, if_pos (by omega)]
    · rw [if_neg e2, if_neg (by omega)]
end Go.Lr
namespace Go.Proofs.Ytbkpojlbclehaaa
open Go.Lk Go.Sl Go.Lr
attribute [local irreducible] TK TL TC Th Bk Nx fnPost WA TQ OpQ OpN SpecH Rd Ent IterH RoundH Rb Rp fnPostM
attribute [local irreducible] Fld.addE Fld.addF Fld.befE Fld.befF Fld.inE Fld.remF Fld.first Fld.last Fld.next Fld.prev Fld.ofR Fld.listOf Fld.joinE Fld.joinF renE renG Fld.at Fld.set Fld.place
instance lr_check : Known Try.prog 61 (∀ (p pl : Nat) (s : Int), s < 4194304 → SpecH Try.prog 61 #[.pointer (some ⟨p, 0, none⟩), .int .u32 s] [obj p 105 [.pointer (some ⟨pl, 0, none⟩)]] (fun _ : Unit => .int .i64 0) (fun _ => [obj p 105 [.pointer (some ⟨pl, 0, none⟩)]])) := ⟨fun p pl s hs => by
  refine spec_of Try.func61 rfl Try.ntmps61 rfl [(0, _), (1, _)] rfl ?_; intro base F l0 hl0; (try simp only [List.cons_append] at hl0); (try simp only [List.nil_append] at hl0); subst hl0
  repeat' (first | refine stx ?_ | refine And.intro ?_ ?_ | (intro e; exfalso; omega) | (intro e; subst e) | intro _)
  exact rt1 () rfl⟩
theorem lr_check_bad : Known Try.prog 61 (∀ (p pl : Nat) (s : Int), ¬ s < 4194304 → SpecH Try.prog 61 #[.pointer (some ⟨p, 0, none⟩), .int .u32 s] [obj p 105 [.pointer (some ⟨pl, 0, none⟩)]] (fun _ : Unit => .int .i64 2) (fun _ => [obj p 105 [.pointer (some ⟨pl, 0, none⟩)]])) := ⟨fun p pl s hs => by
  refine spec_of Try.func61 rfl Try.ntmps61 rfl [(0, _), (1, _)] rfl ?_; intro base F l0 hl0; (try simp only [List.cons_append] at hl0); (try simp only [List.nil_append] at hl0); subst hl0
  repeat' (first | refine stx ?_ | refine And.intro ?_ ?_ | (intro e; exfalso; omega) | (intro e; subst e) | intro _)
  exact rt1 () rfl⟩
instance lr_new : Known Try.prog 25 (SpecH Try.prog 25 #[] [] (fun p : Nat => .pointer (some ⟨p, 0, none⟩)) (fun p => [LruAt p []])) := ⟨by
  refine spec_of Try.func25 rfl Try.ntmps25 rfl [] rfl ?_; intro base F l0 hl0; (try simp only [List.cons_append] at hl0); (try simp only [List.nil_append] at hl0); subst hl0
  haveI : NatI 8 8 := ⟨rfl⟩
  haveI : NatI 1 1 := ⟨rfl⟩
  repeat' (first | refine stx ?_ | refine And.intro ?_ ?_ | (intro e; exfalso; omega) | (intro e; subst e) | intro _)
  rename_i pl p
  refine rt1 p rfl (en2 LruAt.shut)⟩
instance lr_same : Known Try.prog 96 (∀ (xn : Int) (n : Nat) [NatI xn n], n ≤ 4194304 → SpecH Try.prog 96 #[.int .i64 xn] [] (fun q : Option Addr × Nat => .slice q.1 n q.2) (fun q => [Vec 34 1 q.1 n q.2 (u32s (List.range n))])) := ⟨fun xn n _ hn => by
  obtain rfl : xn = (n : Int) := NatI.out
  refine spec_of Try.func96 rfl Try.ntmps96 rfl [(0, _)] rfl ?_; intro base F l0 hl0; (try simp only [List.cons_append] at hl0); (try simp only [List.nil_append] at hl0); subst hl0
  repeat' (first | refine stx ?_ | refine And.intro ?_ ?_ | (intro e; exfalso; omega) | (intro e; subst e) | intro _)
  rename_i b
  refine tc_lp (ι := {q : Nat × List Nat // q.1 ≤ n ∧ q.2 = sameL n q.1}) [9] (fun e q => (9, .int .i64 (q.1.1 : Nat)) :: e) (fun q => [Vec 34 1 (some ⟨b, 0, none⟩) n n (u32s q.1.2), F]) (fun q => n - q.1.1) ⟨(0, sameL n 0), by omega, rfl⟩ ?_ (hl := by dsimp only; rw [sameL_zero]; exact en)
  rintro K ⟨⟨i, D⟩, hi, hD⟩ hK
  dsimp only at hi hD ⊢
  have hl : D.length = n := by rw [hD]; simp [sameL]
  by_cases hlt : i < n
  · repeat' (first | refine stx ?_ | refine And.intro ?_ ?_ | (intro e; exfalso; omega) | (intro e; subst e) | intro _)
    exact again hK ⟨(i + 1, D.set i i), by omega, by dsimp only; rw [hD]; exact sameL_set hlt⟩
  · obtain rfl : i = n := by omega
    rw [hD, sameL_all]
    repeat' (first | refine stx ?_ | refine And.intro ?_ ?_ | (intro e; exfalso; omega) | (intro e; subst e) | intro _)
    exact rt1 (some ⟨b, 0, none⟩, i) rfl⟩
set_option maxHeartbeats 4000000 in
instance lr_room : Known Try.prog 65 (∀ (p pl N s : Nat) (L : List Nat), s < 4194304 → SpecH Try.prog 65 #[.pointer (some ⟨p, 0, none⟩), .int .u32 (s : Nat)] [obj p 105 [.pointer (some ⟨pl, 0, none⟩)], FieldAt pl (F1 N L)] (fun _ : Nat => .tuple #[]) (fun M => [fact (s < M ∧ N ≤ M), obj p 105 [.pointer (some ⟨pl, 0, none⟩)], FieldAt pl (F1 M L)])) := ⟨fun p pl N s L hs => by
  refine spec_of Try.func65 rfl Try.ntmps65 rfl [(0, _), (1, _)] rfl ?_; intro base F l0 hl0; (try simp only [List.cons_append] at hl0); (try simp only [List.nil_append] at hl0); subst hl0
  refine TC.know (fun _ z => FieldAt.wf (p := pl) (f := F1 N L) (by (repeat (first | (with_reducible exact Rem.here _ _) | (with_reducible apply Rem.there) | fail)); done) z) fun w => ?_
  obtain ⟨w1, w2, w3, w4, w5⟩ := f1_wf w
  by_cases hr : s < N
  · repeat' (first | refine stx ?_ | refine And.intro ?_ ?_ | (intro e; exfalso; omega) | (intro e; subst e) | intro _)
    exact re0 N rfl (he := en)
  · obtain ⟨M, hM⟩ : ∃ M : Nat, min (4194304 : Int) (max (2 * N) (s + 1)) = M := ⟨(min (4194304 : Int) (max (2 * N) (s + 1))).toNat, by omega⟩
    have hren := f1_ren w (nodes := M) (by omega) (by omega)
    haveI iR : Known Try.prog 95 (∀ (a : Option Addr) (cap : Nat), SpecH Try.prog 95 #[.pointer (some ⟨pl, 0, none⟩), .slice a N cap, .int .i64 (min (4194304 : Int) (max (2 * N) (s + 1)))] [FieldAt pl (F1 N L), Vec 34 1 a N cap (u32s (List.range N))] (fun _ : Unit => .int .i64 (renE (F1 N L) (List.range N) M)) (fun _ => [FieldAt pl (F1 M L), Vec 34 1 a N cap (u32s (List.range N))])) := ⟨fun a cap => by
      have h := fRenumber.out pl (F1 N L) a cap (List.range N) (M : Int) (fun x hx => by have := List.mem_range.1 hx; omega) (by simpa using w4)
      rw [hren, List.length_range] at h
      rw [hM]; exact h⟩
    repeat' (first | ((fail_if_success (refine atD ?_)); refine stx ?_) | refine And.intro ?_ ?_ | (intro e; exfalso; omega) | (intro e; subst e) | intro _)
    refine drx [FieldAt pl (F1 N L)] ?_
    refine tks [0, 4, 6, 8, 1, 7, 9, 2, 10, 3, 11, 12] 2 ?_; repeat' (first | refine stx ?_ | refine And.intro ?_ ?_ | (intro e; exfalso; omega) | (intro e; subst e) | intro _)
    refine hv 5 fun x5 => ?_
    refine hv 13 fun x13 => ?_
    repeat' (first | refine stx ?_ | refine And.intro ?_ ?_ | (intro e; exfalso; omega) | (intro e; subst e) | intro _)
    exact re0 M rfl (he := en)⟩
instance lr_has : Known Try.prog 26 (∀ (p : Nat) (L : List Nat) (xs : Int) (s : Nat) [NatI xs s], s < 4294967296 → SpecH Try.prog 26 #[.pointer (some ⟨p, 0, none⟩), .int .u32 xs] [LruAt p L] (fun _ : Unit => .bool (decide (s ∈ L))) (fun _ => [LruAt p L])) := ⟨fun p L xs s _ hs => by
  obtain rfl : xs = (s : Int) := NatI.out
  by_cases hb : (s : Int) < 4194304
  · refine spec_of Try.func26 rfl Try.ntmps26 rfl [(0, _), (1, _)] rfl ?_; intro base F l0 hl0; (try simp only [List.cons_append] at hl0); (try simp only [List.nil_append] at hl0); subst hl0
    refine LruAt.openC fun pl N w => ?_
    obtain ⟨w1, w2, w3, w4, w5⟩ := f1_wf w
    obtain ⟨o1, o2⟩ := f1_ofR (N := N) (L := L) (n := s)
    by_cases hm : s ∈ L
    · have := w2 s hm
      rw [if_neg (by omega), if_pos hm] at o2
      rw [decide_eq_true hm]
      repeat' (first | refine stx ?_ | refine And.intro ?_ ?_ | (intro e; exfalso; omega) | (intro e; subst e) | intro _)
      exact rt1 () rfl (en2 LruAt.shut)
    · rw [if_neg hm] at o2
      rw [decide_eq_false hm]
      have o3 : ((F1 N L).ofR s).2 ≠ 0 := by rw [o2]; split <;> decide
      repeat' (first | refine stx ?_ | refine And.intro ?_ ?_ | (intro e; exfalso; omega) | (intro e; subst e) | intro _)
      exact rt1 () rfl (en2 LruAt.shut)
  · haveI := lr_check_bad
    refine spec_of Try.func26 rfl Try.ntmps26 rfl [(0, _), (1, _)] rfl ?_; intro base F l0 hl0; (try simp only [List.cons_append] at hl0); (try simp only [List.nil_append] at hl0); subst hl0
    refine LruAt.openC fun pl N w => ?_
    obtain ⟨w1, w2, w3, w4, w5⟩ := f1_wf w
    have hm : s ∉ L := fun h => by have := w2 s h; omega
    rw [decide_eq_false hm]
    repeat' (first | refine stx ?_ | refine And.intro ?_ ?_ | (intro e; exfalso; omega) | (intro e; subst e) | intro _)
    exact rt1 () rfl (en2 LruAt.shut)⟩
end Go.Proofs.Ytbkpojlbclehaaa
