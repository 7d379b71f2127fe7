/- LrA: LrTheory, LrW1, LrW2, LrW3. -/
import Derived.Test.YtdpiglociolagaaGreatLkA
import Derived.Test.YtdpiglociolagaaGreatLkC
import Derived.Test.YtdpiglociolagaaGreatSlX
import Derived.Test.YtdpiglociolagaaGreatSlEnd2
/- LRU lists, plainly: a field that has one list. No program, no condition. -/
namespace Go.Lr
open Go.Lk Go.Sl
abbrev F1 (N : Nat) (L : List Nat) : Fld := ⟨N, [L]⟩
variable {N n : Nat} {L : List Nat}
theorem f1_wf (w : Wf (F1 N L)) : L.Nodup ∧ (∀ x ∈ L, x < N) ∧ 1 ≤ N ∧ N ≤ 4194304 ∧ L.length ≤ N :=
  ⟨w.nodup (h := 0) (by simp), fun x hx => w.lt (h := 0) (by simp) hx, by have := w.bound; simp at this; omega, by have := w.bound; simp at this; omega, w.len_le 0⟩
theorem f1_place : (F1 N L).place n = if n ∈ L then some (0, L.idxOf n) else none := by
  show placeL n [L] = _
  unfold placeL
  by_cases h : n ∈ L
  · rw [if_pos h, if_pos h]
  · rw [if_neg h, if_neg h]; rfl
theorem f1_head : (F1 N L).head 0 = true := by unfold Fld.head; simp
theorem f1_addE : (F1 N L).addE 0 n = if N ≤ n then 2 else if n ∈ L then 11 else 0 := by
  unfold Fld.addE
  rw [f1_head, f1_place]
  by_cases h1 : N ≤ n <;> by_cases h2 : n ∈ L <;> simp [h1, h2]
theorem f1_addF (h1 : n < N) (h2 : n ∉ L) : (F1 N L).addF 0 n false = F1 N (L ++ [n]) := by
  have e : (F1 N L).addE 0 n = 0 := by rw [f1_addE, if_neg (by omega), if_neg h2]
  unfold Fld.addF
  rw [e, if_pos rfl]; rfl
theorem f1_addF_bad (h : n ∈ L) : (F1 N L).addF 0 n false = F1 N L := by
  unfold Fld.addF
  rw [f1_addE]
  by_cases h1 : N ≤ n
  · rw [if_pos h1, if_neg (by decide)]
  · rw [if_neg h1, if_pos h, if_neg (by decide)]
theorem f1_inE : (F1 N L).inE n = if N ≤ n then 2 else if n ∈ L then 0 else 9 := by
  unfold Fld.inE
  rw [f1_place]
  by_cases h1 : N ≤ n <;> by_cases h2 : n ∈ L <;> simp [h1, h2]
theorem f1_remF (h1 : n < N) (h2 : n ∈ L) : (F1 N L).remF n = F1 N (L.erase n) := by
  have e : (F1 N L).inE n = 0 := by rw [f1_inE, if_neg (by omega), if_pos h2]
  unfold Fld.remF
  rw [e, if_pos rfl, f1_place, if_pos h2]
  show Fld.set (F1 N L) 0 (L.take (L.idxOf n) ++ L.drop (L.idxOf n + 1)) = _
  rw [← List.eraseIdx_eq_take_drop_succ, ← List.erase_eq_eraseIdx_of_idxOf rfl]; rfl
theorem f1_ofR : ((F1 N L).ofR n).1 = 0 ∧ ((F1 N L).ofR n).2 = if N ≤ n then 2 else if n ∈ L then 0 else 9 := by
  unfold Fld.ofR
  rw [f1_place]
  by_cases h1 : N ≤ n <;> by_cases h2 : n ∈ L <;> simp [h1, h2]
theorem f1_first : (F1 N L).first 0 = (L.headD 0, if L = [] then 9 else 0) := by
  unfold Fld.first
  rw [f1_head]
  cases L <;> rfl
theorem f1_listOf : (F1 N L).listOf 0 = L := rfl
theorem renList_id {nodes : Nat} (hN : N ≤ nodes) : ∀ {l pre : List Nat}, (pre ++ l).Nodup → (∀ x ∈ l, x < N) → renList (List.range N) 0 l (F1 nodes pre) = some (F1 nodes (pre ++ l))
  | [], pre, _, _ => by simp [renList]
  | n :: l, pre, hd, hl => by
    have hn : n < N := hl n (by simp)
    have e : (List.range N).getD n 0 = n := by rw [List.getD_eq_getElem?_getD, List.getElem?_eq_getElem (by simpa using hn)]; simp
    have hnp : n ∉ pre := fun h => by
      rw [List.nodup_append] at hd
      exact hd.2.2 n h n (by simp) rfl
    unfold renList
    have e0 : (F1 nodes pre).addE ((0 : Nat) : Int) n = 0 := by
      have := f1_addE (N := nodes) (L := pre) (n := n)
      rw [if_neg (by omega), if_neg hnp] at this; exact this
    have e1 : (F1 nodes pre).addF ((0 : Nat) : Int) n false = F1 nodes (pre ++ [n]) := f1_addF (by omega) hnp
    simp only [e, e0, e1, if_true]
    rw [renList_id hN (by simpa using hd) (fun x hx => hl x (by simp [hx]))]
    simp
theorem f1_ren {nodes : Nat} (w : Wf (F1 N L)) (h1 : N ≤ nodes) (h2 : nodes ≤ 4194304) : renG (F1 N L) (List.range N) nodes = F1 nodes L := by
  obtain ⟨w1, w2, w3, w4, w5⟩ := f1_wf w
  have : (F1 N L).renF (List.range N) nodes = some (F1 nodes L) := by
    unfold Fld.renF
    rw [if_neg (by simp; omega)]
    show renLists (List.range N) 0 [L] ⟨(nodes : Int).toNat, List.replicate 1 []⟩ = _
    unfold renLists
    rw [show (⟨(nodes : Int).toNat, List.replicate 1 []⟩ : Fld) = F1 nodes [] from rfl, renList_id h1 (by simpa using w1) w2]
    simp [renLists]
  exact (ren_some this).2
def addE (L : List Nat) (s : Nat) : Int := if 4194304 ≤ s then 2 else if s ∈ L then 11 else 0
def addL (L : List Nat) (s : Nat) : List Nat := if 4194304 ≤ s ∨ s ∈ L then L else L ++ [s]
def remE (L : List Nat) (s : Nat) : Int := if 4194304 ≤ s then 2 else if s ∈ L then 0 else 9
def useL (L : List Nat) (s : Nat) : List Nat := if s ∈ L then L.erase s ++ [s] else L
def renOk (L to : List Nat) : Prop := (∀ s ∈ L, s < to.length ∧ to.getD s 0 < 4194304) ∧ (L.map fun s => to.getD s 0).Nodup
instance (L to : List Nat) : Decidable (renOk L to) := by unfold renOk; infer_instance
theorem renOk.sub {l L to : List Nat} (h : renOk L to) (hl : l.Sublist L) : renOk l to := ⟨fun s hs => h.1 s (hl.subset hs), h.2.sublist (hl.map _)⟩
end Go.Lr
namespace Go.Lr
open Go.Lk Go.Sl
abbrev gto (to : List Nat) : Nat → Nat := fun s => to.getD s 0
theorem addL_ok {l : List Nat} {s : Nat} (h : addE l s = 0) : addL l s = l ++ [s] := by
  unfold addE at h; unfold addL
  by_cases h1 : 4194304 ≤ s
  · rw [if_pos h1] at h; cases h
  · by_cases h2 : s ∈ l
    · rw [if_neg h1, if_pos h2] at h; cases h
    · rw [if_neg (by simp [h1, h2])]
theorem take_snoc {L : List Nat} {i : Nat} (hi : i < L.length) : L.take (i + 1) = L.take i ++ [L.getD i 0] := by
  rw [← List.take_append_getElem hi, List.getD_eq_getElem?_getD, List.getElem?_eq_getElem hi]; rfl
theorem map_take {L to : List Nat} {i : Nat} (hi : i < L.length) : (L.take (i + 1)).map (gto to) = (L.take i).map (gto to) ++ [to.getD (L.getD i 0) 0] := by
  rw [take_snoc hi, List.map_append]; rfl
end Go.Lr

/- lru, walked: a list of slots. -/
namespace Go.Lr
open Go.Lk Go.Sl Go.Proofs.YtdpiglociolagaaGreat
def LruAt (p : Nat) (L : List Nat) : HP := Exs (ι := Nat × Nat) fun q => [obj p 121 [.pointer (some ⟨q.1, 0, none⟩)], FieldAt q.1 (F1 q.2 L)]
section
variable {r0 : Option Nat} {P : Program} {base : World} {n : Nat} {ds : List Deferred} {Q : Exit → Act → World → Prop} {env : Env} {l r : List HP} {KK : Act → World → Prop} {c : Code} {p : Nat} {L : List Nat}
theorem LruAt.openK (h : ∀ pl N : Nat, Wf (F1 N L) → TK base n ds KK env (obj p 121 [.pointer (some ⟨pl, 0, none⟩)] :: FieldAt pl (F1 N L) :: r)) (hr : Rem l (LruAt p L) r := by (repeat (first | (with_reducible exact Rem.here _ _) | (with_reducible apply Rem.there) | fail)); done) : TK base n ds KK env l := by
  unfold LruAt at hr
  refine TK.exs hr fun ⟨pl, N⟩ => ?_
  exact TK.know (fun _ z => FieldAt.wf (p := pl) (f := F1 N L) (.there _ (.here _ _)) z) fun w => h pl N w
theorem LruAt.openC (h : ∀ pl N : Nat, Wf (F1 N L) → TC r0 P base n ds c Q env (obj p 121 [.pointer (some ⟨pl, 0, none⟩)] :: FieldAt pl (F1 N L) :: r)) (hr : Rem l (LruAt p L) r := by (repeat (first | (with_reducible exact Rem.here _ _) | (with_reducible apply Rem.there) | fail)); done) : TC r0 P base n ds c Q env l := LruAt.openK h hr
theorem LruAt.openL {all : Array Oper} {ro : List Oper} (h : ∀ pl N : Nat, Wf (F1 N L) → TL r0 P base n ds all ro Q env (obj p 121 [.pointer (some ⟨pl, 0, none⟩)] :: FieldAt pl (F1 N L) :: r)) (hr : Rem l (LruAt p L) r := by (repeat (first | (with_reducible exact Rem.here _ _) | (with_reducible apply Rem.there) | fail)); done) : TL r0 P base n ds all ro Q env l := LruAt.openK h hr
theorem LruAt.shut {pl N : Nat} : Ent (obj p 121 [.pointer (some ⟨pl, 0, none⟩)] :: FieldAt pl (F1 N L) :: r) (LruAt p L :: r) := Ent.exs (pl, N) (Ent.refl _)
theorem LruAt.facts (h : L.Nodup → (∀ x ∈ L, x < 4194304) → L.length ≤ 4194304 → TK base n ds KK env l) (hr : Rem l (LruAt p L) r := by (repeat (first | (with_reducible exact Rem.here _ _) | (with_reducible apply Rem.there) | fail)); done) : TK base n ds KK env l := by
  refine TK.know (p := L.Nodup ∧ (∀ x ∈ L, x < 4194304) ∧ L.length ≤ 4194304) (fun _ y => ?_) fun ⟨a, b, c⟩ => h a b c
  unfold LruAt at hr
  obtain ⟨⟨pl, N⟩, y⟩ := exs_out hr y
  obtain ⟨w1, w2, w3, w4, w5⟩ := f1_wf (FieldAt.wf (p := pl) (f := F1 N L) (.there _ (.here _ _)) y)
  exact ⟨w1, fun x hx => by have := w2 x hx; omega, by omega⟩
theorem LruAt.factsC (h : L.Nodup → (∀ x ∈ L, x < 4194304) → L.length ≤ 4194304 → TC r0 P base n ds c Q env l) (hr : Rem l (LruAt p L) r := by (repeat (first | (with_reducible exact Rem.here _ _) | (with_reducible apply Rem.there) | fail)); done) : TC r0 P base n ds c Q env l := LruAt.facts h hr
end
end Go.Lr
namespace Go.Lr
open Go.Lk Go.Sl
def sameL (n i : Nat) : List Nat := (List.range n).map fun j => if j < i then j else 0
theorem sameL_zero {n : Nat} : u32s (sameL n 0) = rows n fun _ => [Value.int .u32 0] := by
  induction n with
  | zero => rfl
  | succ n ih => simp [rows, u32s, sameL, List.range_succ] at ih ⊢; exact ih
theorem sameL_all {n : Nat} : sameL n n = List.range n := by
  unfold sameL
  conv => rhs; rw [← List.map_id (List.range n)]
  exact List.map_congr_left fun j hj => by rw [if_pos (List.mem_range.1 hj)]; rfl
theorem sameL_set {n i : Nat} (_h : i < n) : (sameL n i).set i i = sameL n (i + 1) := by
  refine List.ext_getElem (by simp [sameL]) fun j h1 h2 => ?_
  rw [List.getElem_set]
  simp only [sameL, List.getElem_map, List.getElem_range]
  by_cases e : i = j
  · rw [if_pos e, if_pos (by omega)]; exact e
  · rw [if_neg e]
    by_cases e2 : j < i
    · rw [if_pos e2, if_pos (by omega)]
    · rw [if_neg e2, if_neg (by omega)]
end Go.Lr
namespace Go.Proofs.YtdpiglociolagaaGreat
open Go.Lk Go.Sl Go.Lr
attribute [local irreducible] TK TL TC Th Bk Nx fnPost WA TQ OpQ OpN SpecH Rd Ent IterH RoundH Rb Rp fnPostM
attribute [local irreducible] Fld.addE Fld.addF Fld.befE Fld.befF Fld.inE Fld.remF Fld.first Fld.last Fld.next Fld.prev Fld.ofR Fld.listOf Fld.joinE Fld.joinF renE renG Fld.at Fld.set Fld.place
instance lr_check : Known Tryz.prog 60 (∀ (p pl : Nat) (s : Int), s < 4194304 → SpecH Tryz.prog 60 #[.pointer (some ⟨p, 0, none⟩), .int .u32 s] [obj p 121 [.pointer (some ⟨pl, 0, none⟩)]] (fun _ : Unit => .int .i64 0) (fun _ => [obj p 121 [.pointer (some ⟨pl, 0, none⟩)]])) := ⟨fun p pl s hs => by
  refine spec_of Tryz.func60 rfl Tryz.ntmps60 rfl [(0, _), (1, _)] rfl ?_; intro base F l0 hl0; (try simp only [List.cons_append] at hl0); (try simp only [List.nil_append] at hl0); subst hl0
  repeat' (first | refine stx ?_ | refine And.intro ?_ ?_ | (intro e; exfalso; omega) | (intro e; subst e) | intro _)
  exact rt1 () rfl⟩
theorem lr_check_bad : Known Tryz.prog 60 (∀ (p pl : Nat) (s : Int), ¬ s < 4194304 → SpecH Tryz.prog 60 #[.pointer (some ⟨p, 0, none⟩), .int .u32 s] [obj p 121 [.pointer (some ⟨pl, 0, none⟩)]] (fun _ : Unit => .int .i64 2) (fun _ => [obj p 121 [.pointer (some ⟨pl, 0, none⟩)]])) := ⟨fun p pl s hs => by
  refine spec_of Tryz.func60 rfl Tryz.ntmps60 rfl [(0, _), (1, _)] rfl ?_; intro base F l0 hl0; (try simp only [List.cons_append] at hl0); (try simp only [List.nil_append] at hl0); subst hl0
  repeat' (first | refine stx ?_ | refine And.intro ?_ ?_ | (intro e; exfalso; omega) | (intro e; subst e) | intro _)
  exact rt1 () rfl⟩
instance lr_new : Known Tryz.prog 46 (SpecH Tryz.prog 46 #[] [] (fun p : Nat => .pointer (some ⟨p, 0, none⟩)) (fun p => [LruAt p []])) := ⟨by
  refine spec_of Tryz.func46 rfl Tryz.ntmps46 rfl [] rfl ?_; intro base F l0 hl0; (try simp only [List.cons_append] at hl0); (try simp only [List.nil_append] at hl0); subst hl0
  haveI : NatI 8 8 := ⟨rfl⟩
  haveI : NatI 1 1 := ⟨rfl⟩
  repeat' (first | refine stx ?_ | refine And.intro ?_ ?_ | (intro e; exfalso; omega) | (intro e; subst e) | intro _)
  rename_i pl p
  refine rt1 p rfl (en2 LruAt.shut)⟩
instance lr_same : Known Tryz.prog 118 (∀ (xn : Int) (n : Nat) [NatI xn n], n ≤ 4194304 → SpecH Tryz.prog 118 #[.int .i64 xn] [] (fun q : Option Addr × Nat => .slice q.1 n q.2) (fun q => [Vec 41 1 q.1 n q.2 (u32s (List.range n))])) := ⟨fun xn n _ hn => by
  obtain rfl : xn = (n : Int) := NatI.out
  refine spec_of Tryz.func118 rfl Tryz.ntmps118 rfl [(0, _)] rfl ?_; intro base F l0 hl0; (try simp only [List.cons_append] at hl0); (try simp only [List.nil_append] at hl0); subst hl0
  repeat' (first | refine stx ?_ | refine And.intro ?_ ?_ | (intro e; exfalso; omega) | (intro e; subst e) | intro _)
  rename_i b
  refine tc_lp (ι := {q : Nat × List Nat // q.1 ≤ n ∧ q.2 = sameL n q.1}) [9] (fun e q => (9, .int .i64 (q.1.1 : Nat)) :: e) (fun q => [Vec 41 1 (some ⟨b, 0, none⟩) n n (u32s q.1.2), F]) (fun q => n - q.1.1) ⟨(0, sameL n 0), by omega, rfl⟩ ?_ (hl := by dsimp only; rw [sameL_zero]; exact en)
  rintro K ⟨⟨i, D⟩, hi, hD⟩ hK
  dsimp only at hi hD ⊢
  have hl : D.length = n := by rw [hD]; simp [sameL]
  by_cases hlt : i < n
  · repeat' (first | refine stx ?_ | refine And.intro ?_ ?_ | (intro e; exfalso; omega) | (intro e; subst e) | intro _)
    exact again hK ⟨(i + 1, D.set i i), by omega, by dsimp only; rw [hD]; exact sameL_set hlt⟩
  · obtain rfl : i = n := by omega
    rw [hD, sameL_all]
    repeat' (first | refine stx ?_ | refine And.intro ?_ ?_ | (intro e; exfalso; omega) | (intro e; subst e) | intro _)
    exact rt1 (some ⟨b, 0, none⟩, i) rfl⟩
set_option maxHeartbeats 4000000 in
instance lr_room : Known Tryz.prog 77 (∀ (p pl N s : Nat) (L : List Nat), s < 4194304 → SpecH Tryz.prog 77 #[.pointer (some ⟨p, 0, none⟩), .int .u32 (s : Nat)] [obj p 121 [.pointer (some ⟨pl, 0, none⟩)], FieldAt pl (F1 N L)] (fun _ : Nat => .tuple #[]) (fun M => [fact (s < M ∧ N ≤ M), obj p 121 [.pointer (some ⟨pl, 0, none⟩)], FieldAt pl (F1 M L)])) := ⟨fun p pl N s L hs => by
  refine spec_of Tryz.func77 rfl Tryz.ntmps77 rfl [(0, _), (1, _)] rfl ?_; intro base F l0 hl0; (try simp only [List.cons_append] at hl0); (try simp only [List.nil_append] at hl0); subst hl0
  refine TC.know (fun _ z => FieldAt.wf (p := pl) (f := F1 N L) (by (repeat (first | (with_reducible exact Rem.here _ _) | (with_reducible apply Rem.there) | fail)); done) z) fun w => ?_
  obtain ⟨w1, w2, w3, w4, w5⟩ := f1_wf w
  by_cases hr : s < N
  · repeat' (first | refine stx ?_ | refine And.intro ?_ ?_ | (intro e; exfalso; omega) | (intro e; subst e) | intro _)
    exact re0 N rfl (he := en)
  · obtain ⟨M, hM⟩ : ∃ M : Nat, min (4194304 : Int) (max (2 * N) (s + 1)) = M := ⟨(min (4194304 : Int) (max (2 * N) (s + 1))).toNat, by omega⟩
    have hren := f1_ren w (nodes := M) (by omega) (by omega)
    haveI iR : Known Tryz.prog 117 (∀ (a : Option Addr) (cap : Nat), SpecH Tryz.prog 117 #[.pointer (some ⟨pl, 0, none⟩), .slice a N cap, .int .i64 (min (4194304 : Int) (max (2 * N) (s + 1)))] [FieldAt pl (F1 N L), Vec 41 1 a N cap (u32s (List.range N))] (fun _ : Unit => .int .i64 (renE (F1 N L) (List.range N) M)) (fun _ => [FieldAt pl (F1 M L), Vec 41 1 a N cap (u32s (List.range N))])) := ⟨fun a cap => by
      have h := fRenumber.out pl (F1 N L) a cap (List.range N) (M : Int) (fun x hx => by have := List.mem_range.1 hx; omega) (by simpa using w4)
      rw [hren, List.length_range] at h
      rw [hM]; exact h⟩
    repeat' (first | ((fail_if_success (refine atD ?_)); refine stx ?_) | refine And.intro ?_ ?_ | (intro e; exfalso; omega) | (intro e; subst e) | intro _)
    refine drx [FieldAt pl (F1 N L)] ?_
    refine tks [0, 4, 6, 8, 1, 7, 9, 2, 10, 3, 11, 12] 2 ?_; repeat' (first | refine stx ?_ | refine And.intro ?_ ?_ | (intro e; exfalso; omega) | (intro e; subst e) | intro _)
    refine hv 5 fun x5 => ?_
    refine hv 13 fun x13 => ?_
    repeat' (first | refine stx ?_ | refine And.intro ?_ ?_ | (intro e; exfalso; omega) | (intro e; subst e) | intro _)
    exact re0 M rfl (he := en)⟩
instance lr_has : Known Tryz.prog 30 (∀ (p : Nat) (L : List Nat) (xs : Int) (s : Nat) [NatI xs s], s < 4294967296 → SpecH Tryz.prog 30 #[.pointer (some ⟨p, 0, none⟩), .int .u32 xs] [LruAt p L] (fun _ : Unit => .bool (decide (s ∈ L))) (fun _ => [LruAt p L])) := ⟨fun p L xs s _ hs => by
  obtain rfl : xs = (s : Int) := NatI.out
  by_cases hb : (s : Int) < 4194304
  · refine spec_of Tryz.func30 rfl Tryz.ntmps30 rfl [(0, _), (1, _)] rfl ?_; intro base F l0 hl0; (try simp only [List.cons_append] at hl0); (try simp only [List.nil_append] at hl0); subst hl0
    refine LruAt.openC fun pl N w => ?_
    obtain ⟨w1, w2, w3, w4, w5⟩ := f1_wf w
    obtain ⟨o1, o2⟩ := f1_ofR (N := N) (L := L) (n := s)
    by_cases hm : s ∈ L
    · have := w2 s hm
      rw [if_neg (by omega), if_pos hm] at o2
      rw [decide_eq_true hm]
      repeat' (first | refine stx ?_ | refine And.intro ?_ ?_ | (intro e; exfalso; omega) | (intro e; subst e) | intro _)
      exact rt1 () rfl (en2 LruAt.shut)
    · rw [if_neg hm] at o2
      rw [decide_eq_false hm]
      have o3 : ((F1 N L).ofR s).2 ≠ 0 := by rw [o2]; split <;> decide
      repeat' (first | refine stx ?_ | refine And.intro ?_ ?_ | (intro e; exfalso; omega) | (intro e; subst e) | intro _)
      exact rt1 () rfl (en2 LruAt.shut)
  · haveI := lr_check_bad
    refine spec_of Tryz.func30 rfl Tryz.ntmps30 rfl [(0, _), (1, _)] rfl ?_; intro base F l0 hl0; (try simp only [List.cons_append] at hl0); (try simp only [List.nil_append] at hl0); subst hl0
    refine LruAt.openC fun pl N w => ?_
    obtain ⟨w1, w2, w3, w4, w5⟩ := f1_wf w
    have hm : s ∉ L := fun h => by have := w2 s h; omega
    rw [decide_eq_false hm]
    repeat' (first | refine stx ?_ | refine And.intro ?_ ?_ | (intro e; exfalso; omega) | (intro e; subst e) | intro _)
    exact rt1 () rfl (en2 LruAt.shut)⟩
end Go.Proofs.YtdpiglociolagaaGreat

/- lru, walked: the calls. -/
namespace Go.Sl
theorem atLoad (t : TypeId) {r : Option Nat} {P : Program} {base : World} {n : Nat} {ds : List Deferred} {Q : Exit → Act → World → Prop} {env : Env} {l : List HP} {all : Array Oper} {ro : List Oper} {dst : Option Tmp} {x : Operand} {ty : TypeId} {pos : String} {af : Array Edge} {g : Option (Nat × Bool)} (h : TL r P base n ds all (⟨dst, .load t x, ty, pos, af, g⟩ :: ro) Q env l) : TL r P base n ds all (⟨dst, .load t x, ty, pos, af, g⟩ :: ro) Q env l := h
end Go.Sl
namespace Go.Proofs.YtdpiglociolagaaGreat
open Go.Lk Go.Sl Go.Lr
attribute [local irreducible] TK TL TC Th Bk Nx fnPost WA TQ OpQ OpN SpecH Rd Ent IterH RoundH Rb Rp fnPostM
attribute [local irreducible] Fld.addE Fld.addF Fld.befE Fld.befF Fld.inE Fld.remF Fld.first Fld.last Fld.next Fld.prev Fld.ofR Fld.listOf Fld.joinE Fld.joinF renE renG Fld.at Fld.set Fld.place
set_option maxHeartbeats 4000000 in
instance lr_add : Known Tryz.prog 33 (∀ (p : Nat) (L : List Nat) (xs : Int) (s : Nat) [NatI xs s], s < 4294967296 → SpecH Tryz.prog 33 #[.pointer (some ⟨p, 0, none⟩), .int .u32 xs] [LruAt p L] (fun _ : Unit => .int .i64 (Lr.addE L s)) (fun _ => [LruAt p (Lr.addL L s)])) := ⟨fun p L xs s _ hs => by
  obtain rfl : xs = (s : Int) := NatI.out
  by_cases hb : (s : Int) < 4194304
  · refine spec_of Tryz.func33 rfl Tryz.ntmps33 rfl [(0, _), (1, _)] rfl ?_; intro base F l0 hl0; (try simp only [List.cons_append] at hl0); (try simp only [List.nil_append] at hl0); subst hl0
    refine LruAt.openC fun pl N w => ?_
    obtain ⟨w1, w2, w3, w4, w5⟩ := f1_wf w
    repeat' (first | refine stx ?_ | refine And.intro ?_ ?_ | (intro e; exfalso; omega) | (intro e; subst e) | intro _)
    rename_i M hM
    have hE : (F1 M L).addE 0 s = Lr.addE L s := by
      rw [f1_addE]; unfold Lr.addE
      simp only [show ¬ M ≤ s by have := hM.1; omega, show ¬ 4194304 ≤ s by omega, if_false]
    rw [hE]
    have hL : (F1 M L).addF 0 s false = F1 M (Lr.addL L s) := by
      unfold Lr.addL
      by_cases hm : s ∈ L
      · rw [if_pos (.inr hm), f1_addF_bad hm]
      · rw [if_neg (fun h => by rcases h with h | h; omega; exact hm h), f1_addF hM.1 hm]
    rw [hL]
    exact rt1 () rfl (en2 LruAt.shut)
  · haveI := lr_check_bad
    have e1 : Lr.addE L s = 2 := if_pos (by omega)
    have e2 : Lr.addL L s = L := if_pos (.inl (by omega))
    rw [e1, e2]
    refine spec_of Tryz.func33 rfl Tryz.ntmps33 rfl [(0, _), (1, _)] rfl ?_; intro base F l0 hl0; (try simp only [List.cons_append] at hl0); (try simp only [List.nil_append] at hl0); subst hl0
    refine LruAt.openC fun pl N w => ?_
    repeat' (first | refine stx ?_ | refine And.intro ?_ ?_ | (intro e; exfalso; omega) | (intro e; subst e) | intro _)
    exact rt1 () rfl (en2 LruAt.shut)⟩
theorem lr_checkL : Known Tryz.prog 60 (∀ (p : Nat) (L : List Nat) (s : Int), s < 4194304 → SpecH Tryz.prog 60 #[.pointer (some ⟨p, 0, none⟩), .int .u32 s] [LruAt p L] (fun _ : Unit => .int .i64 0) (fun _ => [LruAt p L])) := ⟨fun p L s hs => by
  refine spec_of Tryz.func60 rfl Tryz.ntmps60 rfl [(0, _), (1, _)] rfl ?_; intro base F l0 hl0; (try simp only [List.cons_append] at hl0); (try simp only [List.nil_append] at hl0); subst hl0
  refine LruAt.openC fun pl N w => ?_
  repeat' (first | refine stx ?_ | refine And.intro ?_ ?_ | (intro e; exfalso; omega) | (intro e; subst e) | intro _)
  exact rt1 () rfl (en2 LruAt.shut)⟩
theorem lr_checkL_bad : Known Tryz.prog 60 (∀ (p : Nat) (L : List Nat) (s : Int), ¬ s < 4194304 → SpecH Tryz.prog 60 #[.pointer (some ⟨p, 0, none⟩), .int .u32 s] [LruAt p L] (fun _ : Unit => .int .i64 2) (fun _ => [LruAt p L])) := ⟨fun p L s hs => by
  refine spec_of Tryz.func60 rfl Tryz.ntmps60 rfl [(0, _), (1, _)] rfl ?_; intro base F l0 hl0; (try simp only [List.cons_append] at hl0); (try simp only [List.nil_append] at hl0); subst hl0
  refine LruAt.openC fun pl N w => ?_
  repeat' (first | refine stx ?_ | refine And.intro ?_ ?_ | (intro e; exfalso; omega) | (intro e; subst e) | intro _)
  exact rt1 () rfl (en2 LruAt.shut)⟩
theorem lr_has0 : Known Tryz.prog 30 (∀ (p pl N : Nat) (L : List Nat) (s : Nat), s ∈ L → s < N → N ≤ 4194304 → SpecH Tryz.prog 30 #[.pointer (some ⟨p, 0, none⟩), .int .u32 (s : Nat)] [obj p 121 [.pointer (some ⟨pl, 0, none⟩)], FieldAt pl (F1 N L)] (fun _ : Unit => .bool true) (fun _ => [obj p 121 [.pointer (some ⟨pl, 0, none⟩)], FieldAt pl (F1 N L)])) := ⟨fun p pl N L s hm hN hN2 => by
  refine spec_of Tryz.func30 rfl Tryz.ntmps30 rfl [(0, _), (1, _)] rfl ?_; intro base F l0 hl0; (try simp only [List.cons_append] at hl0); (try simp only [List.nil_append] at hl0); subst hl0
  obtain ⟨o1, o2⟩ := f1_ofR (N := N) (L := L) (n := s)
  rw [if_neg (by omega), if_pos hm] at o2
  repeat' (first | refine stx ?_ | refine And.intro ?_ ?_ | (intro e; exfalso; omega) | (intro e; subst e) | intro _)
  exact rt1 () rfl⟩
theorem lr_remove0 : Known Tryz.prog 38 (∀ (p pl N : Nat) (L : List Nat) (s : Nat), s ∈ L → s < N → N ≤ 4194304 → SpecH Tryz.prog 38 #[.pointer (some ⟨p, 0, none⟩), .int .u32 (s : Nat)] [obj p 121 [.pointer (some ⟨pl, 0, none⟩)], FieldAt pl (F1 N L)] (fun _ : Unit => .int .i64 0) (fun _ => [obj p 121 [.pointer (some ⟨pl, 0, none⟩)], FieldAt pl (F1 N (L.erase s))])) := ⟨fun p pl N L s hm hN hN2 => by
  haveI := lr_has0
  refine spec_of Tryz.func38 rfl Tryz.ntmps38 rfl [(0, _), (1, _)] rfl ?_; intro base F l0 hl0; (try simp only [List.cons_append] at hl0); (try simp only [List.nil_append] at hl0); subst hl0
  have e1 := f1_remF hN hm
  have e2 : (F1 N L).inE s = 0 := by rw [f1_inE, if_neg (by omega), if_pos hm]
  repeat' (first | refine stx ?_ | refine And.intro ?_ ?_ | (intro e; exfalso; omega) | (intro e; subst e) | intro _)
  rw [e1, e2]
  exact rt1 () rfl⟩
instance lr_remove : Known Tryz.prog 38 (∀ (p : Nat) (L : List Nat) (xs : Int) (s : Nat) [NatI xs s], s < 4294967296 → SpecH Tryz.prog 38 #[.pointer (some ⟨p, 0, none⟩), .int .u32 xs] [LruAt p L] (fun _ : Unit => .int .i64 (Lr.remE L s)) (fun _ => [LruAt p (L.erase s)])) := ⟨fun p L xs s _ hs => by
  obtain rfl : xs = (s : Int) := NatI.out
  by_cases hm : s ∈ L
  · haveI := lr_has0
    refine spec_of Tryz.func38 rfl Tryz.ntmps38 rfl [(0, _), (1, _)] rfl ?_; intro base F l0 hl0; (try simp only [List.cons_append] at hl0); (try simp only [List.nil_append] at hl0); subst hl0
    refine LruAt.openC fun pl N w => ?_
    obtain ⟨w1, w2, w3, w4, w5⟩ := f1_wf w
    have hN := w2 s hm
    rw [show Lr.remE L s = 0 by unfold Lr.remE; rw [if_neg (by omega), if_pos hm]]
    have e1 := f1_remF hN hm
    have e2 : (F1 N L).inE s = 0 := by rw [f1_inE, if_neg (by omega), if_pos hm]
    repeat' (first | refine stx ?_ | refine And.intro ?_ ?_ | (intro e; exfalso; omega) | (intro e; subst e) | intro _)
    rw [e1, e2]
    exact rt1 () rfl (en2 LruAt.shut)
  · have hl : L.erase s = L := List.erase_of_not_mem hm
    rw [hl]
    haveI := lr_checkL
    by_cases hb : (s : Int) < 4194304
    · refine spec_of Tryz.func38 rfl Tryz.ntmps38 rfl [(0, _), (1, _)] rfl ?_; intro base F l0 hl0; (try simp only [List.cons_append] at hl0); (try simp only [List.nil_append] at hl0); subst hl0
      rw [show Lr.remE L s = 9 by unfold Lr.remE; rw [if_neg (by omega), if_neg hm]]
      repeat' (first | refine stx ?_ | refine And.intro ?_ ?_ | (intro e; exfalso; (first | omega | (apply e; assumption) | exact absurd e (by assumption) | fail)) | (intro e; subst e) | intro _)
      all_goals exact rt1 () rfl
    · haveI := lr_checkL_bad
      refine spec_of Tryz.func38 rfl Tryz.ntmps38 rfl [(0, _), (1, _)] rfl ?_; intro base F l0 hl0; (try simp only [List.cons_append] at hl0); (try simp only [List.nil_append] at hl0); subst hl0
      rw [show Lr.remE L s = 2 from if_pos (by omega)]
      repeat' (first | refine stx ?_ | refine And.intro ?_ ?_ | (intro e; exfalso; omega) | (intro e; subst e) | intro _)
      exact rt1 () rfl⟩
instance lr_use : Known Tryz.prog 31 (∀ (p : Nat) (L : List Nat) (xs : Int) (s : Nat) [NatI xs s], s < 4294967296 → SpecH Tryz.prog 31 #[.pointer (some ⟨p, 0, none⟩), .int .u32 xs] [LruAt p L] (fun _ : Unit => .int .i64 (Lr.remE L s)) (fun _ => [LruAt p (Lr.useL L s)])) := ⟨fun p L xs s _ hs => by
  obtain rfl : xs = (s : Int) := NatI.out
  by_cases hm : s ∈ L
  · haveI := lr_remove0
    refine spec_of Tryz.func31 rfl Tryz.ntmps31 rfl [(0, _), (1, _)] rfl ?_; intro base F l0 hl0; (try simp only [List.cons_append] at hl0); (try simp only [List.nil_append] at hl0); subst hl0
    refine LruAt.openC fun pl N w => ?_
    obtain ⟨w1, w2, w3, w4, w5⟩ := f1_wf w
    have hN := w2 s hm
    rw [show Lr.remE L s = 0 by unfold Lr.remE; rw [if_neg (by omega), if_pos hm], show Lr.useL L s = L.erase s ++ [s] from if_pos hm]
    have hm' : s ∉ L.erase s := fun h => by rw [w1.mem_erase_iff] at h; exact h.1 rfl
    have e1 : (F1 N (L.erase s)).addF 0 s false = F1 N (L.erase s ++ [s]) := f1_addF hN hm'
    have e2 : (F1 N (L.erase s)).addE 0 s = 0 := by rw [f1_addE, if_neg (by omega), if_neg hm']
    repeat' (first | refine stx ?_ | refine And.intro ?_ ?_ | (intro e; exfalso; omega) | (intro e; subst e) | intro _)
    rw [e1, e2]
    exact rt1 () rfl (en2 LruAt.shut)
  · have hE : Lr.remE L s ≠ 0 := by unfold Lr.remE; rw [if_neg hm]; split <;> decide
    have hl : L.erase s = L := List.erase_of_not_mem hm
    rw [show Lr.useL L s = L from if_neg hm]
    refine spec_of Tryz.func31 rfl Tryz.ntmps31 rfl [(0, _), (1, _)] rfl ?_; intro base F l0 hl0; (try simp only [List.cons_append] at hl0); (try simp only [List.nil_append] at hl0); subst hl0
    repeat' (first | refine stx ?_ | refine And.intro ?_ ?_ | (intro e; exfalso; omega) | (intro e; subst e) | intro _)
    rw [hl]
    exact rt1 () rfl⟩
instance lr_len : Known Tryz.prog 35 (∀ (p : Nat) (L : List Nat), SpecH Tryz.prog 35 #[.pointer (some ⟨p, 0, none⟩)] [LruAt p L] (fun _ : Unit => .int .i64 (L.length : Nat)) (fun _ => [LruAt p L])) := ⟨fun p L => by
  refine spec_of Tryz.func35 rfl Tryz.ntmps35 rfl [(0, _)] rfl ?_; intro base F l0 hl0; (try simp only [List.cons_append] at hl0); (try simp only [List.nil_append] at hl0); subst hl0
  refine LruAt.openC fun pl N w => ?_
  have e1 : (F1 N L).listOf 0 = L := f1_listOf
  repeat' (first | refine stx ?_ | refine And.intro ?_ ?_ | (intro e; exfalso; omega) | (intro e; subst e) | intro _)
  rw [e1]
  exact rt1 () rfl (en2 LruAt.shut)⟩
instance lr_all : Known Tryz.prog 26 (∀ (p : Nat) (L : List Nat), SpecH Tryz.prog 26 #[.pointer (some ⟨p, 0, none⟩)] [LruAt p L] (fun c : Nat => .func (.func 104) #[] #[.pointer (some ⟨c, 0, none⟩)]) (fun c => [LruAt p L, SeqC c L])) := ⟨fun p L => by
  refine spec_of Tryz.func26 rfl Tryz.ntmps26 rfl [(0, _)] rfl ?_; intro base F l0 hl0; (try simp only [List.cons_append] at hl0); (try simp only [List.nil_append] at hl0); subst hl0
  refine LruAt.openC fun pl N w => ?_
  have e1 : (F1 N L).listOf 0 = L := f1_listOf
  repeat' (first | refine stx ?_ | refine And.intro ?_ ?_ | (intro e; exfalso; omega) | (intro e; subst e) | intro _)
  rename_i c
  rw [e1]
  exact rt1 c rfl (en2 LruAt.shut)⟩
end Go.Proofs.YtdpiglociolagaaGreat

/- lru, walked: the ends of a list, other numbers. -/
namespace Go.Sl
section
variable {r : Option Nat} {P : Program} {base : World} {n : Nat} {ds : List Deferred} {Q : Exit → Act → World → Prop} {env : Env} {l rest : List HP} {all : Array Oper} {ro : List Oper}
theorem callv {α : Type} {x : Operand} {f : FuncId} {first captured : Array Value} {xs : List Operand} {ats : Array TypeId} {vs : List Value} {args : Array Value} {pre : List HP} {val : α → Value} {post : α → List HP} {dst : Option Tmp} {ty : TypeId} {pos : String} {af : Array Edge} {g : Option (Nat × Bool)} {d : Nat} {R : Prop} [CF P f] (hs : SpecH P f args pre val post) (h : R)
    (hx : ev env x = some (.func (.func f) first captured) := by rfl) (hw : Want all ⟨dst, .call ⟨.value x, xs.toArray, ats⟩, ty, pos, af, g⟩ env := by (first | exact want_none rfl | exact want_yes rfl rfl rfl rfl rfl | fail)) (hxs : Evs env xs vs := by (repeat (first | exact Evs.nil | (apply Evs.cons; exact rfl) | fail)); done) (hargs : args = first ++ vs.toArray ++ captured := by rfl) (hp : Pick l pre rest := by (repeat (first | (with_reducible exact Pick.nil _) | (apply Pick.cons; (focus ((repeat (first | (with_reducible exact Rem.here _ _) | (with_reducible apply Rem.there) | fail)); done))) | fail)); done) (hd : dst = some d := by rfl) (hn : d < n := by exact Nat.lt_of_ble_eq rfl)
    (hR : R → ∀ x, TL r P base n ds all ro Q ((d, val x) :: env) (post x ++ rest) := by intro h; (try refine prod_all ?_); (try dsimp only [List.cons_append, List.nil_append]); first | exact fun _ => h | exact h | fail) : TL r P base n ds all (⟨dst, .call ⟨.value x, xs.toArray, ats⟩, ty, pos, af, g⟩ :: ro) Q env l :=
  tl_n (opn_callv hw hx hxs hargs hs hp) hd hn (hR h)
end
end Go.Sl
namespace Go.Proofs.YtdpiglociolagaaGreat
open Go.Lk Go.Sl Go.Lr
attribute [local irreducible] TK TL TC Th Bk Nx fnPost WA TQ OpQ OpN SpecH Rd Ent IterH RoundH Rb Rp fnPostM
attribute [local irreducible] Fld.addE Fld.addF Fld.befE Fld.befF Fld.inE Fld.remF Fld.first Fld.last Fld.next Fld.prev Fld.ofR Fld.listOf Fld.joinE Fld.joinF renE renG Fld.at Fld.set Fld.place
theorem lr_endF : Known Tryz.prog 120 (∀ (p : Nat) (L : List Nat), SpecH Tryz.prog 120 #[.pointer (some ⟨p, 0, none⟩), .func (.func 121) #[] #[]] [LruAt p L] (fun _ : Unit => .tuple #[.int .u32 (L.headD 0 : Nat), .int .i64 (if L = [] then 9 else 0)]) (fun _ => [LruAt p L])) := ⟨fun p L => by
  refine spec_of Tryz.func120 rfl Tryz.ntmps120 rfl [(0, _), (1, _)] rfl ?_; intro base F l0 hl0; (try simp only [List.cons_append] at hl0); (try simp only [List.nil_append] at hl0); subst hl0
  refine LruAt.openC fun pl N w => ?_
  have h := fFirst.out pl (F1 N L) 0
  rw [f1_first] at h
  unfold resV at h
  repeat' (first | refine stx ?_ | refine And.intro ?_ ?_ | (intro e; exfalso; omega) | (intro e; subst e) | intro _)
  refine callv h ?_
  repeat' (first | refine stx ?_ | refine And.intro ?_ ?_ | (intro e; exfalso; omega) | (intro e; subst e) | intro _)
  exact rt2 () rfl (en2 LruAt.shut)⟩
instance lr_oldest : Known Tryz.prog 79 (∀ (p : Nat) (L : List Nat), SpecH Tryz.prog 79 #[.pointer (some ⟨p, 0, none⟩)] [LruAt p L] (fun _ : Unit => .tuple #[.int .u32 (L.headD 0 : Nat), .int .i64 (if L = [] then 9 else 0)]) (fun _ => [LruAt p L])) := ⟨fun p L => by
  haveI := lr_endF
  refine spec_of Tryz.func79 rfl Tryz.ntmps79 rfl [(0, _)] rfl ?_; intro base F l0 hl0; (try simp only [List.cons_append] at hl0); (try simp only [List.nil_append] at hl0); subst hl0
  repeat' (first | refine stx ?_ | refine And.intro ?_ ?_ | (intro e; exfalso; omega) | (intro e; subst e) | intro _)
  exact rt2 () rfl⟩
end Go.Proofs.YtdpiglociolagaaGreat
