/- The laws of lru, walked: collect, ends, the examples of the chapter, is. -/
import Derived.Test.YtbdiabakcgafgaaLrW3
import Derived.Test.YtbdiabakcgafgaaLrR2
import Derived.Test.YtbdiabakcgafgaaLrTheory2
namespace Go.Proofs.Ytbdiabakcgafgaa
open Go.Lk Go.Sl Go.Lr
attribute [local irreducible] TK TL TC Th Bk Nx fnPost WA TQ OpQ OpN SpecH Rd Ent IterH RoundH Rb Rp fnPostM
attribute [local irreducible] Fld.addE Fld.addF Fld.befE Fld.befF Fld.inE Fld.remF Fld.first Fld.last Fld.next Fld.prev Fld.ofR Fld.listOf Fld.joinE Fld.joinF renE renG Fld.at Fld.set Fld.place
set_option maxHeartbeats 4000000 in
instance lrl_collect : Known Try.prog 42 (∀ (p : Nat) (L : List Nat), L.length ≤ 5000 → SpecH Try.prog 42 #[.pointer (some ⟨p, 0, none⟩)] [LruAt p L] (fun q : Option Addr × Nat => .slice q.1 L.length q.2) (fun q => [LruAt p L, Vec 28 1 q.1 L.length q.2 (u32s L)])) := ⟨fun p L hl => by
  refine spec_of_m Try.func42 rfl Try.ntmps42 rfl [(0, _)] rfl ?_; intro base F l0 hl0; (try simp only [List.cons_append] at hl0); (try simp only [List.nil_append] at hl0); subst hl0
  repeat' (first | refine stx ?_ | refine And.intro ?_ ?_ | (intro e; exfalso; omega) | (intro e; subst e) | intro _)
  rename_i bo c
  have hx : (u32a L).length = L.length := by simp [u32a]
  refine tc_rangeFunc (xs := u32a L) (own := [SeqC c L]) (R := [LruAt p L, F]) (fun i => Exs (ι := Option Addr × Nat) fun q => [obj bo 33 [.slice q.1 i q.2], Vec 28 1 q.1 i q.2 (u32s (L.take i))]) (fun _ _ => fact False) (seq_iter c _) rfl (by decide) (by intro a ha; simp only [u32a, List.mem_map] at ha; obtain ⟨_, _, rfl⟩ := ha; rfl) ?_ ?_ ?_ ?_
  · refine Ent.trans ?_ (Ent.exs (none, 0) (Ent.refl _))
    show Ent _ [obj bo 33 [.slice none 0 0], Vec 28 1 none 0 0 [], SeqC c L, LruAt p L, F]
    exact en
  · intro lp rec i a hst hpe ha base F
    have hi : i < L.length := by rw [← hx]; exact (List.getElem?_eq_some_iff.1 ha).1
    obtain rfl : a = [.int .u32 (L.getD i 0 : Nat)] := by rw [u32a_get hi] at ha; exact (Option.some.inj ha).symm
    refine TC.exs (f := fun q : Option Addr × Nat => [obj bo 33 [.slice q.1 i q.2], Vec 28 1 q.1 i q.2 (u32s (L.take i))]) (by (repeat (first | (with_reducible exact Rem.here _ _) | (with_reducible apply Rem.there) | fail)); done) fun ⟨q1, q2⟩ => ?_
    simp only [List.cons_append, List.nil_append, putsE]
    repeat' (first | refine stx ?_ | refine And.intro ?_ ?_ | (intro e; exfalso; omega) | (intro e; subst e) | intro _)
    refine rb hst ?_
    repeat' (first | refine stx ?_ | refine And.intro ?_ ?_ | (intro e; exfalso; omega) | (intro e; subst e) | intro _)
    rename_i x1 x2 x3
    refine rp hst hpe ?_
    refine Ent.trans ?_ (b := Exs (ι := Option Addr × Nat) (fun q => [obj bo 33 [.slice q.1 (i + 1) q.2], Vec 28 1 q.1 (i + 1) q.2 (u32s (L.take (i + 1)))]) :: blk lp (.loop rec) :: [F]) en
    refine Ent.exs (x2, x3) ?_
    have e : u32s (L.take i) ++ [.int .u32 (L.getD i 0 : Nat)] = u32s (L.take (i + 1)) := by
      rw [Lr.take_snoc hi]; simp [u32s]
    rw [← e]
    exact en
  · intro rb
    rw [hx, List.take_length]
    simp only [List.cons_append, List.nil_append]
    refine TK.exs (f := fun q : Option Addr × Nat => [obj bo 33 [.slice q.1 L.length q.2], Vec 28 1 q.1 L.length q.2 (u32s L)]) (by (repeat (first | (with_reducible exact Rem.here _ _) | (with_reducible apply Rem.there) | fail)); done) fun ⟨q1, q2⟩ => ?_
    simp only [List.cons_append, List.nil_append]
    repeat' (first | refine stx ?_ | refine And.intro ?_ ?_ | (intro e; exfalso; omega) | (intro e; subst e) | intro _)
    exact rm1 (q1, q2) rfl
  · intro rb i c
    exact tc_factF⟩
/-- What the ends of a list answer. -/
def endsB (L : List Nat) (a b : Nat) (e : Int) : Bool := decide (L.headD 0 = a ∧ L.getLastD 0 = b ∧ (if L = [] then (9 : Int) else 0) = e)
instance lrl_ends : Known Try.prog 47 (∀ (p : Nat) (L : List Nat) (xa : Int) (a : Nat) [NatI xa a] (xb : Int) (b : Nat) [NatI xb b] (e : Int), SpecH Try.prog 47 #[.pointer (some ⟨p, 0, none⟩), .int .u32 xa, .int .u32 xb, .int .i64 e] [LruAt p L] (fun _ : Unit => .bool (endsB L a b e)) (fun _ => [LruAt p L])) := ⟨fun p L xa a _ xb b _ e => by
  obtain rfl : xa = (a : Int) := NatI.out
  obtain rfl : xb = (b : Int) := NatI.out
  obtain ⟨E, hE⟩ : ∃ E : Int, E = (if L = [] then (9 : Int) else 0) := ⟨_, rfl⟩
  haveI : Known Try.prog 75 (SpecH Try.prog 75 #[.pointer (some ⟨p, 0, none⟩)] [LruAt p L] (fun _ : Unit => .tuple #[.int .u32 (L.headD 0 : Nat), .int .i64 E]) (fun _ => [LruAt p L])) := ⟨by rw [hE]; exact lr_oldest.out p L⟩
  haveI : Known Try.prog 79 (SpecH Try.prog 79 #[.pointer (some ⟨p, 0, none⟩)] [LruAt p L] (fun _ : Unit => .tuple #[.int .u32 (L.getLastD 0 : Nat), .int .i64 E]) (fun _ => [LruAt p L])) := ⟨by rw [hE]; exact lr_newest.out p L⟩
  unfold endsB
  rw [← hE]
  refine spec_of Try.func47 rfl Try.ntmps47 rfl [(0, _), (1, _), (2, _), (3, _)] rfl ?_; intro base F l0 hl0; (try simp only [List.cons_append] at hl0); (try simp only [List.nil_append] at hl0); subst hl0
  by_cases h1 : L.headD 0 = a
  · by_cases h2 : L.getLastD 0 = b
    · by_cases h3 : E = e
      · rw [decide_eq_true ⟨h1, h2, h3⟩]
        repeat' (first | refine stx ?_ | refine And.intro ?_ ?_ | (intro e; exfalso; omega) | (intro e; subst e) | intro _)
        exact rt1 () rfl
      · rw [decide_eq_false (fun h => h3 h.2.2)]
        repeat' (first | refine stx ?_ | refine And.intro ?_ ?_ | (intro e; exfalso; omega) | (intro e; subst e) | intro _)
        exact rt1 () rfl
    · rw [decide_eq_false (fun h => h2 h.2.1)]
      repeat' (first | refine stx ?_ | refine And.intro ?_ ?_ | (intro e; exfalso; omega) | (intro e; subst e) | intro _)
      exact rt1 () rfl
  · rw [decide_eq_false (fun h => h1 h.1)]
    repeat' (first | refine stx ?_ | refine And.intro ?_ ?_ | (intro e; exfalso; omega) | (intro e; subst e) | intro _)
    exact rt1 () rfl⟩
/-- Ends that are right. -/
theorem lrl_endsT (p : Nat) (L : List Nat) (a b : Nat) (e : Int) (h : endsB L a b e = true) : Known Try.prog 47 (SpecH Try.prog 47 #[.pointer (some ⟨p, 0, none⟩), .int .u32 (a : Nat), .int .u32 (b : Nat), .int .i64 e] [LruAt p L] (fun _ : Unit => .bool true) (fun _ => [LruAt p L])) := ⟨by
  haveI : NatI (a : Nat) a := ⟨rfl⟩
  haveI : NatI (b : Nat) b := ⟨rfl⟩
  have := lrl_ends.out p L (a : Nat) a (b : Nat) b e
  rw [h] at this; exact this⟩
set_option maxHeartbeats 4000000 in
instance lrl_is : Known Try.prog 37 (∀ (p : Nat) (L : List Nat) (a : Option Addr) (m c : Nat) (xk : Int) (k : Nat) [NatI xk k], m = L.length → m ≤ 5000 → k < 4294967296 → SpecH Try.prog 37 #[.pointer (some ⟨p, 0, none⟩), .slice a m c, .int .u32 xk] [LruAt p L, RoS 1 a m c (u32s L)] (fun _ : Unit => .bool true) (fun _ => [LruAt p L])) := ⟨fun p L a m c xk k _ hm hl hk => by
  obtain rfl : xk = (k : Int) := NatI.out
  subst hm
  have hf := Lr.findI_ge (L := L) (s := k)
  haveI iS : Known Try.prog 41 (∀ (a a2 : Option Addr) (c c2 : Nat), SpecH Try.prog 41 #[.slice a L.length c, .slice a2 L.length c2] [RoS 1 a L.length c (u32s L), RoS 1 a2 L.length c2 (u32s L)] (fun _ : Unit => .bool true) (fun _ => [])) := ⟨fun a a2 c c2 => by
    have := lrr_same.out a a2 L.length L.length c c2 (u32s L) (u32s L) L L ⟨rfl⟩ ⟨rfl⟩ rfl rfl (by omega) (by omega)
    rw [decide_eq_true rfl] at this; exact this⟩
  haveI iH : Known Try.prog 44 (SpecH Try.prog 44 #[.pointer (some ⟨p, 0, none⟩), .int .u32 (k : Nat)] [LruAt p L] (fun _ : Unit => .bool (decide (0 ≤ Lr.findI L k))) (fun _ => [LruAt p L])) := ⟨by
    haveI : NatI (k : Nat) k := ⟨rfl⟩
    have := lr_has.out p L (k : Nat) k hk
    rw [show decide (k ∈ L) = decide (0 ≤ Lr.findI L k) from decide_eq_decide.2 hf.symm] at this; exact this⟩
  by_cases h0 : L = []
  · haveI := lrl_endsT p L 0 0 9 (by subst h0; rfl)
    have : L.length = 0 := by rw [h0]; rfl
    refine spec_of Try.func37 rfl Try.ntmps37 rfl [(0, _), (1, _), (2, _)] rfl ?_; intro base F l0 hl0; (try simp only [List.cons_append] at hl0); (try simp only [List.nil_append] at hl0); subst hl0
    repeat' (first | refine stx ?_ | refine And.intro ?_ ?_ | (intro e; exfalso; omega) | (intro e; subst e) | intro _)
    exact rt1 () rfl
  · have := List.length_pos_iff.2 h0
    refine spec_of Try.func37 rfl Try.ntmps37 rfl [(0, _), (1, _), (2, _)] rfl ?_; intro base F l0 hl0; (try simp only [List.cons_append] at hl0); (try simp only [List.nil_append] at hl0); subst hl0
    repeat' (first | ((fail_if_success (refine atD ?_)); refine stx ?_) | refine And.intro ?_ ?_ | (intro e; exfalso; omega) | (intro e; subst e) | intro _)
    have hb : endsB L (L.getD 0 0) (L.getD (L.length - 1) 0) 0 = true := by
      unfold endsB
      rw [decide_eq_true_iff, if_neg h0]
      refine ⟨?_, ?_, rfl⟩
      · cases L with
        | nil => exact absurd rfl h0
        | cons x l => rfl
      · rw [List.getLastD_eq_getLast?, List.getLast?_eq_getElem?, List.getD_eq_getElem?_getD]
    haveI := lrl_endsT p L _ _ 0 hb
    refine drx [LruAt p L] ?_
    refine tks [0, 1, 4, 5, 2, 6, 3, 7, 8, 9] 2 ?_; repeat' (first | refine stx ?_ | refine And.intro ?_ ?_ | (intro e; subst e) | intro _)
    refine hv 10 fun x10 => ?_
    refine tks [11] 0 ?_; repeat' (first | refine stx ?_ | refine And.intro ?_ ?_ | (intro e; exfalso; omega) | (intro e; subst e) | intro _)
    exact rt1 () rfl⟩
end Go.Proofs.Ytbdiabakcgafgaa
