/- ghost, walked: another bound. -/
import Derived.Test.YtbdiabakcgafgaaGhW4
import Derived.Test.YtbdiabakcgafgaaGhBack
import Derived.Test.YtbdiabakcgafgaaSlEnd2
namespace Go.Gh
/-- One more key on a list that has been cut. -/
theorem add_cut {m k : Nat} {D : List Nat} (h : k ∉ D) : addL m (D.take m) k = (k :: D).take m ∧ (m ≤ D.length → addB m (D.take m) k = true ∧ ((k :: D).drop m).reverse = (D.drop m).reverse ++ [addV m (D.take m) k]) ∧ (D.length < m → addB m (D.take m) k = false ∧ (k :: D).drop m = [] ∧ D.drop m = []) := by
  have h' : k ∉ D.take m := fun x => h (List.mem_of_mem_take x)
  have hl := List.length_take (i := m) (l := D)
  unfold addL addB addV
  rw [if_neg h', if_neg h']
  refine ⟨?_, fun hm => ⟨?_, ?_⟩, fun hm => ⟨?_, ?_, ?_⟩⟩
  · by_cases hm : m ≤ D.length
    · rw [if_neg (by omega), List.dropLast_eq_take]
      rw [show (k :: D.take m).length - 1 = m by simp; omega, ← List.take_succ_cons (a := k), List.take_take, Nat.min_eq_left (by omega)]
    · rw [if_pos (by omega), List.take_of_length_le (by omega), List.take_of_length_le (by simp; omega)]
  · exact decide_eq_true ⟨h', by omega⟩
  · rw [if_neg (by omega), List.drop_eq_getElem_cons (by simp; omega), List.reverse_cons, List.drop_succ_cons]
    congr 2
    rw [List.getLastD_eq_getLast?, List.getLast?_eq_getElem?]
    rw [show (k :: D.take m).length - 1 = m by simp; omega, ← List.take_succ_cons (a := k), List.getElem?_take, if_pos (by omega), List.getElem?_eq_getElem (by simp; omega)]; rfl
  · exact decide_eq_false (by omega)
  · exact List.drop_eq_nil_of_le (by simp; omega)
  · exact List.drop_eq_nil_of_le (by omega)
theorem addL_len {m k : Nat} {L : List Nat} (h : L.length ≤ m) : (addL m L k).length ≤ m := by
  unfold addL
  split
  · rename_i hk
    have := List.length_pos_of_mem hk
    rw [List.length_cons, List.length_erase_of_mem hk]; omega
  · split
    · simpa using by assumption
    · simp; omega
end Go.Gh
namespace Go.Proofs.Ytbdiabakcgafgaa
open Go.Lk Go.Sl Go.Gh
section
variable {base : World} {n : Nat} {ds : List Deferred} {env : Env} {l r : List HP} {KK : Act → World → Prop} {p most : Nat} {L : List Nat}
/-- What a ghost list says of itself. -/
theorem GhostAt.facts (h : L.Nodup → (∀ k ∈ L, k < 4294967296) → L.length ≤ most + 1 → most + 1 ≤ 4194304 → TK base n ds KK env l) (hr : Rem l (GhostAt p most L) r := by (repeat (first | (with_reducible exact Rem.here _ _) | (with_reducible apply Rem.there) | fail)); done) : TK base n ds KK env l := by
  refine TK.know (p := L.Nodup ∧ (∀ k ∈ L, k < 4294967296) ∧ L.length ≤ most + 1 ∧ most + 1 ≤ 4194304) (fun _ y => ?_) fun ⟨a, b, c, d⟩ => h a b c d
  unfold GhostAt at hr
  obtain ⟨q, y⟩ := exs_out hr y
  unfold parts at y
  have g := (lst_fact y).1
  have h1 := g.llen; have h2 := g.tot; have h3 := g.wf.bound; have h4 := g.N
  exact ⟨g.nd, g.llt, by omega, by omega⟩
theorem GhostAt.factsC {r0 : Option Nat} {P : Program} {c : Code} {Q : Exit → Act → World → Prop} (h : L.Nodup → (∀ k ∈ L, k < 4294967296) → L.length ≤ most + 1 → most + 1 ≤ 4194304 → TC r0 P base n ds c Q env l) (hr : Rem l (GhostAt p most L) r := by (repeat (first | (with_reducible exact Rem.here _ _) | (with_reducible apply Rem.there) | fail)); done) : TC r0 P base n ds c Q env l := GhostAt.facts h hr
end
attribute [local irreducible] TK TL TC Th Bk Nx fnPost WA TQ OpQ OpN SpecH Rd Ent IterH RoundH Rb Rp fnPostM
attribute [local irreducible] Fld.addE Fld.addF Fld.befE Fld.befF Fld.inE Fld.remF Fld.first Fld.last Fld.next Fld.prev Fld.ofR Fld.listOf Fld.joinE Fld.joinF renE renG Fld.at Fld.set Fld.place
instance g_zeroG : Known Try.prog 54 (∀ (p most : Nat) (L : List Nat), SpecH Try.prog 54 #[.pointer (some ⟨p, 0, none⟩)] [GhostAt p most L] (fun _ : Unit => .bool false) (fun _ => [GhostAt p most L])) := ⟨fun p most L => by
  refine spec_of Try.func54 rfl Try.ntmps54 rfl [(0, _)] rfl ?_; intro base F l0 hl0; (try simp only [List.cons_append] at hl0); (try simp only [List.nil_append] at hl0); subst hl0
  refine GhostAt.openC fun f K kv pl aK cK bm g => ?_
  repeat' (first | refine stm ?_ | refine And.intro ?_ ?_ | (intro e; exfalso; omega) | (intro e; subst e) | intro _)
  exact rt1 () rfl (en2 (GhostAt.shut g))⟩
theorem g_resize_bad (p most : Nat) (L : List Nat) (m : Int) (h : m < 0 ∨ 4096 < m) : SpecH Try.prog 27 #[.pointer (some ⟨p, 0, none⟩), .int .i64 m] [GhostAt p most L] (fun _ : Unit => .tuple #[.slice none 0 0, .int .i64 2]) (fun _ => [GhostAt p most L]) := by
  refine spec_of_m Try.func27 rfl Try.ntmps27 rfl [(0, _), (1, _)] rfl ?_; intro base F l0 hl0; (try simp only [List.cons_append] at hl0); (try simp only [List.nil_append] at hl0); subst hl0
  repeat' (first | ((fail_if_success (refine atCall 14 ?_)); refine stm ?_) | refine And.intro ?_ ?_ | (intro e; exfalso; omega) | (intro e; subst e) | intro _)
  refine call (g_new_bad m h) ?_
  repeat' (first | refine stm ?_ | refine And.intro ?_ ?_ | (intro e; exfalso; omega) | (intro e; subst e) | intro _)
  exact rm2 () rfl
set_option maxHeartbeats 4000000 in
instance g_resize : Known Try.prog 27 (∀ (p most : Nat) (L : List Nat) (xm : Int) (m : Nat) [NatI xm m], m ≤ 4096 → SpecH Try.prog 27 #[.pointer (some ⟨p, 0, none⟩), .int .i64 xm] [GhostAt p most L] (fun q : Option Addr × Nat => .tuple #[.slice q.1 (L.length - m) q.2, .int .i64 0]) (fun q => [GhostAt p m (L.take m), Vec 28 1 q.1 (L.length - m) q.2 (u32s (L.drop m).reverse)])) := ⟨fun p most L xm m _ hm => by
  obtain rfl : xm = (m : Int) := NatI.out
  refine spec_of_m Try.func27 rfl Try.ntmps27 rfl [(0, _), (1, _)] rfl ?_; intro base F l0 hl0; (try simp only [List.cons_append] at hl0); (try simp only [List.nil_append] at hl0); subst hl0
  refine GhostAt.factsC fun hnd hlt hll hmm => ?_
  repeat' (first | refine stm ?_ | refine And.intro ?_ ?_ | (intro e; exfalso; omega) | (intro e; subst e) | intro _)
  rename_i pn bn bo a1 c1 c
  have hx : (backA L).length = L.length := backA_len
  refine tc_rangeFunc (xs := backA L) (own := [SeqC c L]) (R := [GhostAt p most L, F]) (fun i => Exs (ι := Option Addr × Nat) fun q => [obj bn 23 [.pointer (some ⟨pn, 0, none⟩)], GhostAt pn m ((L.drop (L.length - i)).take m), obj bo 33 [.slice q.1 (i - m) q.2], Vec 28 1 q.1 (i - m) q.2 (u32s ((L.drop (L.length - i)).drop m).reverse)]) (fun _ _ => fact False) (back_iter c _) rfl (by decide) (by intro a ha; simp only [backA, List.mem_map] at ha; obtain ⟨_, _, rfl⟩ := ha; rfl) ?_ ?_ ?_ ?_
  · refine Ent.trans ?_ (Ent.exs (none, 0) (Ent.refl _))
    simp only [Nat.sub_zero, List.drop_length, List.take_nil, List.drop_nil, Nat.zero_sub, List.reverse_nil]
    exact en
  · intro lp rec i a hst hpe ha base F
    have hi : i < L.length := by rw [← hx]; exact (List.getElem?_eq_some_iff.1 ha).1
    obtain rfl := Option.some.inj ((backA_get hi).symm.trans ha)
    have hk : L.getD (L.length - 1 - i) 0 < 4294967296 := hlt _ (by rw [List.getD_eq_getElem?_getD, List.getElem?_eq_getElem (by omega)]; exact List.getElem_mem _)
    refine TC.exs (f := fun q : Option Addr × Nat => [obj bn 23 [.pointer (some ⟨pn, 0, none⟩)], GhostAt pn m ((L.drop (L.length - i)).take m), obj bo 33 [.slice q.1 (i - m) q.2], Vec 28 1 q.1 (i - m) q.2 (u32s ((L.drop (L.length - i)).drop m).reverse)]) (by (repeat (first | (with_reducible exact Rem.here _ _) | (with_reducible apply Rem.there) | fail)); done) fun ⟨q1, q2⟩ => ?_
    simp only [List.cons_append, List.nil_append, putsE]
    have hdl : (L.drop (L.length - i)).length = i := by rw [List.length_drop]; omega
    have htl : ((L.drop (L.length - i)).take m).length ≤ m := by rw [List.length_take]; omega
    have hdr : L.drop (L.length - (i + 1)) = L.getD (L.length - 1 - i) 0 :: (L.drop (L.length - i)) := by
      rw [show L.length - 1 - i = L.length - (i + 1) by omega, List.drop_eq_getElem_cons (by omega), List.getD_eq_getElem?_getD, List.getElem?_eq_getElem (by omega), show L.length - (i + 1) + 1 = L.length - i by omega]; rfl
    have hnk : L.getD (L.length - 1 - i) 0 ∉ (L.drop (L.length - i)) := by
      have := hnd.sublist (List.drop_sublist (L.length - (i + 1)) L)
      rw [hdr, List.nodup_cons] at this
      exact this.1
    obtain ⟨e1, e2, e3⟩ := add_cut (m := m) hnk
    rw [← hdr] at e1 e2 e3
    rw [hdl] at e2 e3
    by_cases hmi : m ≤ i
    · obtain ⟨e4, e5⟩ := e2 hmi
      have hadd := g_add.out pn m ((L.drop (L.length - i)).take m) (L.getD (L.length - 1 - i) 0 : Nat) (L.getD (L.length - 1 - i) 0) hk htl
      rw [e4, e1] at hadd
      repeat' (first | ((fail_if_success (refine atCall 21 ?_)); refine stm ?_) | refine And.intro ?_ ?_ | (intro e; exfalso; omega) | (intro e; subst e) | intro _)
      refine rb hst ?_
      repeat' (first | ((fail_if_success (refine atCall 21 ?_)); refine stm ?_) | refine And.intro ?_ ?_ | (intro e; exfalso; omega) | (intro e; subst e) | intro _)
      refine call hadd ?_
      repeat' (first | refine stm ?_ | refine And.intro ?_ ?_ | (intro e; exfalso; omega) | (intro e; subst e) | intro _)
      rename_i b2 a2 c2
      refine rp hst hpe ?_
      refine Ent.trans ?_ (b := Exs (ι := Option Addr × Nat) (fun q => [obj bn 23 [.pointer (some ⟨pn, 0, none⟩)], GhostAt pn m ((L.drop (L.length - (i + 1))).take m), obj bo 33 [.slice q.1 (i + 1 - m) q.2], Vec 28 1 q.1 (i + 1 - m) q.2 (u32s ((L.drop (L.length - (i + 1))).drop m).reverse)]) :: blk lp (.loop rec) :: [F]) en
      refine Ent.exs (a2, c2) ?_
      rw [e5, show i + 1 - m = i - m + 1 by omega, show ∀ (A : List Nat) (x : Nat), u32s (A ++ [x]) = u32s A ++ [.int .u32 (x : Nat)] from fun A x => by simp [u32s]]
      exact en
    · obtain ⟨e4, e5, e6⟩ := e3 (by omega)
      have hadd := g_add.out pn m ((L.drop (L.length - i)).take m) (L.getD (L.length - 1 - i) 0 : Nat) (L.getD (L.length - 1 - i) 0) hk htl
      rw [e4, e1] at hadd
      repeat' (first | ((fail_if_success (refine atCall 21 ?_)); refine stm ?_) | refine And.intro ?_ ?_ | (intro e; exfalso; omega) | (intro e; subst e) | intro _)
      refine rb hst ?_
      repeat' (first | ((fail_if_success (refine atCall 21 ?_)); refine stm ?_) | refine And.intro ?_ ?_ | (intro e; exfalso; omega) | (intro e; subst e) | intro _)
      refine call hadd ?_
      repeat' (first | refine stm ?_ | refine And.intro ?_ ?_ | (intro e; exfalso; omega) | (intro e; subst e) | intro _)
      refine rp hst hpe ?_
      refine Ent.trans ?_ (b := Exs (ι := Option Addr × Nat) (fun q => [obj bn 23 [.pointer (some ⟨pn, 0, none⟩)], GhostAt pn m ((L.drop (L.length - (i + 1))).take m), obj bo 33 [.slice q.1 (i + 1 - m) q.2], Vec 28 1 q.1 (i + 1 - m) q.2 (u32s ((L.drop (L.length - (i + 1))).drop m).reverse)]) :: blk lp (.loop rec) :: [F]) en
      refine Ent.exs (q1, q2) ?_
      rw [e5, e6, show i + 1 - m = 0 by omega, show i - m = 0 by omega]
      exact en
  · intro rb
    rw [hx]
    simp only [List.cons_append, List.nil_append]
    refine TK.exs (f := fun q : Option Addr × Nat => [obj bn 23 [.pointer (some ⟨pn, 0, none⟩)], GhostAt pn m ((L.drop (L.length - L.length)).take m), obj bo 33 [.slice q.1 (L.length - m) q.2], Vec 28 1 q.1 (L.length - m) q.2 (u32s ((L.drop (L.length - L.length)).drop m).reverse)]) (by (repeat (first | (with_reducible exact Rem.here _ _) | (with_reducible apply Rem.there) | fail)); done) fun ⟨q1, q2⟩ => ?_
    simp only [List.cons_append, List.nil_append]
    rw [Nat.sub_self, List.drop_zero]
    refine GhostAt.openK (p := p) fun f K kv pl aK cK bm g => ?_
    refine GhostAt.openK (p := pn) fun f2 K2 kv2 pl2 aK2 cK2 bm2 g2 => ?_
    repeat' (first | refine stm ?_ | refine And.intro ?_ ?_ | (intro e; exfalso; omega) | (intro e; subst e) | intro _)
    exact rm2 (q1, q2) rfl (he := en2 (GhostAt.shut (pl := pl2) (aK := some ⟨aK2, 0, none⟩) (cK := cK2) (bm := bm2) g2))
  · intro rb i c
    exact tc_factF⟩
end Go.Proofs.Ytbdiabakcgafgaa
