/- lru, walked: the ends of a list, other numbers. -/
import Derived.Test.YtbdiabakcgafgaaLrW2
namespace Go.Sl
section
variable {r : Option Nat} {P : Program} {base : World} {n : Nat} {ds : List Deferred} {Q : Exit → Act → World → Prop} {env : Env} {l rest : List HP} {all : Array Oper} {ro : List Oper}
/-- A call of a function that is a value. -/
theorem callv {α : Type} {x : Operand} {f : FuncId} {first captured : Array Value} {xs : List Operand} {ats : Array TypeId} {vs : List Value} {args : Array Value} {pre : List HP} {val : α → Value} {post : α → List HP} {dst : Option Tmp} {ty : TypeId} {pos : String} {af : Array Edge} {g : Option (Nat × Bool)} {d : Nat} {R : Prop} [CF P f] (hs : SpecH P f args pre val post) (h : R)
    (hx : ev env x = some (.func (.func f) first captured) := by rfl) (hw : Want all ⟨dst, .call ⟨.value x, xs.toArray, ats⟩, ty, pos, af, g⟩ env := by (first | exact want_none rfl | exact want_yes rfl rfl rfl rfl rfl | fail)) (hxs : Evs env xs vs := by (repeat (first | exact Evs.nil | (apply Evs.cons; exact rfl) | fail)); done) (hargs : args = first ++ vs.toArray ++ captured := by rfl) (hp : Pick l pre rest := by (repeat (first | (with_reducible exact Pick.nil _) | (apply Pick.cons; (focus ((repeat (first | (with_reducible exact Rem.here _ _) | (with_reducible apply Rem.there) | fail)); done))) | fail)); done) (hd : dst = some d := by rfl) (hn : d < n := by exact Nat.lt_of_ble_eq rfl)
    (hR : R → ∀ x, TL r P base n ds all ro Q ((d, val x) :: env) (post x ++ rest) := by intro h; (try refine prod_all ?_); (try dsimp only [List.cons_append, List.nil_append]); first | exact fun _ => h | exact h | fail) : TL r P base n ds all (⟨dst, .call ⟨.value x, xs.toArray, ats⟩, ty, pos, af, g⟩ :: ro) Q env l :=
  tl_n (opn_callv hw hx hxs hargs hs hp) hd hn (hR h)
end
end Go.Sl
namespace Go.Proofs.Ytbdiabakcgafgaa
open Go.Lk Go.Sl Go.Lr
attribute [local irreducible] TK TL TC Th Bk Nx fnPost WA TQ OpQ OpN SpecH Rd Ent IterH RoundH Rb Rp fnPostM
attribute [local irreducible] Fld.addE Fld.addF Fld.befE Fld.befF Fld.inE Fld.remF Fld.first Fld.last Fld.next Fld.prev Fld.ofR Fld.listOf Fld.joinE Fld.joinF renE renG Fld.at Fld.set Fld.place
theorem lr_endF : Known Try.prog 95 (∀ (p : Nat) (L : List Nat), SpecH Try.prog 95 #[.pointer (some ⟨p, 0, none⟩), .func (.func 58) #[] #[]] [LruAt p L] (fun _ : Unit => .tuple #[.int .u32 (L.headD 0 : Nat), .int .i64 (if L = [] then 9 else 0)]) (fun _ => [LruAt p L])) := ⟨fun p L => by
  refine spec_of Try.func95 rfl Try.ntmps95 rfl [(0, _), (1, _)] rfl ?_; intro base F l0 hl0; (try simp only [List.cons_append] at hl0); (try simp only [List.nil_append] at hl0); subst hl0
  refine LruAt.openC fun pl N w => ?_
  have h := fFirst.out pl (F1 N L) 0
  rw [f1_first] at h
  unfold resV at h
  repeat' (first | refine stx ?_ | refine And.intro ?_ ?_ | (intro e; exfalso; omega) | (intro e; subst e) | intro _)
  refine callv h ?_
  repeat' (first | refine stx ?_ | refine And.intro ?_ ?_ | (intro e; exfalso; omega) | (intro e; subst e) | intro _)
  exact rt2 () rfl (en2 LruAt.shut)⟩
theorem lr_endL : Known Try.prog 95 (∀ (p : Nat) (L : List Nat), SpecH Try.prog 95 #[.pointer (some ⟨p, 0, none⟩), .func (.func 61) #[] #[]] [LruAt p L] (fun _ : Unit => .tuple #[.int .u32 (L.getLastD 0 : Nat), .int .i64 (if L = [] then 9 else 0)]) (fun _ => [LruAt p L])) := ⟨fun p L => by
  refine spec_of Try.func95 rfl Try.ntmps95 rfl [(0, _), (1, _)] rfl ?_; intro base F l0 hl0; (try simp only [List.cons_append] at hl0); (try simp only [List.nil_append] at hl0); subst hl0
  refine LruAt.openC fun pl N w => ?_
  have h := fLast.out pl (F1 N L) 0
  rw [f1_last] at h
  unfold resV at h
  repeat' (first | refine stx ?_ | refine And.intro ?_ ?_ | (intro e; exfalso; omega) | (intro e; subst e) | intro _)
  refine callv h ?_
  repeat' (first | refine stx ?_ | refine And.intro ?_ ?_ | (intro e; exfalso; omega) | (intro e; subst e) | intro _)
  exact rt2 () rfl (en2 LruAt.shut)⟩
instance lr_oldest : Known Try.prog 75 (∀ (p : Nat) (L : List Nat), SpecH Try.prog 75 #[.pointer (some ⟨p, 0, none⟩)] [LruAt p L] (fun _ : Unit => .tuple #[.int .u32 (L.headD 0 : Nat), .int .i64 (if L = [] then 9 else 0)]) (fun _ => [LruAt p L])) := ⟨fun p L => by
  haveI := lr_endF
  refine spec_of Try.func75 rfl Try.ntmps75 rfl [(0, _)] rfl ?_; intro base F l0 hl0; (try simp only [List.cons_append] at hl0); (try simp only [List.nil_append] at hl0); subst hl0
  repeat' (first | refine stx ?_ | refine And.intro ?_ ?_ | (intro e; exfalso; omega) | (intro e; subst e) | intro _)
  exact rt2 () rfl⟩
instance lr_newest : Known Try.prog 79 (∀ (p : Nat) (L : List Nat), SpecH Try.prog 79 #[.pointer (some ⟨p, 0, none⟩)] [LruAt p L] (fun _ : Unit => .tuple #[.int .u32 (L.getLastD 0 : Nat), .int .i64 (if L = [] then 9 else 0)]) (fun _ => [LruAt p L])) := ⟨fun p L => by
  haveI := lr_endL
  refine spec_of Try.func79 rfl Try.ntmps79 rfl [(0, _)] rfl ?_; intro base F l0 hl0; (try simp only [List.cons_append] at hl0); (try simp only [List.nil_append] at hl0); subst hl0
  repeat' (first | refine stx ?_ | refine And.intro ?_ ?_ | (intro e; exfalso; omega) | (intro e; subst e) | intro _)
  exact rt2 () rfl⟩
set_option maxHeartbeats 4000000 in
instance lr_renumber : Known Try.prog 49 (∀ (p : Nat) (L : List Nat) (a : Option Addr) (m cap : Nat) (cs : List Value) (to : List Nat), AsU cs to → m = to.length → (∀ n ∈ to, n < 4294967296) → m ≤ 4194304 → SpecH Try.prog 49 #[.pointer (some ⟨p, 0, none⟩), .slice a m cap] [LruAt p L, Vec 28 1 a m cap cs] (fun _ : Unit => .int .i64 (Lr.renE' L to)) (fun _ => [LruAt p (Lr.renL L to), Vec 28 1 a m cap cs])) := ⟨fun p L a m cap cs to hcs hm hlt hml => by
  subst hm
  rw [hcs.out]
  haveI := lr_checkL
  refine spec_of_m Try.func49 rfl Try.ntmps49 rfl [(0, _), (1, _)] rfl ?_; intro base F l0 hl0; (try simp only [List.cons_append] at hl0); (try simp only [List.nil_append] at hl0); subst hl0
  refine LruAt.factsC fun h1 h2 h3 => ?_
  repeat' (first | refine stx ?_ | refine And.intro ?_ ?_ | (intro e; exfalso; omega) | (intro e; subst e) | intro _)
  rename_i b3 b4 po b6 c
  have hx : (u32a L).length = L.length := by simp [u32a]
  refine tc_rangeFunc (xs := u32a L) (own := [SeqC c L]) (R := [LruAt p L, F])
    (fun i => Exs (ι := {_u : Unit // Lr.renOk (L.take i) to}) fun _ => [obj b4 24 [.int .i64 0], obj b3 33 [.slice a to.length cap], obj b6 64 [.pointer (some ⟨po, 0, none⟩)], LruAt po ((L.take i).map (Lr.gto to)), Vec 28 1 a to.length cap (u32s to)])
    (fun i c => Exs (ι := {_u : Unit // c = .ret ∧ ¬ Lr.renOk L to}) fun _ => [obj b4 24 [.int .i64 2], Vec 28 1 a to.length cap (u32s to)])
    (seq_iter c _) rfl (by decide) (by intro a ha; simp only [u32a, List.mem_map] at ha; obtain ⟨_, _, rfl⟩ := ha; rfl) ?_ ?_ ?_ ?_
  · refine Ent.trans ?_ (Ent.exs ⟨(), Lr.renOk_nil⟩ (Ent.refl _))
    simp only [List.cons_append, List.nil_append, List.take_zero, List.map_nil]
    exact en
  · intro lp rec i x hst hpe ha base F
    have hi : i < L.length := by rw [← hx]; exact (List.getElem?_eq_some_iff.1 ha).1
    obtain rfl : x = [.int .u32 (L.getD i 0 : Nat)] := by rw [u32a_get hi] at ha; exact (Option.some.inj ha).symm
    have hLi : L.getD i 0 < 4194304 := by rw [List.getD_eq_getElem?_getD, List.getElem?_eq_getElem hi]; exact h2 _ (List.getElem_mem _)
    refine TC.exs (f := fun _ : {_u : Unit // Lr.renOk (L.take i) to} => [obj b4 24 [.int .i64 0], obj b3 33 [.slice a to.length cap], obj b6 64 [.pointer (some ⟨po, 0, none⟩)], LruAt po ((L.take i).map (Lr.gto to)), Vec 28 1 a to.length cap (u32s to)]) (by (repeat (first | (with_reducible exact Rem.here _ _) | (with_reducible apply Rem.there) | fail)); done) fun ⟨_, hok⟩ => ?_
    simp only [List.cons_append, List.nil_append, putsE]
    have ht := Lr.renOk_take (to := to) hi
    have hmt := Lr.map_take (to := to) hi
    have hbad : ¬ Lr.renOk (L.take (i + 1)) to → ¬ Lr.renOk L to := fun h k => h (k.sub (List.take_sublist _ _))
    by_cases hs : L.getD i 0 < to.length
    · have hto2 : to.getD (L.getD i 0) 0 < 4294967296 := by
        rw [List.getD_eq_getElem?_getD, List.getElem?_eq_getElem hs]; exact hlt _ (List.getElem_mem _)
      by_cases he : Lr.addE ((L.take i).map (Lr.gto to)) (to.getD (L.getD i 0) 0) = 0
      · have h7 := Lr.addL_ok he
        repeat' (first | ((fail_if_success (refine atD ?_)); refine stx ?_) | refine And.intro ?_ ?_ | (intro e; exfalso; omega) | (intro e; subst e) | intro _)
        refine rb hst ?_
        repeat' (first | ((fail_if_success (refine atD ?_)); refine stx ?_) | refine And.intro ?_ ?_ | (intro e; exfalso; omega) | (intro e; subst e) | intro _)
        refine drx [LruAt po ((L.take i).map (Lr.gto to))] ?_
        refine tks [0, 2, 1, 3, 4, 5, 6, 7, 8, 9, 10] 3 ?_; repeat' (first | refine stx ?_ | refine And.intro ?_ ?_ | (intro e; exfalso; omega) | (intro e; subst e) | intro _)
        refine hv 11 fun x11 => ?_
        refine tks [12, 13] 0 ?_; repeat' (first | refine stx ?_ | refine And.intro ?_ ?_ | (intro e; exfalso; omega) | (intro e; subst e) | intro _)
        rw [h7.trans hmt.symm]
        refine rp hst hpe ?_
        refine Ent.trans ?_ (b := Exs (ι := {_u : Unit // Lr.renOk (L.take (i + 1)) to}) (fun _ => [obj b4 24 [.int .i64 0], obj b3 33 [.slice a to.length cap], obj b6 64 [.pointer (some ⟨po, 0, none⟩)], LruAt po ((L.take (i + 1)).map (Lr.gto to)), Vec 28 1 a to.length cap (u32s to)]) :: blk lp (.loop rec) :: [F]) en
        exact Ent.exs ⟨(), ht.2 ⟨hok, hs, he⟩⟩ en
      · have hno := hbad (fun h => he (ht.1 h).2.2)
        repeat' (first | ((fail_if_success (refine atD ?_)); refine stx ?_) | refine And.intro ?_ ?_ | (intro e; exfalso; omega) | (intro e; subst e) | intro _)
        refine rb hst ?_
        repeat' (first | ((fail_if_success (refine atD ?_)); refine stx ?_) | refine And.intro ?_ ?_ | (intro e; exfalso; omega) | (intro e; subst e) | intro _)
        refine drx [LruAt po ((L.take i).map (Lr.gto to))] ?_
        refine tks [0, 2, 1, 3, 4, 5, 6, 7, 8, 9, 10] 3 ?_; repeat' (first | refine stx ?_ | refine And.intro ?_ ?_ | (intro e; exfalso; omega) | (intro e; subst e) | intro _)
        refine hv 11 fun x11 => ?_
        refine tks [12, 13] 0 ?_; repeat' (first | refine stx ?_ | refine And.intro ?_ ?_ | (intro e; exfalso; omega) | (intro e; subst e) | intro _)
        refine rr ?_
        refine Ent.cons (by (repeat (first | (with_reducible exact Rem.here _ _) | (with_reducible apply Rem.there) | fail)); done) ?_
        exact Ent.exs ⟨(), rfl, hno⟩ en
    · have hno := hbad (fun h => hs (ht.1 h).2.1)
      repeat' (first | ((fail_if_success (refine atD ?_)); refine stx ?_) | refine And.intro ?_ ?_ | (intro e; exfalso; omega) | (intro e; subst e) | intro _)
      refine rb hst ?_
      repeat' (first | ((fail_if_success (refine atD ?_)); refine stx ?_) | refine And.intro ?_ ?_ | (intro e; exfalso; omega) | (intro e; subst e) | intro _)
      refine drx [LruAt po ((L.take i).map (Lr.gto to))] ?_
      refine tks [0, 2, 1, 3, 4, 5, 6, 7, 8, 9, 10] 3 ?_; repeat' (first | refine stx ?_ | refine And.intro ?_ ?_ | (intro e; exfalso; omega) | (intro e; subst e) | intro _)
      refine hvs 11 ?_
      refine tks [12, 13] 0 ?_; repeat' (first | refine stx ?_ | refine And.intro ?_ ?_ | (intro e; exfalso; omega) | (intro e; subst e) | intro _)
      refine rr ?_
      refine Ent.cons (by (repeat (first | (with_reducible exact Rem.here _ _) | (with_reducible apply Rem.there) | fail)); done) ?_
      exact Ent.exs ⟨(), rfl, hno⟩ en
  · intro rb
    rw [hx, List.take_length]
    simp only [List.cons_append, List.nil_append]
    refine TK.exs (f := fun _ : {_u : Unit // Lr.renOk L to} => [obj b4 24 [.int .i64 0], obj b3 33 [.slice a to.length cap], obj b6 64 [.pointer (some ⟨po, 0, none⟩)], LruAt po (L.map (Lr.gto to)), Vec 28 1 a to.length cap (u32s to)]) (by (repeat (first | (with_reducible exact Rem.here _ _) | (with_reducible apply Rem.there) | fail)); done) fun ⟨_, hok⟩ => ?_
    simp only [List.cons_append, List.nil_append]
    have b1 : Lr.renE' L to = 0 := by unfold Lr.renE'; exact if_pos hok
    have b2 : Lr.renL L to = L.map (Lr.gto to) := by unfold Lr.renL; exact if_pos hok
    rw [b1, b2]
    refine LruAt.openK (p := p) (L := L) (fun pl N w => ?_) (by (repeat (first | (with_reducible exact Rem.here _ _) | (with_reducible apply Rem.there) | fail)); done)
    refine LruAt.openK (p := po) (L := L.map (Lr.gto to)) (fun pl2 N2 w2 => ?_) (by (repeat (first | (with_reducible exact Rem.here _ _) | (with_reducible apply Rem.there) | fail)); done)
    repeat' (first | refine stx ?_ | refine And.intro ?_ ?_ | (intro e; exfalso; omega) | (intro e; subst e) | intro _)
    refine rmv1 () rfl (he := ?_)
    exact en2 LruAt.shut
  · intro rb i c
    simp only [List.cons_append, List.nil_append]
    refine TC.exs (f := fun _ : {_u : Unit // c = .ret ∧ ¬ Lr.renOk L to} => [obj b4 24 [.int .i64 2], Vec 28 1 a to.length cap (u32s to)]) (by (repeat (first | (with_reducible exact Rem.here _ _) | (with_reducible apply Rem.there) | fail)); done) fun ⟨_, hc, hno⟩ => ?_
    subst hc
    simp only [List.cons_append, List.nil_append]
    have b1 : Lr.renE' L to = 2 := by unfold Lr.renE'; exact if_neg hno
    have b2 : Lr.renL L to = L := by unfold Lr.renL; exact if_neg hno
    rw [b1, b2]
    repeat' (first | refine stx ?_ | refine And.intro ?_ ?_ | (intro e; exfalso; omega) | (intro e; subst e) | intro _)
    exact rmv1 () rfl⟩
end Go.Proofs.Ytbdiabakcgafgaa
