/- segment, walked: other numbers. -/
import Derived.Test.YtbkpojlbclehaaaSgW7
import Derived.Test.YtbkpojlbclehaaaSgRen
namespace Go.Sg
/-- What stands in the new order behind the segments. -/
def oP (P : List It) (to : List Nat) : Nat → List It
  | 0 => []
  | _ + 1 => renX P to
def oT (T : List It) (to : List Nat) : Nat → List It
  | 0 => []
  | 1 => []
  | _ + 2 => renX T to
def oOk (P T : List It) (to : List Nat) : Nat → Prop
  | 0 => True
  | 1 => Lr.renOk (sl P) to
  | _ + 2 => Lr.renOk (sl P ++ sl T) to
end Go.Sg
namespace Go.Proofs.Ytbkpojlbclehaaa
open Go.Lk Go.Sl Go.Lr Go.Sg
attribute [local irreducible] TK TL TC Th Bk Nx fnPost WA TQ OpQ OpN SpecH Rd Ent IterH RoundH Rb Rp fnPostM
attribute [local irreducible] Fld.addE Fld.addF Fld.befE Fld.befF Fld.inE Fld.remF Fld.first Fld.last Fld.next Fld.prev Fld.ofR Fld.listOf Fld.joinE Fld.joinF renE renG Fld.at Fld.set Fld.place
attribute [local irreducible] Lr.addL Lr.addE Lr.useL Lr.remE Sg.sm Sg.sl Sg.rm Sg.demN Sg.renX
set_option maxHeartbeats 8000000 in
instance sg_renumber : Known Try.prog 35 (∀ (p : Nat) (P T : List It) (L : Int) (a : Option Addr) (m cap : Nat) (to : List Nat) (P' T' : List It) (e : Int), RenTo P T to P' T' e → m = to.length → m ≤ 4194304 → (∀ x ∈ to, x < 4294967296) → SpecH Try.prog 35 #[.pointer (some ⟨p, 0, none⟩), .slice a m cap] [SegAt p P T L, RoS 1 a m cap (u32s to)] (fun _ : Unit => .int .i64 e) (fun _ => [SegAt p P' T' L])) := ⟨fun p P T L a m cap to P' T' e u hm hml hto => by
  subst hm
  have hc : Chk 0 0 0 := ⟨rfl⟩
  refine spec_of_m Try.func35 rfl Try.ntmps35 rfl [(0, _), (1, _)] rfl ?_; intro base F l0 hl0; (try simp only [List.cons_append] at hl0); (try simp only [List.nil_append] at hl0); subst hl0
  refine SegAt.openC fun st => ?_
  refine SegX.factsC fun iv hP hT => ?_
  have hlim := iv.lim
  dsimp only at hlim
  obtain ⟨hl1, hl2⟩ := hlim
  repeat' (first | ((fail_if_success (refine atLoad 3 ?_)); refine stw ?_) | refine And.intro ?_ ?_ | (intro e; exfalso; omega) | (intro e; subst e) | intro _)
  refine SegX.openL fun l0 l1 m kv iv cm => ?_
  repeat' (first | refine stw ?_ | refine And.intro ?_ ?_ | (intro e; exfalso; omega) | (intro e; subst e) | intro _)
  rename_i b2 b3 b4 po b6
  refine SegAt.openC fun _ => ?_
  refine TC.marks0 ?_
  refine tc_lpD (ι := {x : Nat × List Nat // x.1 ≤ 2 ∧ oOk P T to x.1}) [25] (fun e x => (25, .int .i64 (x.1.1 : Nat)) :: e) (fun x => x.1.2.map coll) (fun x => [SegX po (oP P to x.1.1) (oT T to x.1.1) L, obj p 68 [.pointer (some ⟨l0, 0, none⟩), .pointer (some ⟨l1, 0, none⟩), .int .i64 (sm P : Nat), .int .i64 (sm T : Nat), .map (some m), .int .i64 L], MapA .u32 (fun z : Int => .int .i64 z) m kv, LruAt l0 (sl P), LruAt l1 (sl T), Marks x.1.2, obj b4 23 [.int .i64 0], obj b2 22 [.pointer (some ⟨p, 0, none⟩)], obj b3 38 [.slice a to.length cap], obj b6 22 [.pointer (some ⟨po, 0, none⟩)], RoS 1 a to.length cap (u32s to), F]) (fun x => 2 - x.1.1) ⟨(0, []), by omega, trivial⟩ ?_
    (hl := by show Ent _ [SegX po [] [] L, obj p 68 [.pointer (some ⟨l0, 0, none⟩), .pointer (some ⟨l1, 0, none⟩), .int .i64 (sm P : Nat), .int .i64 (sm T : Nat), .map (some m), .int .i64 L], MapA .u32 (fun z : Int => .int .i64 z) m kv, LruAt l0 (sl P), LruAt l1 (sl T), Marks [], obj b4 23 [.int .i64 0], obj b2 22 [.pointer (some ⟨p, 0, none⟩)], obj b3 38 [.slice a to.length cap], obj b6 22 [.pointer (some ⟨po, 0, none⟩)], RoS 1 a to.length cap (u32s to), F]; exact en)
  rintro K ⟨⟨v, rbs⟩, hle, hok⟩ hK
  dsimp only at hle hok ⊢
  obtain ⟨n1, n2, n3⟩ := iv.parts
  rcases v with _ | _ | v
  · show TC _ _ _ _ _ _ _ _ [SegX po [] [] L, obj p 68 [.pointer (some ⟨l0, 0, none⟩), .pointer (some ⟨l1, 0, none⟩), .int .i64 (sm P : Nat), .int .i64 (sm T : Nat), .map (some m), .int .i64 L], MapA .u32 (fun z : Int => .int .i64 z) m kv, LruAt l0 (sl P), LruAt l1 (sl T), Marks rbs, obj b4 23 [.int .i64 0], obj b2 22 [.pointer (some ⟨p, 0, none⟩)], obj b3 38 [.slice a to.length cap], obj b6 22 [.pointer (some ⟨po, 0, none⟩)], RoS 1 a to.length cap (u32s to), F]
    repeat' (first | ((fail_if_success (refine atD ?_)); refine stw ?_) | refine And.intro ?_ ?_ | (intro e; exfalso; omega) | (intro e; subst e) | intro _)
    rename_i b8
    refine drx [] ?_
    refine tks [0, 1, 2, 3, 4, 5] 1 ?_; repeat' (first | refine stw ?_ | refine And.intro ?_ ?_ | (intro e; exfalso; omega) | (intro e; subst e) | intro _)
    refine hv 6 fun x6 => ?_
    repeat' (first | refine stw ?_ | refine And.intro ?_ ?_ | (intro e; exfalso; omega) | (intro e; subst e) | intro _)
    have hx : (u32a (sl P)).length = P.length := by simp [u32a, sl_len]
    refine tc_rangeFunc (xs := u32a (sl P)) (own := [SeqC x6 (sl P)]) (R := [LruAt l0 (sl P), LruAt l1 (sl T), Marks rbs, F])
      (fun j => Exs (ι := {_u : Unit // Lr.renOk (sl (P.take j)) to}) fun _ => [obj b4 23 [.int .i64 0], obj b2 22 [.pointer (some ⟨p, 0, none⟩)], obj b3 38 [.slice a to.length cap], obj b6 22 [.pointer (some ⟨po, 0, none⟩)], RoS 1 a to.length cap (u32s to), obj p 68 [.pointer (some ⟨l0, 0, none⟩), .pointer (some ⟨l1, 0, none⟩), .int .i64 (sm P : Nat), .int .i64 (sm T : Nat), .map (some m), .int .i64 L], MapA .u32 (fun z : Int => .int .i64 z) m kv, obj b8 3 [.int .i64 0], SegX po (renX (P.take j) to) [] L])
      (fun _ c => Exs (ι := {_u : Unit // c = .ret ∧ ¬ Lr.renOk (sl P ++ sl T) to}) fun _ => [obj b4 23 [.int .i64 2], obj p 68 [.pointer (some ⟨l0, 0, none⟩), .pointer (some ⟨l1, 0, none⟩), .int .i64 (sm P : Nat), .int .i64 (sm T : Nat), .map (some m), .int .i64 L], MapA .u32 (fun z : Int => .int .i64 z) m kv])
      (seq_iter x6 _) rfl (by decide) (by intro a ha; simp only [u32a, List.mem_map] at ha; obtain ⟨_, _, rfl⟩ := ha; rfl) ?_ ?_ ?_ ?_
    · refine Ent.trans ?_ (Ent.exs ⟨(), by rw [List.take_zero, sl_nil]; exact Lr.renOk_nil⟩ (Ent.refl _))
      simp only [List.cons_append, List.nil_append]
      rw [List.take_zero, renX_nil, Int.natCast_zero]
      exact en
    · intro lp rec j y hst hpe ha base F
      have hj : j < P.length := by rw [← hx]; exact (List.getElem?_eq_some_iff.1 ha).1
      obtain rfl : y = [.int .u32 ((sl P).getD j 0 : Nat)] := by rw [u32a_get (by rw [sl_len]; exact hj)] at ha; exact (Option.some.inj ha).symm
      rw [sl_getD hj]
      have hin := getD_inS hj
      have hm := cm.yes (.inl hin)
      obtain ⟨hk, hw⟩ := iv.lt _ (.inl hin)
      dsimp only at hk hw
      have hsn := take_snocS hj
      generalize (P.getD j (0, 0)).1 = k at hm hk hsn ⊢
      generalize (P.getD j (0, 0)).2 = w at hm hw hsn
      have hrs := ren_snoc (D := P.take j) (k := k) (w := w) (to := to)
      have hno : ¬ Lr.renOk (sl (P.take j ++ [(k, w)])) to → ¬ Lr.renOk (sl P ++ sl T) to := fun h1 h2 => h1 (h2.sub (by
        rw [← hsn, sl_take]; exact (List.take_sublist _ _).trans (List.sublist_append_left _ _)))
      refine TC.exs (f := fun _ : {_u : Unit // Lr.renOk (sl (P.take j)) to} => [obj b4 23 [.int .i64 0], obj b2 22 [.pointer (some ⟨p, 0, none⟩)], obj b3 38 [.slice a to.length cap], obj b6 22 [.pointer (some ⟨po, 0, none⟩)], RoS 1 a to.length cap (u32s to), obj p 68 [.pointer (some ⟨l0, 0, none⟩), .pointer (some ⟨l1, 0, none⟩), .int .i64 (sm P : Nat), .int .i64 (sm T : Nat), .map (some m), .int .i64 L], MapA .u32 (fun z : Int => .int .i64 z) m kv, obj b8 3 [.int .i64 0], SegX po (renX (P.take j) to) [] L]) (by (repeat (first | (with_reducible exact Rem.here _ _) | (with_reducible apply Rem.there) | fail)); done) fun ⟨_, hok2⟩ => ?_
      simp only [List.cons_append, List.nil_append, putsE]
      by_cases hs : k < to.length
      · have hto2 : to.getD k 0 < 4294967296 := by
          rw [List.getD_eq_getElem?_getD, List.getElem?_eq_getElem hs]; exact hto _ (List.getElem_mem _)
        by_cases hs2 : to.getD k 0 < 4194304
        · refine SegX.openC (p := po) fun q0 q1 m2 kv2 iv2 cm2 => ?_
          by_cases hs3 : to.getD k 0 ∈ sl (renX (P.take j) to)
          · have hno := hno (fun h => (hrs.1 h).2.2.2 hs3)
            have hm2 : ∃ z, mget kv2 (to.getD k 0) = some z := by
              cases hq : mget kv2 (to.getD k 0) with
              | none =>
                obtain ⟨q1, q2⟩ := cm2.none_iff.1 hq
                exact absurd hs3 q1
              | some z => exact ⟨z, rfl⟩
            obtain ⟨z, hm2⟩ := hm2
            repeat' (first | refine stw ?_ | refine And.intro ?_ ?_ | (intro e; exfalso; omega) | (intro e; subst e) | intro _)
            refine rb hst ?_
            repeat' (first | ((fail_if_success (refine atD ?_)); refine stw ?_) | refine And.intro ?_ ?_ | (intro e; exfalso; omega) | (intro e; subst e) | intro _)
            refine drx [] ?_
            refine tks [0, 4, 5, 1, 6, 2, 7, 3] 6 ?_; repeat' (first | refine stw ?_ | refine And.intro ?_ ?_ | (intro e; exfalso; omega) | (intro e; subst e) | intro _)
            refine hvr 8 ?_
            refine tks [9, 10, 11, 12, 13] 0 ?_; repeat' (first | refine stw ?_ | refine And.intro ?_ ?_ | (intro e; exfalso; omega) | (intro e; subst e) | intro _)
            refine rr ?_
            refine Ent.cons (by (repeat (first | (with_reducible exact Rem.here _ _) | (with_reducible apply Rem.there) | fail)); done) ?_
            exact Ent.exs ⟨(), rfl, hno⟩ en
          · obtain ⟨np, nt⟩ : to.getD k 0 ∉ sl (renX (P.take j) to) ∧ to.getD k 0 ∉ sl ([]) := ⟨hs3, by rw [sl_nil]; exact List.not_mem_nil⟩
            have hm2 := cm2.none_iff.2 ⟨np, nt⟩
            have hput : PutTo 0 (renX (P.take j) to) ([]) (to.getD k 0) w (renX (P.take (j + 1)) to) ([]) := ⟨.inl ⟨rfl, by rw [hsn, renX_app, renX_one], rfl⟩, np, nt⟩
            repeat' (first | refine stw ?_ | refine And.intro ?_ ?_ | (intro e; exfalso; omega) | (intro e; subst e) | intro _)
            refine rb hst ?_
            repeat' (first | ((fail_if_success (refine atD ?_)); refine stw ?_) | refine And.intro ?_ ?_ | (intro e; exfalso; omega) | (intro e; subst e) | intro _)
            refine drx [] ?_
            refine tks [0, 4, 5, 1, 6, 2, 7, 3] 6 ?_; repeat' (first | refine stw ?_ | refine And.intro ?_ ?_ | (intro e; exfalso; omega) | (intro e; subst e) | intro _)
            refine hvr 8 ?_
            refine tks [9, 10, 11, 12, 13] 0 ?_; repeat' (first | ((fail_if_success (refine atD ?_)); refine stw ?_) | refine And.intro ?_ ?_ | (intro e; exfalso; omega) | (intro e; subst e) | intro _)
            refine TC.ent (en2 (SegX.shut (p := po) (l0 := q0) (l1 := q1) (m := m2) iv2 cm2)) ?_
            refine drx [SegX po (renX (P.take j) to) ([]) L] ?_
            refine tks [0, 1, 2, 3, 6, 10, 4, 7, 5, 8, 9] 2 ?_; repeat' (first | refine stw ?_ | refine And.intro ?_ ?_ | (intro e; exfalso; omega) | (intro e; subst e) | intro _)
            refine hvr 11 ?_
            refine hv 12 fun x12 => ?_
            repeat' (first | refine stw ?_ | refine And.intro ?_ ?_ | (intro e; exfalso; omega) | (intro e; subst e) | intro _)
            refine rp hst hpe ?_
            refine Ent.trans ?_ (b := Exs (ι := {_u : Unit // Lr.renOk (sl (P.take (j + 1))) to}) (fun _ => [obj b4 23 [.int .i64 0], obj b2 22 [.pointer (some ⟨p, 0, none⟩)], obj b3 38 [.slice a to.length cap], obj b6 22 [.pointer (some ⟨po, 0, none⟩)], RoS 1 a to.length cap (u32s to), obj p 68 [.pointer (some ⟨l0, 0, none⟩), .pointer (some ⟨l1, 0, none⟩), .int .i64 (sm P : Nat), .int .i64 (sm T : Nat), .map (some m), .int .i64 L], MapA .u32 (fun z : Int => .int .i64 z) m kv, obj b8 3 [.int .i64 0], SegX po (renX (P.take (j + 1)) to) [] L]) :: blk lp (.loop rec) :: [F]) en
            exact Ent.exs ⟨(), by rw [hsn]; exact hrs.2 ⟨hok2, hs, hs2, hs3⟩⟩ en
        · have hno := hno (fun h => hs2 (hrs.1 h).2.2.1)
          repeat' (first | refine stw ?_ | refine And.intro ?_ ?_ | (intro e; exfalso; omega) | (intro e; subst e) | intro _)
          refine rb hst ?_
          repeat' (first | refine stw ?_ | refine And.intro ?_ ?_ | (intro e; exfalso; omega) | (intro e; subst e) | intro _)
          refine rr ?_
          refine Ent.cons (by (repeat (first | (with_reducible exact Rem.here _ _) | (with_reducible apply Rem.there) | fail)); done) ?_
          exact Ent.exs ⟨(), rfl, hno⟩ en
      · have hno := hno (fun h => hs (hrs.1 h).2.1)
        repeat' (first | refine stw ?_ | refine And.intro ?_ ?_ | (intro e; exfalso; omega) | (intro e; subst e) | intro _)
        refine rb hst ?_
        repeat' (first | refine stw ?_ | refine And.intro ?_ ?_ | (intro e; exfalso; omega) | (intro e; subst e) | intro _)
        refine rr ?_
        refine Ent.cons (by (repeat (first | (with_reducible exact Rem.here _ _) | (with_reducible apply Rem.there) | fail)); done) ?_
        exact Ent.exs ⟨(), rfl, hno⟩ en
    · intro rb
      rw [hx, List.take_length]
      simp only [List.cons_append, List.nil_append]
      refine TK.exs (f := fun _ : {_u : Unit // Lr.renOk (sl (P)) to} => [obj b4 23 [.int .i64 0], obj b2 22 [.pointer (some ⟨p, 0, none⟩)], obj b3 38 [.slice a to.length cap], obj b6 22 [.pointer (some ⟨po, 0, none⟩)], RoS 1 a to.length cap (u32s to), obj p 68 [.pointer (some ⟨l0, 0, none⟩), .pointer (some ⟨l1, 0, none⟩), .int .i64 (sm P : Nat), .int .i64 (sm T : Nat), .map (some m), .int .i64 L], MapA .u32 (fun z : Int => .int .i64 z) m kv, obj b8 3 [.int .i64 0], SegX po (renX P to) [] L]) (by (repeat (first | (with_reducible exact Rem.here _ _) | (with_reducible apply Rem.there) | fail)); done) fun ⟨_, hok2⟩ => ?_
      simp only [List.cons_append, List.nil_append]
      repeat' (first | refine stw ?_ | refine And.intro ?_ ?_ | (intro e; exfalso; omega) | (intro e; subst e) | intro _)
      refine TK.markC (rb := rb) (rbs := rbs) ?_
      exact againD hK ⟨(1, rb :: rbs), by omega, show Lr.renOk (sl P) to from hok2⟩ (he := by show Ent _ [SegX po (renX P to) [] L, obj p 68 [.pointer (some ⟨l0, 0, none⟩), .pointer (some ⟨l1, 0, none⟩), .int .i64 (sm P : Nat), .int .i64 (sm T : Nat), .map (some m), .int .i64 L], MapA .u32 (fun z : Int => .int .i64 z) m kv, LruAt l0 (sl P), LruAt l1 (sl T), Marks (rb :: rbs), obj b4 23 [.int .i64 0], obj b2 22 [.pointer (some ⟨p, 0, none⟩)], obj b3 38 [.slice a to.length cap], obj b6 22 [.pointer (some ⟨po, 0, none⟩)], RoS 1 a to.length cap (u32s to), F]; exact en)
    · intro rb i c
      simp only [List.cons_append, List.nil_append]
      refine TC.exs (f := fun _ : {_u : Unit // c = .ret ∧ ¬ Lr.renOk (sl P ++ sl T) to} => [obj b4 23 [.int .i64 2], obj p 68 [.pointer (some ⟨l0, 0, none⟩), .pointer (some ⟨l1, 0, none⟩), .int .i64 (sm P : Nat), .int .i64 (sm T : Nat), .map (some m), .int .i64 L], MapA .u32 (fun z : Int => .int .i64 z) m kv]) (by (repeat (first | (with_reducible exact Rem.here _ _) | (with_reducible apply Rem.there) | fail)); done) fun ⟨_, h1, h2⟩ => ?_
      subst h1
      simp only [List.cons_append, List.nil_append]
      obtain ⟨rfl, rfl, rfl⟩ : P' = P ∧ T' = T ∧ e = 2 := by
        rcases u.out with ⟨h, _⟩ | ⟨_, h⟩
        · exact absurd h h2
        · exact h
      repeat' (first | refine stw ?_ | refine And.intro ?_ ?_ | (intro e; exfalso; omega) | (intro e; subst e) | intro _)
      refine TK.markC (rb := rb) (rbs := rbs) ?_
      exact rmvM (rbs := rb :: rbs) () rfl (he := ((en2 (SegX.shut (p := p) (l0 := l0) (l1 := l1) (m := m) iv cm)).trans (en2 (SegAt.shut st))).trans en)
  · show TC _ _ _ _ _ _ _ _ [SegX po (renX P to) [] L, obj p 68 [.pointer (some ⟨l0, 0, none⟩), .pointer (some ⟨l1, 0, none⟩), .int .i64 (sm P : Nat), .int .i64 (sm T : Nat), .map (some m), .int .i64 L], MapA .u32 (fun z : Int => .int .i64 z) m kv, LruAt l0 (sl P), LruAt l1 (sl T), Marks rbs, obj b4 23 [.int .i64 0], obj b2 22 [.pointer (some ⟨p, 0, none⟩)], obj b3 38 [.slice a to.length cap], obj b6 22 [.pointer (some ⟨po, 0, none⟩)], RoS 1 a to.length cap (u32s to), F]
    repeat' (first | ((fail_if_success (refine atD ?_)); refine stw ?_) | refine And.intro ?_ ?_ | (intro e; exfalso; omega) | (intro e; subst e) | intro _)
    rename_i b8
    refine drx [] ?_
    refine tks [0, 1, 2, 3, 4, 5] 1 ?_; repeat' (first | refine stw ?_ | refine And.intro ?_ ?_ | (intro e; exfalso; omega) | (intro e; subst e) | intro _)
    refine hv 6 fun x6 => ?_
    repeat' (first | refine stw ?_ | refine And.intro ?_ ?_ | (intro e; exfalso; omega) | (intro e; subst e) | intro _)
    have hx : (u32a (sl T)).length = T.length := by simp [u32a, sl_len]
    refine tc_rangeFunc (xs := u32a (sl T)) (own := [SeqC x6 (sl T)]) (R := [LruAt l0 (sl P), LruAt l1 (sl T), Marks rbs, F])
      (fun j => Exs (ι := {_u : Unit // Lr.renOk (sl ((P ++ T.take j))) to}) fun _ => [obj b4 23 [.int .i64 0], obj b2 22 [.pointer (some ⟨p, 0, none⟩)], obj b3 38 [.slice a to.length cap], obj b6 22 [.pointer (some ⟨po, 0, none⟩)], RoS 1 a to.length cap (u32s to), obj p 68 [.pointer (some ⟨l0, 0, none⟩), .pointer (some ⟨l1, 0, none⟩), .int .i64 (sm P : Nat), .int .i64 (sm T : Nat), .map (some m), .int .i64 L], MapA .u32 (fun z : Int => .int .i64 z) m kv, obj b8 3 [.int .i64 1], SegX po (renX P to) (renX (T.take j) to) L])
      (fun _ c => Exs (ι := {_u : Unit // c = .ret ∧ ¬ Lr.renOk (sl P ++ sl T) to}) fun _ => [obj b4 23 [.int .i64 2], obj p 68 [.pointer (some ⟨l0, 0, none⟩), .pointer (some ⟨l1, 0, none⟩), .int .i64 (sm P : Nat), .int .i64 (sm T : Nat), .map (some m), .int .i64 L], MapA .u32 (fun z : Int => .int .i64 z) m kv])
      (seq_iter x6 _) rfl (by decide) (by intro a ha; simp only [u32a, List.mem_map] at ha; obtain ⟨_, _, rfl⟩ := ha; rfl) ?_ ?_ ?_ ?_
    · refine Ent.trans ?_ (Ent.exs ⟨(), by rw [List.take_zero, List.append_nil]; exact hok⟩ (Ent.refl _))
      simp only [List.cons_append, List.nil_append]
      rw [List.take_zero, renX_nil, show ((0 + 1 : Nat) : Int) = 1 from rfl]
      exact en
    · intro lp rec j y hst hpe ha base F
      have hj : j < T.length := by rw [← hx]; exact (List.getElem?_eq_some_iff.1 ha).1
      obtain rfl : y = [.int .u32 ((sl T).getD j 0 : Nat)] := by rw [u32a_get (by rw [sl_len]; exact hj)] at ha; exact (Option.some.inj ha).symm
      rw [sl_getD hj]
      have hin := getD_inS hj
      have hm := cm.yes (.inr hin)
      obtain ⟨hk, hw⟩ := iv.lt _ (.inr hin)
      dsimp only at hk hw
      have hsn := take_snocS hj
      generalize (T.getD j (0, 0)).1 = k at hm hk hsn ⊢
      generalize (T.getD j (0, 0)).2 = w at hm hw hsn
      have hrs := ren_snoc (D := (P ++ T.take j)) (k := k) (w := w) (to := to)
      have hno : ¬ Lr.renOk (sl ((P ++ T.take j) ++ [(k, w)])) to → ¬ Lr.renOk (sl P ++ sl T) to := fun h1 h2 => h1 (h2.sub (by
        rw [List.append_assoc, ← hsn, sl_append, sl_take]; exact List.Sublist.append_left (List.take_sublist _ _) _))
      refine TC.exs (f := fun _ : {_u : Unit // Lr.renOk (sl ((P ++ T.take j))) to} => [obj b4 23 [.int .i64 0], obj b2 22 [.pointer (some ⟨p, 0, none⟩)], obj b3 38 [.slice a to.length cap], obj b6 22 [.pointer (some ⟨po, 0, none⟩)], RoS 1 a to.length cap (u32s to), obj p 68 [.pointer (some ⟨l0, 0, none⟩), .pointer (some ⟨l1, 0, none⟩), .int .i64 (sm P : Nat), .int .i64 (sm T : Nat), .map (some m), .int .i64 L], MapA .u32 (fun z : Int => .int .i64 z) m kv, obj b8 3 [.int .i64 1], SegX po (renX P to) (renX (T.take j) to) L]) (by (repeat (first | (with_reducible exact Rem.here _ _) | (with_reducible apply Rem.there) | fail)); done) fun ⟨_, hok2⟩ => ?_
      simp only [List.cons_append, List.nil_append, putsE]
      by_cases hs : k < to.length
      · have hto2 : to.getD k 0 < 4294967296 := by
          rw [List.getD_eq_getElem?_getD, List.getElem?_eq_getElem hs]; exact hto _ (List.getElem_mem _)
        by_cases hs2 : to.getD k 0 < 4194304
        · refine SegX.openC (p := po) fun q0 q1 m2 kv2 iv2 cm2 => ?_
          by_cases hs3 : to.getD k 0 ∈ sl (renX ((P ++ T.take j)) to)
          · have hno := hno (fun h => (hrs.1 h).2.2.2 hs3)
            have hm2 : ∃ z, mget kv2 (to.getD k 0) = some z := by
              cases hq : mget kv2 (to.getD k 0) with
              | none =>
                obtain ⟨q1, q2⟩ := cm2.none_iff.1 hq
                rw [renX_app, sl_append] at hs3
                exact (List.mem_append.1 hs3).elim (fun h => absurd h q1) (fun h => absurd h q2)
              | some z => exact ⟨z, rfl⟩
            obtain ⟨z, hm2⟩ := hm2
            repeat' (first | refine stw ?_ | refine And.intro ?_ ?_ | (intro e; exfalso; omega) | (intro e; subst e) | intro _)
            refine rb hst ?_
            repeat' (first | ((fail_if_success (refine atD ?_)); refine stw ?_) | refine And.intro ?_ ?_ | (intro e; exfalso; omega) | (intro e; subst e) | intro _)
            refine drx [] ?_
            refine tks [0, 4, 5, 1, 6, 2, 7, 3] 6 ?_; repeat' (first | refine stw ?_ | refine And.intro ?_ ?_ | (intro e; exfalso; omega) | (intro e; subst e) | intro _)
            refine hvr 8 ?_
            refine tks [9, 10, 11, 12, 13] 0 ?_; repeat' (first | refine stw ?_ | refine And.intro ?_ ?_ | (intro e; exfalso; omega) | (intro e; subst e) | intro _)
            refine rr ?_
            refine Ent.cons (by (repeat (first | (with_reducible exact Rem.here _ _) | (with_reducible apply Rem.there) | fail)); done) ?_
            exact Ent.exs ⟨(), rfl, hno⟩ en
          · obtain ⟨np, nt⟩ : to.getD k 0 ∉ sl (renX P to) ∧ to.getD k 0 ∉ sl (renX (T.take j) to) := by rw [renX_app, sl_append, List.mem_append, not_or] at hs3; exact hs3
            have hm2 := cm2.none_iff.2 ⟨np, nt⟩
            have hput : PutTo 1 (renX P to) (renX (T.take j) to) (to.getD k 0) w (renX P to) (renX (T.take (j + 1)) to) := ⟨.inr ⟨rfl, rfl, by rw [hsn, renX_app, renX_one]⟩, np, nt⟩
            repeat' (first | refine stw ?_ | refine And.intro ?_ ?_ | (intro e; exfalso; omega) | (intro e; subst e) | intro _)
            refine rb hst ?_
            repeat' (first | ((fail_if_success (refine atD ?_)); refine stw ?_) | refine And.intro ?_ ?_ | (intro e; exfalso; omega) | (intro e; subst e) | intro _)
            refine drx [] ?_
            refine tks [0, 4, 5, 1, 6, 2, 7, 3] 6 ?_; repeat' (first | refine stw ?_ | refine And.intro ?_ ?_ | (intro e; exfalso; omega) | (intro e; subst e) | intro _)
            refine hvr 8 ?_
            refine tks [9, 10, 11, 12, 13] 0 ?_; repeat' (first | ((fail_if_success (refine atD ?_)); refine stw ?_) | refine And.intro ?_ ?_ | (intro e; exfalso; omega) | (intro e; subst e) | intro _)
            refine TC.ent (en2 (SegX.shut (p := po) (l0 := q0) (l1 := q1) (m := m2) iv2 cm2)) ?_
            refine drx [SegX po (renX P to) (renX (T.take j) to) L] ?_
            refine tks [0, 1, 2, 3, 6, 10, 4, 7, 5, 8, 9] 2 ?_; repeat' (first | refine stw ?_ | refine And.intro ?_ ?_ | (intro e; exfalso; omega) | (intro e; subst e) | intro _)
            refine hvr 11 ?_
            refine hv 12 fun x12 => ?_
            repeat' (first | refine stw ?_ | refine And.intro ?_ ?_ | (intro e; exfalso; omega) | (intro e; subst e) | intro _)
            refine rp hst hpe ?_
            refine Ent.trans ?_ (b := Exs (ι := {_u : Unit // Lr.renOk (sl (P ++ T.take (j + 1))) to}) (fun _ => [obj b4 23 [.int .i64 0], obj b2 22 [.pointer (some ⟨p, 0, none⟩)], obj b3 38 [.slice a to.length cap], obj b6 22 [.pointer (some ⟨po, 0, none⟩)], RoS 1 a to.length cap (u32s to), obj p 68 [.pointer (some ⟨l0, 0, none⟩), .pointer (some ⟨l1, 0, none⟩), .int .i64 (sm P : Nat), .int .i64 (sm T : Nat), .map (some m), .int .i64 L], MapA .u32 (fun z : Int => .int .i64 z) m kv, obj b8 3 [.int .i64 1], SegX po (renX P to) (renX (T.take (j + 1)) to) L]) :: blk lp (.loop rec) :: [F]) en
            exact Ent.exs ⟨(), by rw [hsn, ← List.append_assoc]; exact hrs.2 ⟨hok2, hs, hs2, hs3⟩⟩ en
        · have hno := hno (fun h => hs2 (hrs.1 h).2.2.1)
          repeat' (first | refine stw ?_ | refine And.intro ?_ ?_ | (intro e; exfalso; omega) | (intro e; subst e) | intro _)
          refine rb hst ?_
          repeat' (first | refine stw ?_ | refine And.intro ?_ ?_ | (intro e; exfalso; omega) | (intro e; subst e) | intro _)
          refine rr ?_
          refine Ent.cons (by (repeat (first | (with_reducible exact Rem.here _ _) | (with_reducible apply Rem.there) | fail)); done) ?_
          exact Ent.exs ⟨(), rfl, hno⟩ en
      · have hno := hno (fun h => hs (hrs.1 h).2.1)
        repeat' (first | refine stw ?_ | refine And.intro ?_ ?_ | (intro e; exfalso; omega) | (intro e; subst e) | intro _)
        refine rb hst ?_
        repeat' (first | refine stw ?_ | refine And.intro ?_ ?_ | (intro e; exfalso; omega) | (intro e; subst e) | intro _)
        refine rr ?_
        refine Ent.cons (by (repeat (first | (with_reducible exact Rem.here _ _) | (with_reducible apply Rem.there) | fail)); done) ?_
        exact Ent.exs ⟨(), rfl, hno⟩ en
    · intro rb
      rw [hx, List.take_length]
      simp only [List.cons_append, List.nil_append]
      refine TK.exs (f := fun _ : {_u : Unit // Lr.renOk (sl (P ++ T)) to} => [obj b4 23 [.int .i64 0], obj b2 22 [.pointer (some ⟨p, 0, none⟩)], obj b3 38 [.slice a to.length cap], obj b6 22 [.pointer (some ⟨po, 0, none⟩)], RoS 1 a to.length cap (u32s to), obj p 68 [.pointer (some ⟨l0, 0, none⟩), .pointer (some ⟨l1, 0, none⟩), .int .i64 (sm P : Nat), .int .i64 (sm T : Nat), .map (some m), .int .i64 L], MapA .u32 (fun z : Int => .int .i64 z) m kv, obj b8 3 [.int .i64 1], SegX po (renX P to) (renX T to) L]) (by (repeat (first | (with_reducible exact Rem.here _ _) | (with_reducible apply Rem.there) | fail)); done) fun ⟨_, hok2⟩ => ?_
      simp only [List.cons_append, List.nil_append]
      repeat' (first | refine stw ?_ | refine And.intro ?_ ?_ | (intro e; exfalso; omega) | (intro e; subst e) | intro _)
      refine TK.markC (rb := rb) (rbs := rbs) ?_
      exact againD hK ⟨(2, rb :: rbs), by omega, by show Lr.renOk (sl P ++ sl T) to; rw [← sl_append]; exact hok2⟩ (he := by show Ent _ [SegX po (renX P to) (renX T to) L, obj p 68 [.pointer (some ⟨l0, 0, none⟩), .pointer (some ⟨l1, 0, none⟩), .int .i64 (sm P : Nat), .int .i64 (sm T : Nat), .map (some m), .int .i64 L], MapA .u32 (fun z : Int => .int .i64 z) m kv, LruAt l0 (sl P), LruAt l1 (sl T), Marks (rb :: rbs), obj b4 23 [.int .i64 0], obj b2 22 [.pointer (some ⟨p, 0, none⟩)], obj b3 38 [.slice a to.length cap], obj b6 22 [.pointer (some ⟨po, 0, none⟩)], RoS 1 a to.length cap (u32s to), F]; exact en)
    · intro rb i c
      simp only [List.cons_append, List.nil_append]
      refine TC.exs (f := fun _ : {_u : Unit // c = .ret ∧ ¬ Lr.renOk (sl P ++ sl T) to} => [obj b4 23 [.int .i64 2], obj p 68 [.pointer (some ⟨l0, 0, none⟩), .pointer (some ⟨l1, 0, none⟩), .int .i64 (sm P : Nat), .int .i64 (sm T : Nat), .map (some m), .int .i64 L], MapA .u32 (fun z : Int => .int .i64 z) m kv]) (by (repeat (first | (with_reducible exact Rem.here _ _) | (with_reducible apply Rem.there) | fail)); done) fun ⟨_, h1, h2⟩ => ?_
      subst h1
      simp only [List.cons_append, List.nil_append]
      obtain ⟨rfl, rfl, rfl⟩ : P' = P ∧ T' = T ∧ e = 2 := by
        rcases u.out with ⟨h, _⟩ | ⟨_, h⟩
        · exact absurd h h2
        · exact h
      repeat' (first | refine stw ?_ | refine And.intro ?_ ?_ | (intro e; exfalso; omega) | (intro e; subst e) | intro _)
      refine TK.markC (rb := rb) (rbs := rbs) ?_
      exact rmvM (rbs := rb :: rbs) () rfl (he := ((en2 (SegX.shut (p := p) (l0 := l0) (l1 := l1) (m := m) iv cm)).trans (en2 (SegAt.shut st))).trans en)
  · obtain rfl : v = 0 := by omega
    have hok3 : Lr.renOk (sl P ++ sl T) to := hok
    obtain ⟨rfl, rfl, rfl⟩ : P' = renX P to ∧ T' = renX T to ∧ e = 0 := by
      rcases u.out with ⟨_, h⟩ | ⟨h, _⟩
      · exact h
      · exact absurd hok3 h
    show TC _ _ _ _ _ _ _ _ [SegX po (renX P to) (renX T to) L, obj p 68 [.pointer (some ⟨l0, 0, none⟩), .pointer (some ⟨l1, 0, none⟩), .int .i64 (sm P : Nat), .int .i64 (sm T : Nat), .map (some m), .int .i64 L], MapA .u32 (fun z : Int => .int .i64 z) m kv, LruAt l0 (sl P), LruAt l1 (sl T), Marks rbs, obj b4 23 [.int .i64 0], obj b2 22 [.pointer (some ⟨p, 0, none⟩)], obj b3 38 [.slice a to.length cap], obj b6 22 [.pointer (some ⟨po, 0, none⟩)], RoS 1 a to.length cap (u32s to), F]
    refine SegX.openC (p := po) fun q0 q1 m2 kv2 iv2 cm2 => ?_
    have st2 := ren_still (to := to) st
    repeat' (first | ((fail_if_success (refine atD ?_)); refine stw ?_) | refine And.intro ?_ ?_ | (intro e; exfalso; omega) | (intro e; subst e) | intro _)
    refine drx [obj p 68 [.pointer (some ⟨l0, 0, none⟩), .pointer (some ⟨l1, 0, none⟩), .int .i64 (sm P : Nat), .int .i64 (sm T : Nat), .map (some m), .int .i64 L]] ?_
    refine tks [0, 1, 2, 3, 4] 1 ?_; repeat' (first | refine stw ?_ | refine And.intro ?_ ?_ | (intro e; exfalso; omega) | (intro e; subst e) | intro _)
    refine hv0 5 fun x5 => ?_
    repeat' (first | refine stw ?_ | refine And.intro ?_ ?_ | (intro e; exfalso; omega) | (intro e; subst e) | intro _)
    exact rmvM () rfl (he := ((en2 (SegX.shut (p := p) (l0 := q0) (l1 := q1) (m := m2) iv2 cm2)).trans (en2 (SegAt.shut st2))).trans en)⟩
end Go.Proofs.Ytbkpojlbclehaaa
