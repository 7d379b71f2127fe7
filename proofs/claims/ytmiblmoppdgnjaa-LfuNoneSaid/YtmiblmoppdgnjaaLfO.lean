/- lfu, walked: all keys in the order in which they would leave. -/
import Derived.Test.YtmiblmoppdgnjaaLfW3
import Derived.Test.YtmiblmoppdgnjaaSlCv
import Derived.Test.YtmiblmoppdgnjaaSlD
namespace Go.Proofs.Ytmiblmoppdgnjaa
open Go.Lk Go.Sl Go.Lf
attribute [local irreducible] TK TL TC Th Bk Nx fnPost WA TQ OpQ OpN SpecH Rd Ent IterH RoundH Rb Rp fnPostM
attribute [local irreducible] Fld.addE Fld.addF Fld.befE Fld.befF Fld.inE Fld.remF Fld.first Fld.last Fld.next Fld.prev Fld.ofR Fld.listOf Fld.joinE Fld.joinF renE renG Fld.at Fld.set Fld.place
attribute [local irreducible] Lf.wo Lf.ins Lf.cntOf Lf.halveL
theorem lf_ord1 (bo m c k : Nat) (a : Option Addr) (ns : List Nat) (hl : ns.length = m) (hm : m ≤ 4194304) : SpecH Try.prog 33 #[.int .u32 (k : Nat), .pointer (some ⟨bo, 0, none⟩)] [obj bo 41 [.slice a m c], Vec 28 1 a m c (u32s ns)] (fun _ : Option Addr × Nat => .tuple #[]) (fun q => [obj bo 41 [.slice q.1 (m + 1) q.2], Vec 28 1 q.1 (m + 1) q.2 (u32s (ns ++ [k]))]) := by
  refine spec_of Try.func33 rfl Try.ntmps33 rfl [(0, _), (1, _)] rfl ?_; intro base F l0 hl0; (try simp only [List.cons_append] at hl0); (try simp only [List.nil_append] at hl0); subst hl0
  repeat' (first | refine sty ?_ | refine And.intro ?_ ?_ | (intro e; exfalso; omega) | (intro e; subst e) | intro _)
  rename_i b5 a5 c5
  rw [show ∀ (A : List Nat) (x : Nat), u32s (A ++ [x]) = u32s A ++ [.int .u32 (x : Nat)] from fun A x => by simp [u32s]]
  exact re0 (a5, c5) rfl
set_option maxHeartbeats 4000000 in
theorem lf_each (p size age req bo : Nat) (l : List It) : SpecH Try.prog 32 #[.pointer (some ⟨p, 0, none⟩), .func (.func 33) #[] #[.pointer (some ⟨bo, 0, none⟩)]] [LfuAt p size age req l, obj bo 41 [.slice none 0 0]] (fun _ : Option Addr × Nat => .tuple #[]) (fun q => [LfuAt p size age req l, obj bo 41 [.slice q.1 l.length q.2], Vec 28 1 q.1 l.length q.2 (u32s (ks l))]) := by
  refine spec_of_m Try.func32 rfl Try.ntmps32 rfl [(0, _), (1, _)] rfl ?_; intro base F l0 hl0; (try simp only [List.cons_append] at hl0); (try simp only [List.nil_append] at hl0); subst hl0
  refine LfuAt.openC fun f K kv pl aK cK bm g s1 s2 s3 => ?_
  have hKl := g.c.kl
  have hok := g.ok
  have hll := hok.len
  repeat' (first | refine sty ?_ | refine And.intro ?_ ?_ | (intro e; exfalso; omega) | (intro e; subst e) | intro _)
  rename_i bc bv
  refine TC.marks0 ?_
  refine tc_lpD (ι := {x : Nat × (Option Addr × Nat) × List Nat // x.1 ≤ 255}) [6] (fun e x => (6, .int .i64 (x.1.1 : Nat)) :: e) (fun x => x.1.2.2.map coll)
    (fun x => [obj bo 41 [.slice x.1.2.1.1 (ks (lo l x.1.1)).length x.1.2.1.2], Vec 28 1 x.1.2.1.1 (ks (lo l x.1.1)).length x.1.2.1.2 (u32s (ks (lo l x.1.1))), Marks x.1.2.2, obj bc 23 [.pointer (some ⟨p, 0, none⟩)], obj bv 68 [.func (.func 33) #[] #[.pointer (some ⟨bo, 0, none⟩)]], obj p 57 [.int .i64 (size : Nat), .int .i64 (age : Nat), .int .i64 (req : Nat), .pointer (some ⟨pl, 0, none⟩), .slice (some ⟨aK, 0, none⟩) size cK, .map (some bm)], FieldAt pl f, Vec 28 1 (some ⟨aK, 0, none⟩) size cK (u32s K), MapA .u32 (fun n : Nat => .int .u32 (n : Nat)) bm kv, F]) (fun x => 255 - x.1.1) ⟨(0, (none, 0), []), by simp⟩ ?_
    (hl := by dsimp only; rw [lo_zero (fun y hy => (g.c.cnt y hy).1)]; show Ent _ [obj bo 41 [.slice none 0 0], Vec 28 1 none 0 0 [], _, _, _, _, _, _, _, _]; exact en)
  rintro K2 ⟨⟨i, ⟨a0, c0⟩, rbs⟩, hi⟩ hK2
  dsimp only at hi ⊢
  by_cases hlt : i < 255
  · have hg := g.c.g (i + 1) (by omega) (by omega)
    have hl0 : f.listOf ((i : Int) + 1) = f.at (i + 1) := listOf_nat' f (i + 1)
    have hlo := lo_succ (n := i) g.c.srt
    rw [← hg] at hlo
    have hx : (u32a (f.at (i + 1))).length = (f.at (i + 1)).length := by simp [u32a]
    have hsub : (ks (lo l (i + 1))).length ≤ size := by rw [List.length_map]; exact Nat.le_trans List.filter_sublist.length_le hll
    repeat' (first | refine sty ?_ | refine And.intro ?_ ?_ | (intro e; exfalso; omega) | (intro e; subst e) | intro _)
    rename_i c
    rw [hl0]
    refine tc_rangeFunc (xs := u32a (f.at (i + 1))) (own := [SeqC c (f.at (i + 1))]) (R := [Marks rbs, FieldAt pl f, MapA .u32 (fun n : Nat => .int .u32 (n : Nat)) bm kv, F]) (fun j => Exs (ι := Option Addr × Nat) fun q => [obj bo 41 [.slice q.1 (ks (lo l i) ++ ((f.at (i + 1)).take j).map fun z => K.getD z 0).length q.2], Vec 28 1 q.1 (ks (lo l i) ++ ((f.at (i + 1)).take j).map fun z => K.getD z 0).length q.2 (u32s (ks (lo l i) ++ ((f.at (i + 1)).take j).map fun z => K.getD z 0)), obj bc 23 [.pointer (some ⟨p, 0, none⟩)], obj bv 68 [.func (.func 33) #[] #[.pointer (some ⟨bo, 0, none⟩)]], obj p 57 [.int .i64 (size : Nat), .int .i64 (age : Nat), .int .i64 (req : Nat), .pointer (some ⟨pl, 0, none⟩), .slice (some ⟨aK, 0, none⟩) size cK, .map (some bm)], Vec 28 1 (some ⟨aK, 0, none⟩) size cK (u32s K)]) (fun _ _ => fact False) (seq_iter c _) rfl (by decide) (by intro a ha; simp only [u32a, List.mem_map] at ha; obtain ⟨_, _, rfl⟩ := ha; rfl) ?_ ?_ ?_ ?_
    · refine Ent.trans ?_ (Ent.exs (a0, c0) (Ent.refl _))
      simp only [List.take_zero, List.map_nil, List.append_nil]
      exact en
    · intro lp rec j a hst hpe ha base F
      have hj : j < (f.at (i + 1)).length := by rw [← hx]; exact (List.getElem?_eq_some_iff.1 ha).1
      obtain rfl : a = [.int .u32 ((f.at (i + 1)).getD j 0 : Nat)] := by rw [u32a_get hj] at ha; exact (Option.some.inj ha).symm
      have hzl : (f.at (i + 1)).getD j 0 < size := g.c.zlt (n := i + 1) (by omega) (by rw [List.getD_eq_getElem?_getD, List.getElem?_eq_getElem hj]; exact List.getElem_mem hj)
      have hsnoc : (ks (lo l i) ++ ((f.at (i + 1)).take (j + 1)).map fun z => K.getD z 0) = (ks (lo l i) ++ ((f.at (i + 1)).take j).map fun z => K.getD z 0) ++ [K.getD ((f.at (i + 1)).getD j 0) 0] := by
        rw [List.append_assoc, List.getD_eq_getElem?_getD (l := f.at (i + 1)), List.getElem?_eq_getElem hj, ← List.take_append_getElem hj, List.map_append]; rfl
      have hlen : (ks (lo l i) ++ ((f.at (i + 1)).take j).map fun z => K.getD z 0).length ≤ size := by
        have e1 := congrArg List.length hlo
        have e2 := hsub
        simp only [List.length_append, List.length_map, List.length_take] at e1 e2 ⊢
        omega
      refine TC.exs (f := fun q : Option Addr × Nat => [obj bo 41 [.slice q.1 (ks (lo l i) ++ ((f.at (i + 1)).take j).map fun z => K.getD z 0).length q.2], Vec 28 1 q.1 (ks (lo l i) ++ ((f.at (i + 1)).take j).map fun z => K.getD z 0).length q.2 (u32s (ks (lo l i) ++ ((f.at (i + 1)).take j).map fun z => K.getD z 0)), obj bc 23 [.pointer (some ⟨p, 0, none⟩)], obj bv 68 [.func (.func 33) #[] #[.pointer (some ⟨bo, 0, none⟩)]], obj p 57 [.int .i64 (size : Nat), .int .i64 (age : Nat), .int .i64 (req : Nat), .pointer (some ⟨pl, 0, none⟩), .slice (some ⟨aK, 0, none⟩) size cK, .map (some bm)], Vec 28 1 (some ⟨aK, 0, none⟩) size cK (u32s K)]) (by (repeat (first | (with_reducible exact Rem.here _ _) | (with_reducible apply Rem.there) | fail)); done) fun ⟨q1, q2⟩ => ?_
      simp only [List.cons_append, List.nil_append, putsE]
      have hspec := lf_ord1 bo (ks (lo l i) ++ ((f.at (i + 1)).take j).map fun z => K.getD z 0).length q2 (K.getD ((f.at (i + 1)).getD j 0) 0) q1 (ks (lo l i) ++ ((f.at (i + 1)).take j).map fun z => K.getD z 0) rfl (by omega)
      rw [← hsnoc] at hspec
      generalize hSl : (ks (lo l i) ++ ((f.at (i + 1)).take j).map fun z => K.getD z 0).length = ml at hspec hlen
      repeat' (first | refine sty ?_ | refine And.intro ?_ ?_ | (intro e; exfalso; omega) | (intro e; subst e) | intro _)
      refine rb hst ?_
      repeat' (first | ((fail_if_success (refine atD ?_)); refine sty ?_) | refine And.intro ?_ ?_ | (intro e; exfalso; omega) | (intro e; subst e) | intro _)
      refine drx [obj bo 41 [.slice q1 ml q2], Vec 28 1 q1 ml q2 (u32s (ks (lo l i) ++ ((f.at (i + 1)).take j).map fun z => K.getD z 0))] ?_
      refine tks [0, 1, 5, 2, 3, 4, 6, 7] 1 ?_; repeat' (first | refine sty ?_ | refine And.intro ?_ ?_ | (intro e; exfalso; omega) | (intro e; subst e) | intro _)
      refine hvV 8 hspec fun x8 => ?_
      repeat' (first | refine sty ?_ | refine And.intro ?_ ?_ | (intro e; exfalso; omega) | (intro e; subst e) | intro _)
      refine rp hst hpe ?_
      refine Ent.trans ?_ (b := Exs (ι := Option Addr × Nat) (fun q => [obj bo 41 [.slice q.1 (ks (lo l i) ++ ((f.at (i + 1)).take (j + 1)).map fun z => K.getD z 0).length q.2], Vec 28 1 q.1 (ks (lo l i) ++ ((f.at (i + 1)).take (j + 1)).map fun z => K.getD z 0).length q.2 (u32s (ks (lo l i) ++ ((f.at (i + 1)).take (j + 1)).map fun z => K.getD z 0)), obj bc 23 [.pointer (some ⟨p, 0, none⟩)], obj bv 68 [.func (.func 33) #[] #[.pointer (some ⟨bo, 0, none⟩)]], obj p 57 [.int .i64 (size : Nat), .int .i64 (age : Nat), .int .i64 (req : Nat), .pointer (some ⟨pl, 0, none⟩), .slice (some ⟨aK, 0, none⟩) size cK, .map (some bm)], Vec 28 1 (some ⟨aK, 0, none⟩) size cK (u32s K)]) :: blk lp (.loop rec) :: [F]) en
      refine Ent.exs (x8.1, x8.2) ?_
      have e : (ks (lo l i) ++ ((f.at (i + 1)).take (j + 1)).map fun z => K.getD z 0).length = ml + 1 := by rw [hsnoc, List.length_append, hSl]; rfl
      rw [e]
      exact en
    · intro rb
      rw [hx]
      simp only [List.cons_append, List.nil_append]
      refine TK.exs (f := fun q : Option Addr × Nat => [obj bo 41 [.slice q.1 (ks (lo l i) ++ ((f.at (i + 1)).take (f.at (i + 1)).length).map fun z => K.getD z 0).length q.2], Vec 28 1 q.1 (ks (lo l i) ++ ((f.at (i + 1)).take (f.at (i + 1)).length).map fun z => K.getD z 0).length q.2 (u32s (ks (lo l i) ++ ((f.at (i + 1)).take (f.at (i + 1)).length).map fun z => K.getD z 0)), obj bc 23 [.pointer (some ⟨p, 0, none⟩)], obj bv 68 [.func (.func 33) #[] #[.pointer (some ⟨bo, 0, none⟩)]], obj p 57 [.int .i64 (size : Nat), .int .i64 (age : Nat), .int .i64 (req : Nat), .pointer (some ⟨pl, 0, none⟩), .slice (some ⟨aK, 0, none⟩) size cK, .map (some bm)], Vec 28 1 (some ⟨aK, 0, none⟩) size cK (u32s K)]) (by (repeat (first | (with_reducible exact Rem.here _ _) | (with_reducible apply Rem.there) | fail)); done) fun ⟨q1, q2⟩ => ?_
      simp only [List.cons_append, List.nil_append]
      rw [List.take_length, ← hlo]
      repeat' (first | refine sty ?_ | refine And.intro ?_ ?_ | (intro e; exfalso; omega) | (intro e; subst e) | intro _)
      refine TK.markC (rb := rb) (rbs := rbs) ?_
      rw [show ((i : Int) + 1) = ((i + 1 : Nat) : Int) from rfl]
      exact againD hK2 ⟨(i + 1, (q1, q2), rb :: rbs), by omega⟩
    · intro rb i c
      exact tc_factF
  · obtain rfl : i = 255 := by omega
    rw [lo_all (fun y hy => (g.c.cnt y hy).2), show (ks l).length = l.length from List.length_map _]
    repeat' (first | refine sty ?_ | refine And.intro ?_ ?_ | (intro e; exfalso; omega) | (intro e; subst e) | intro _)
    refine TK.marks (rbs := rbs) (by (repeat (first | (with_reducible exact Rem.here _ _) | (with_reducible apply Rem.there) | fail)); done) ?_
    refine tk_endm0 rfl Marks.colls (a0, c0) rfl ?_
    exact en2 (LfuAt.shut g s1 s2 s3)
instance lf_order : Known Try.prog 14 (∀ (p size age req : Nat) (l : List It), SpecH Try.prog 14 #[.pointer (some ⟨p, 0, none⟩)] [LfuAt p size age req l] (fun q : Option Addr × Nat => .slice q.1 l.length q.2) (fun q => [LfuAt p size age req l, Vec 28 1 q.1 l.length q.2 (u32s (ks l))])) := ⟨fun p size age req l => by
  haveI := lf_zeroL
  refine spec_of Try.func14 rfl Try.ntmps14 rfl [(0, _)] rfl ?_; intro base F l0 hl0; (try simp only [List.cons_append] at hl0); (try simp only [List.nil_append] at hl0); subst hl0
  repeat' (first | ((fail_if_success (refine atCall 32 ?_)); refine sty ?_) | refine And.intro ?_ ?_ | (intro e; exfalso; omega) | (intro e; subst e) | intro _)
  rename_i bo
  refine call (lf_each p size age req bo l) ?_
  repeat' (first | refine sty ?_ | refine And.intro ?_ ?_ | (intro e; exfalso; omega) | (intro e; subst e) | intro _)
  rename_i a5 c5
  exact rt1 (a5, c5) rfl⟩
end Go.Proofs.Ytmiblmoppdgnjaa
