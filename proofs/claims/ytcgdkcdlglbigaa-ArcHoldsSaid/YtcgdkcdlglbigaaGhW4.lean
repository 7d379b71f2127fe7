/- ghost, walked: all keys; a copy. -/
import Derived.Test.YtcgdkcdlglbigaaGhW3
import Derived.Test.YtcgdkcdlglbigaaSlHv
import Derived.Test.YtcgdkcdlglbigaaSlClone
namespace Go.Proofs.Ytcgdkcdlglbigaa
open Go.Lk Go.Sl Go.Gh
attribute [local irreducible] TK TL TC Th Bk Nx fnPost WA TQ OpQ OpN SpecH Rd Ent IterH RoundH Rb Rp fnPostM
attribute [local irreducible] Fld.addE Fld.addF Fld.befE Fld.befF Fld.inE Fld.remF Fld.first Fld.last Fld.next Fld.prev Fld.ofR Fld.listOf Fld.joinE Fld.joinF renE renG Fld.at Fld.set Fld.place
set_option maxHeartbeats 4000000 in
instance g_keys : Known Try.prog 52 (∀ (p most : Nat) (L : List Nat), SpecH Try.prog 52 #[.pointer (some ⟨p, 0, none⟩)] [GhostAt p most L] (fun q : Option Addr × Nat => .slice q.1 L.length q.2) (fun q => [GhostAt p most L, Vec 31 1 q.1 L.length q.2 (u32s L)])) := ⟨fun p most L => by
  refine spec_of_m Try.func52 rfl Try.ntmps52 rfl [(0, _)] rfl ?_; intro base F l0 hl0; (try simp only [List.cons_append] at hl0); (try simp only [List.nil_append] at hl0); subst hl0
  refine GhostAt.openC fun f K kv pl aK cK bm g => ?_
  have hN := g.N; have hb := g.wf.bound; have hM := g.M
  have hl0 : f.listOf 0 = f.at 0 := listOf_nat' f 0
  have hKl := g.kl
  repeat' (first | refine stm ?_ | refine And.intro ?_ ?_ | (intro e; subst e) | intro _)
  rename_i bg bo c
  rw [hl0]
  have hx : (u32a (f.at 0)).length = (f.at 0).length := by simp [u32a]
  have hfl := g.wf.len_le 0
  refine tc_rangeFunc (xs := u32a (f.at 0)) (own := [SeqC c (f.at 0)]) (R := [FieldAt pl f, MapA .u32 (fun n : Nat => .int .u32 (n : Nat)) bm kv, F]) (fun i => Exs (ι := Option Addr × Nat) fun q => [obj bo 23 [.slice q.1 i q.2], Vec 31 1 q.1 i q.2 (u32s (((f.at 0).take i).map fun n => K.getD n 0)), obj bg 63 [.pointer (some ⟨p, 0, none⟩)], obj p 133 [.int .i64 (most : Nat), .pointer (some ⟨pl, 0, none⟩), .slice (some ⟨aK, 0, none⟩) (most + 1) cK, .map (some bm)], Vec 31 1 (some ⟨aK, 0, none⟩) (most + 1) cK (u32s K)]) (fun _ _ => fact False) (seq_iter c _) rfl (by decide) (by intro a ha; simp only [u32a, List.mem_map] at ha; obtain ⟨_, _, rfl⟩ := ha; rfl) ?_ ?_ ?_ ?_
  · refine Ent.trans ?_ (Ent.exs (none, 0) (Ent.refl _))
    show Ent _ [obj bo 23 [.slice none 0 0], Vec 31 1 none 0 0 [], obj bg 63 [.pointer (some ⟨p, 0, none⟩)], obj p 133 [.int .i64 (most : Nat), .pointer (some ⟨pl, 0, none⟩), .slice (some ⟨aK, 0, none⟩) (most + 1) cK, .map (some bm)], Vec 31 1 (some ⟨aK, 0, none⟩) (most + 1) cK (u32s K), SeqC c (f.at 0), FieldAt pl f, MapA .u32 (fun n : Nat => .int .u32 (n : Nat)) bm kv, F]
    exact en
  · intro lp rec i a hst hpe ha base F
    have hi : i < (f.at 0).length := by rw [← hx]; exact (List.getElem?_eq_some_iff.1 ha).1
    obtain rfl : a = [.int .u32 ((f.at 0).getD i 0 : Nat)] := by rw [u32a_get hi] at ha; exact (Option.some.inj ha).symm
    have hlt : (f.at 0).getD i 0 < most + 1 := g.lt0 (by rw [List.getD_eq_getElem?_getD, List.getElem?_eq_getElem hi]; exact List.getElem_mem hi)
    refine TC.exs (f := fun q : Option Addr × Nat => [obj bo 23 [.slice q.1 i q.2], Vec 31 1 q.1 i q.2 (u32s (((f.at 0).take i).map fun n => K.getD n 0)), obj bg 63 [.pointer (some ⟨p, 0, none⟩)], obj p 133 [.int .i64 (most : Nat), .pointer (some ⟨pl, 0, none⟩), .slice (some ⟨aK, 0, none⟩) (most + 1) cK, .map (some bm)], Vec 31 1 (some ⟨aK, 0, none⟩) (most + 1) cK (u32s K)]) (by (repeat (first | (with_reducible exact Rem.here _ _) | (with_reducible apply Rem.there) | fail)); done) fun ⟨q1, q2⟩ => ?_
    simp only [List.cons_append, List.nil_append, putsE]
    repeat' (first | refine stm ?_ | refine And.intro ?_ ?_ | (intro e; subst e) | intro _)
    refine rb hst ?_
    repeat' (first | ((fail_if_success (refine atD ?_)); refine stm ?_) | refine And.intro ?_ ?_ | (intro e; subst e) | intro _)
    refine drx [obj bo 23 [.slice q1 i q2], Vec 31 1 q1 i q2 (u32s (((f.at 0).take i).map fun n => K.getD n 0))] ?_
    refine tks [1, 5, 2, 3, 4, 6, 7] 4 ?_; repeat' (first | refine stm ?_ | refine And.intro ?_ ?_ | (intro e; exfalso; omega) | (intro e; subst e) | intro _)
    refine hvq 0 8 fun x8 => ?_
    refine hv 9 fun x9 => ?_
    refine hv0 10 fun x10 => ?_
    repeat' (first | refine stm ?_ | refine And.intro ?_ ?_ | (intro e; exfalso; omega) | (intro e; subst e) | intro _)
    refine rp hst hpe ?_
    refine Ent.trans ?_ (b := Exs (ι := Option Addr × Nat) (fun q => [obj bo 23 [.slice q.1 (i + 1) q.2], Vec 31 1 q.1 (i + 1) q.2 (u32s (((f.at 0).take (i + 1)).map fun n => K.getD n 0)), obj bg 63 [.pointer (some ⟨p, 0, none⟩)], obj p 133 [.int .i64 (most : Nat), .pointer (some ⟨pl, 0, none⟩), .slice (some ⟨aK, 0, none⟩) (most + 1) cK, .map (some bm)], Vec 31 1 (some ⟨aK, 0, none⟩) (most + 1) cK (u32s K)]) :: blk lp (.loop rec) :: [F]) en
    refine Ent.exs (x9.1, x9.2) ?_
    have e : u32s (((f.at 0).take i).map fun n => K.getD n 0) ++ [.int .u32 (K.getD ((f.at 0).getD i 0) 0 : Nat)] = u32s (((f.at 0).take (i + 1)).map fun n => K.getD n 0) := by
      rw [List.getD_eq_getElem?_getD (l := f.at 0), List.getElem?_eq_getElem hi]; simp only [u32s, Option.getD_some, ← List.take_append_getElem hi, List.map_append, List.map_cons, List.map_nil]
    rw [← e]
    exact en
  · intro rb
    rw [hx, List.take_length]
    simp only [List.cons_append, List.nil_append]
    refine TK.exs (f := fun q : Option Addr × Nat => [obj bo 23 [.slice q.1 (f.at 0).length q.2], Vec 31 1 q.1 (f.at 0).length q.2 (u32s ((f.at 0).map fun n => K.getD n 0)), obj bg 63 [.pointer (some ⟨p, 0, none⟩)], obj p 133 [.int .i64 (most : Nat), .pointer (some ⟨pl, 0, none⟩), .slice (some ⟨aK, 0, none⟩) (most + 1) cK, .map (some bm)], Vec 31 1 (some ⟨aK, 0, none⟩) (most + 1) cK (u32s K)]) (by (repeat (first | (with_reducible exact Rem.here _ _) | (with_reducible apply Rem.there) | fail)); done) fun ⟨q1, q2⟩ => ?_
    simp only [List.cons_append, List.nil_append]
    rw [← g.eq, ← g.llen]
    repeat' (first | refine stm ?_ | refine And.intro ?_ ?_ | (intro e; subst e) | intro _)
    exact rm1 (q1, q2) rfl (he := en2 (GhostAt.shut g))
  · intro rb i c
    exact tc_factF⟩
instance g_copy : Known Try.prog 63 (∀ (p most : Nat) (L : List Nat), SpecH Try.prog 63 #[.pointer (some ⟨p, 0, none⟩)] [GhostAt p most L] (fun c : Nat => .pointer (some ⟨c, 0, none⟩)) (fun c => [GhostAt p most L, GhostAt c most L])) := ⟨fun p most L => by
  refine spec_of Try.func63 rfl Try.ntmps63 rfl [(0, _)] rfl ?_; intro base F l0 hl0; (try simp only [List.cons_append] at hl0); (try simp only [List.nil_append] at hl0); subst hl0
  refine GhostAt.openC fun f K kv pl aK cK bm g => ?_
  have hN := g.N; have hb := g.wf.bound; have hM := g.M
  have hKl := g.kl
  repeat' (first | ((fail_if_success (refine atD ?_)); refine stm ?_) | refine And.intro ?_ ?_ | (intro e; exfalso; omega) | (intro e; subst e) | intro _)
  refine drx [FieldAt pl f, Vec 31 1 (some ⟨aK, 0, none⟩) (most + 1) cK (u32s K), MapA .u32 (fun n : Nat => .int .u32 (n : Nat)) bm kv] ?_
  refine tks [0, 4, 9, 14, 1, 5, 10, 15, 2, 6, 11, 16, 3, 7, 12, 17] 6 ?_; repeat' (first | refine stm ?_ | refine And.intro ?_ ?_ | (intro e; exfalso; omega) | (intro e; subst e) | intro _)
  refine hv 8 fun x8 => ?_
  refine hv 13 fun x13 => ?_
  refine hv 18 fun x18 => ?_
  refine tks [19] 2 ?_; repeat' (first | refine stm ?_ | refine And.intro ?_ ?_ | (intro e; exfalso; omega) | (intro e; subst e) | intro _)
  refine hv 20 fun x20 => ?_
  refine tks [21] 0 ?_; repeat' (first | refine stm ?_ | refine And.intro ?_ ?_ | (intro e; exfalso; omega) | (intro e; subst e) | intro _)
  refine rt1 x20 rfl ?_
  refine Ent.trans (GhostAt.shut (p := p) (pl := pl) (aK := some ⟨aK, 0, none⟩) (cK := cK) (bm := bm) g |> en2) ?_
  refine Ent.cons (by (repeat (first | (with_reducible exact Rem.here _ _) | (with_reducible apply Rem.there) | fail)); done) ?_
  exact en2 (GhostAt.shut g)⟩
end Go.Proofs.Ytcgdkcdlglbigaa
