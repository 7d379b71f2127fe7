/- The laws of links, walked: what an iterator yields. -/
import Derived.Test.YtgmccdicncocdaaLkW7
import Derived.Test.YtgmccdicncocdaaSlEnds
namespace Go.Proofs.Ytgmccdicncocdaa
open Go.Sl Go.Lk
attribute [local irreducible] TK TL TC Th Bk Nx fnPost WA TQ OpQ OpN SpecH Rd Ent IterH RoundH Rb Rp fnPostM
instance gives_spec : Known Try.prog 21 (∀ (a b c d : Int), SpecH Try.prog 21 #[.int .u32 a, .int .i64 b, .int .u32 c, .int .i64 d] [] (fun _ : Unit => .bool (decide (a = c ∧ b = d))) (fun _ => [])) := ⟨fun a b c d => by
  refine spec_of Try.func21 rfl Try.ntmps21 rfl [(0, _), (1, _), (2, _), (3, _)] rfl ?_; intro base F l0 hl0; (try simp only [List.cons_append] at hl0); (try simp only [List.nil_append] at hl0); subst hl0
  repeat' (first | refine st ?_ | refine And.intro ?_ ?_ | (intro e; subst e) | intro _)
  all_goals (refine rt1 () ?_; congr 1; simp_all)⟩
set_option maxHeartbeats 4000000 in
instance collect_spec : Known Try.prog 29 (∀ (p : Nat) (f : Fld) (h : Int), (f.listOf h).length ≤ 5000 → SpecH Try.prog 29 #[.pointer (some ⟨p, 0, none⟩), .int .i64 h] [FieldAt p f] (fun q : Option Addr × Nat => .slice q.1 (f.listOf h).length q.2) (fun q => [FieldAt p f, Vec 35 1 q.1 (f.listOf h).length q.2 (u32s (f.listOf h))])) := ⟨fun p f h hl => by
  refine spec_of_m Try.func29 rfl Try.ntmps29 rfl [(0, _), (1, _)] rfl ?_; intro base F l0 hl0; (try simp only [List.cons_append] at hl0); (try simp only [List.nil_append] at hl0); subst hl0
  repeat' (first | refine st ?_ | refine And.intro ?_ ?_ | (intro e; subst e) | intro _)
  rename_i bo c
  have hx : (u32a (f.listOf h)).length = (f.listOf h).length := by simp [u32a]
  refine tc_rangeFunc (xs := u32a (f.listOf h)) (own := [SeqC c (f.listOf h)]) (R := [FieldAt p f, F]) (fun i => Exs (ι := Option Addr × Nat) fun q => [obj bo 22 [.slice q.1 i q.2], Vec 35 1 q.1 i q.2 (u32s ((f.listOf h).take i))]) (fun _ _ => fact False) (seq_iter c _) rfl (by decide) (by intro a ha; simp only [u32a, List.mem_map] at ha; obtain ⟨_, _, rfl⟩ := ha; rfl) ?_ ?_ ?_ ?_
  · refine Ent.trans ?_ (Ent.exs (none, 0) (Ent.refl _))
    show Ent _ [obj bo 22 [.slice none 0 0], Vec 35 1 none 0 0 [], SeqC c (f.listOf h), FieldAt p f, F]
    exact en
  · intro lp rec i a hst hpe ha base F
    have hi : i < (f.listOf h).length := by rw [← hx]; exact (List.getElem?_eq_some_iff.1 ha).1
    obtain rfl : a = [.int .u32 ((f.listOf h).getD i 0 : Nat)] := by rw [u32a_get hi] at ha; exact (Option.some.inj ha).symm
    refine TC.exs (f := fun q : Option Addr × Nat => [obj bo 22 [.slice q.1 i q.2], Vec 35 1 q.1 i q.2 (u32s ((f.listOf h).take i))]) (by (repeat (first | (with_reducible exact Rem.here _ _) | (with_reducible apply Rem.there) | fail)); done) fun ⟨q1, q2⟩ => ?_
    simp only [List.cons_append, List.nil_append, putsE]
    repeat' (first | refine st ?_ | refine And.intro ?_ ?_ | (intro e; subst e) | intro _)
    refine rb hst ?_
    repeat' (first | refine st ?_ | refine And.intro ?_ ?_ | (intro e; subst e) | intro _)
    rename_i x1 x2 x3
    refine rp hst hpe ?_
    refine Ent.trans ?_ (b := Exs (ι := Option Addr × Nat) (fun q => [obj bo 22 [.slice q.1 (i + 1) q.2], Vec 35 1 q.1 (i + 1) q.2 (u32s ((f.listOf h).take (i + 1)))]) :: blk lp (.loop rec) :: [F]) en
    refine Ent.exs (x2, x3) ?_
    have e : u32s ((f.listOf h).take i) ++ [.int .u32 ((f.listOf h).getD i 0 : Nat)] = u32s ((f.listOf h).take (i + 1)) := by
      rw [List.getD_eq_getElem?_getD, List.getElem?_eq_getElem hi]; simp only [u32s, Option.getD_some, ← List.take_append_getElem hi, List.map_append, List.map_cons, List.map_nil]
    rw [← e]
    exact en
  · intro rb
    rw [hx, List.take_length]
    simp only [List.cons_append, List.nil_append]
    refine TK.exs (f := fun q : Option Addr × Nat => [obj bo 22 [.slice q.1 (f.listOf h).length q.2], Vec 35 1 q.1 (f.listOf h).length q.2 (u32s (f.listOf h))]) (by (repeat (first | (with_reducible exact Rem.here _ _) | (with_reducible apply Rem.there) | fail)); done) fun ⟨q1, q2⟩ => ?_
    simp only [List.cons_append, List.nil_append]
    repeat' (first | refine st ?_ | refine And.intro ?_ ?_ | (intro e; subst e) | intro _)
    exact rm1 (q1, q2) rfl
  · intro rb i c
    exact tc_factF⟩
end Go.Proofs.Ytgmccdicncocdaa
