/- slices.Collect, walked at the iterator of links: a list of the numbers that it yields. -/
import Derived.Test.YtmiblmoppdgnjaaDoorLkC
import Derived.Test.YtmiblmoppdgnjaaDoorSlEnd2
import Derived.Test.YtmiblmoppdgnjaaDoorSlEqs
namespace Go.Proofs.YtmiblmoppdgnjaaDoor
open Go.Sl Go.Lk
attribute [local irreducible] TK TL TC Th Bk Nx fnPost WA TQ OpQ OpN SpecH Rd Ent IterH RoundH Rb Rp fnPostM
set_option maxHeartbeats 4000000 in
instance fAppendSeq : Known Tryd.prog 53 (∀ (c : Nat) (ns : List Nat), SpecH Tryd.prog 53 #[.slice none 0 0, .func (.func 55) #[] #[.pointer (some ⟨c, 0, none⟩)]] [SeqC c ns] (fun q : Option Addr × Nat => .slice q.1 ns.length q.2) (fun q => [Vec 31 1 q.1 ns.length q.2 (u32s ns)])) := ⟨fun c ns => by
  refine spec_of_m Tryd.func53 rfl Tryd.ntmps53 rfl [(0, _), (1, _)] rfl ?_; intro base F l0 hl0; (try simp only [List.cons_append] at hl0); (try simp only [List.nil_append] at hl0); subst hl0
  refine TC.know (p := ns.length ≤ 4194304) (fun h x => ?_) fun hl => ?_
  · unfold SeqC at x
    obtain ⟨q, y⟩ := exs_out (f := fun q : Option Addr × Nat => [cobj c 36 [.slice q.1 ns.length q.2], RoS 1 q.1 ns.length q.2 (u32s ns), fact (ns.length ≤ 4194304)]) (r := [F]) (.here _ _) x
    exact (lst_fact (lst_drop (lst_drop y))).1
  repeat' (first | refine stx ?_ | refine And.intro ?_ ?_ | (intro e; subst e) | intro _)
  rename_i bo
  have hx : (u32a ns).length = ns.length := by simp [u32a]
  refine tc_rangeFunc (xs := u32a ns) (own := [SeqC c ns]) (R := [F]) (fun i => Exs (ι := Option Addr × Nat) fun q => [obj bo 36 [.slice q.1 i q.2], Vec 31 1 q.1 i q.2 (u32s (ns.take i))]) (fun _ _ => fact False) (seq_iter c _) rfl (by decide) (by intro a ha; simp only [u32a, List.mem_map] at ha; obtain ⟨_, _, rfl⟩ := ha; rfl) ?_ ?_ ?_ ?_
  · refine Ent.trans ?_ (Ent.exs (none, 0) (Ent.refl _))
    show Ent _ [obj bo 36 [.slice none 0 0], Vec 31 1 none 0 0 [], SeqC c ns, F]
    exact en
  · intro lp rec i a hst hpe ha base F
    have hi : i < ns.length := by rw [← hx]; exact (List.getElem?_eq_some_iff.1 ha).1
    obtain rfl : a = [.int .u32 (ns.getD i 0 : Nat)] := by rw [u32a_get hi] at ha; exact (Option.some.inj ha).symm
    refine TC.exs (f := fun q : Option Addr × Nat => [obj bo 36 [.slice q.1 i q.2], Vec 31 1 q.1 i q.2 (u32s (ns.take i))]) (by (repeat (first | (with_reducible exact Rem.here _ _) | (with_reducible apply Rem.there) | fail)); done) fun ⟨q1, q2⟩ => ?_
    simp only [List.cons_append, List.nil_append, putsE]
    repeat' (first | refine stx ?_ | refine And.intro ?_ ?_ | (intro e; subst e) | intro _)
    refine rb hst ?_
    repeat' (first | refine stx ?_ | refine And.intro ?_ ?_ | (intro e; subst e) | intro _)
    rename_i x1 x2 x3
    refine rp hst hpe ?_
    refine Ent.trans ?_ (b := Exs (ι := Option Addr × Nat) (fun q => [obj bo 36 [.slice q.1 (i + 1) q.2], Vec 31 1 q.1 (i + 1) q.2 (u32s (ns.take (i + 1)))]) :: blk lp (.loop rec) :: [F]) en
    refine Ent.exs (x2, x3) ?_
    have e : u32s (ns.take i) ++ [.int .u32 (ns.getD i 0 : Nat)] = u32s (ns.take (i + 1)) := by
      rw [List.getD_eq_getElem?_getD, List.getElem?_eq_getElem hi]; simp only [u32s, Option.getD_some, ← List.take_append_getElem hi, List.map_append, List.map_cons, List.map_nil]
    rw [← e]
    exact en
  · intro rb
    rw [hx, List.take_length]
    simp only [List.cons_append, List.nil_append]
    refine TK.exs (f := fun q : Option Addr × Nat => [obj bo 36 [.slice q.1 ns.length q.2], Vec 31 1 q.1 ns.length q.2 (u32s ns)]) (by (repeat (first | (with_reducible exact Rem.here _ _) | (with_reducible apply Rem.there) | fail)); done) fun ⟨q1, q2⟩ => ?_
    simp only [List.cons_append, List.nil_append]
    repeat' (first | refine stx ?_ | refine And.intro ?_ ?_ | (intro e; subst e) | intro _)
    exact rm1 (q1, q2) rfl
  · intro rb i c
    exact tc_factF⟩
instance fCollect : Known Tryd.prog 40 (∀ (c : Nat) (ns : List Nat), SpecH Tryd.prog 40 #[.func (.func 55) #[] #[.pointer (some ⟨c, 0, none⟩)]] [SeqC c ns] (fun q : Option Addr × Nat => .slice q.1 ns.length q.2) (fun q => [Vec 31 1 q.1 ns.length q.2 (u32s ns)])) := ⟨fun c ns => by
  refine spec_of Tryd.func40 rfl Tryd.ntmps40 rfl [(0, _)] rfl ?_; intro base F l0 hl0; (try simp only [List.cons_append] at hl0); (try simp only [List.nil_append] at hl0); subst hl0
  repeat' (first | refine stx ?_ | refine And.intro ?_ ?_ | (intro e; subst e) | intro _)
  rename_i a cap
  exact rt1 (a, cap) rfl⟩
end Go.Proofs.YtmiblmoppdgnjaaDoor
