/- slices.Backward, walked: an iterator that goes backwards. -/
import Derived.Test.YtbdiabakcgafgaaLkC
import Derived.Test.YtbdiabakcgafgaaSlD
namespace Go.Lk
open Go.Sl
/-- What an iterator that goes backwards yields. -/
def backA (ns : List Nat) : List (List Value) := (List.range ns.length).map fun j => [.int .i64 (ns.length - 1 - j : Nat), .int .u32 (ns.getD (ns.length - 1 - j) 0 : Nat)]
theorem backA_len {ns : List Nat} : (backA ns).length = ns.length := by simp [backA]
theorem backA_get {ns : List Nat} {j : Nat} (h : j < ns.length) : (backA ns)[j]? = some [.int .i64 (ns.length - 1 - j : Nat), .int .u32 (ns.getD (ns.length - 1 - j) 0 : Nat)] := by simp [backA, h]
end Go.Lk
namespace Go.Proofs.Ytbdiabakcgafgaa
open Go.Lk Go.Sl
section
attribute [local irreducible] TK TL TC Th Bk Nx fnPost WA TQ OpQ OpN SpecH Rd Ent IterH RoundH Rb Rp fnPostM
set_option maxHeartbeats 2000000 in
theorem bwd_spec (c : Nat) (a : Option Addr) (cap : Nat) (ns : List Nat) (hns : ns.length ≤ 4194304) :
    IterH Try.prog 88 #[.pointer (some ⟨c, 0, none⟩)] (backA ns) [cobj c 33 [.slice a ns.length cap], RoS 1 a ns.length cap (u32s ns)] := by
  unfold IterH
  intro lp rec I B hst hpe hlen hround
  have e : (#[Value.func (.yield lp) #[] #[]] ++ #[Value.pointer (some ⟨c, 0, none⟩)] : Array Value) = #[.func (.yield lp) #[] #[], .pointer (some ⟨c, 0, none⟩)] := rfl
  rw [e]
  have hx : (backA ns).length = ns.length := backA_len
  refine spec_of Try.func88 rfl Try.ntmps88 rfl [(0, _), (1, _)] rfl ?_; intro base F l0 hl0; (try simp only [List.cons_append] at hl0); (try simp only [List.nil_append] at hl0); subst hl0
  repeat' (first | refine st ?_ | refine And.intro ?_ ?_ | (intro e; subst e) | intro _)
  refine tc_lp [3] (fun e (i : { i : Nat // i ≤ ns.length }) => (3, .int .i64 ((ns.length : Int) - 1 - i.1)) :: e) (fun i => [blk lp (.loop rec), I i.1, cobj c 33 [.slice a ns.length cap], RoS 1 a ns.length cap (u32s ns), F]) (fun i => ns.length - i.1) ⟨0, Nat.zero_le _⟩ ?_ (hs := by
    dsimp only
    rw [show (ns.length : Int) - 1 - ((0 : Nat) : Int) = (ns.length : Int) - 1 by omega]
    (repeat (first | (apply Lps.chg; exact rfl) | fail)); apply Lps.rest; (repeat (first | exact Kept.nil _ | (apply Kept.skip; exact rfl) | (apply Kept.keep; exact rfl) | fail)); done)
  rintro K ⟨i, hi⟩ hK
  dsimp only
  by_cases hlt : i < ns.length
  · refine TC.roAt (by (repeat (first | (with_reducible exact Rem.here _ _) | (with_reducible apply Rem.there) | fail)); done) (by omega) ?_
    rintro b o rfl
    have hg := backA_get hlt
    rw [show (ns.length : Int) - 1 - (i : Int) = ((ns.length - 1 - i : Nat) : Int) by omega]
    have hsz := hlen _ (List.mem_of_getElem? hg)
    have hk : ns.length - 1 - i < ns.length := by omega
    have hr := hround i _ hg
    repeat' (first | refine st ?_ | refine And.intro ?_ ?_ | (intro e; subst e) | intro _)
    refine tl_yield hr (want_none rfl) rfl (by (repeat (first | exact Evs.nil | (apply Evs.cons; exact rfl) | fail)); done) hsz (by (repeat (first | (with_reducible exact Pick.nil _) | (apply Pick.cons; (focus ((repeat (first | (with_reducible exact Rem.here _ _) | (with_reducible apply Rem.there) | fail)); done))) | fail)); done) rfl (Nat.lt_of_ble_eq rfl) ?_
    rintro (_ | cd) l2 rfl
    · simp only [roundL, List.cons_append, List.nil_append]
      repeat' (first | refine st ?_ | refine And.intro ?_ ?_ | (intro e; subst e) | intro _)
      refine hK _ _ ⟨i + 1, by omega⟩ (by dsimp only; omega) ?_ en
      dsimp only
      rw [show (ns.length : Int) - 1 - ((i + 1 : Nat) : Int) = ((ns.length - 1 - i : Nat) : Int) - 1 by omega]
      (repeat (first | exact Sub.nil | (apply Sub.cons; exact rfl))); done
    · simp only [roundL, List.cons_append, List.nil_append]
      repeat' (first | refine st ?_ | refine And.intro ?_ ?_ | (intro e; subst e) | intro _)
      exact rt0 (some (i, cd)) rfl (by simp only [iterL]; (try simp only [List.cons_append, List.nil_append]); repeat (first | (with_reducible exact Ent.refl _) | (with_reducible exact Ent.nil _) | (apply Ent.cons; (focus ((repeat (first | (with_reducible exact Rem.here _ _) | (with_reducible apply Rem.there) | fail)); done)))))
  · have hi' : i = ns.length := by omega
    subst hi'
    repeat' (first | refine st ?_ | refine And.intro ?_ ?_ | (intro e; exfalso; omega) | (intro e; subst e) | intro _)
    exact re0 none rfl (by simp only [iterL, hx]; (try simp only [List.cons_append, List.nil_append]); repeat (first | (with_reducible exact Ent.refl _) | (with_reducible exact Ent.nil _) | (apply Ent.cons; (focus ((repeat (first | (with_reducible exact Rem.here _ _) | (with_reducible apply Rem.there) | fail)); done)))))
end
theorem back_iter (c : Nat) (ns : List Nat) : IterH Try.prog 88 #[.pointer (some ⟨c, 0, none⟩)] (backA ns) [SeqC c ns] := by
  unfold IterH
  intro lp rec I B hst hpe hlen hround
  refine spec_open (α := Option (Nat × Code)) (ι := {q : Option Addr × Nat // ns.length ≤ 4194304}) (pre' := fun q => [blk lp (.loop rec), I 0, cobj c 33 [.slice q.1.1 ns.length q.1.2], RoS 1 q.1.1 ns.length q.1.2 (u32s ns)]) (fun h x => ?_) fun q => ?_
  · obtain ⟨q, y⟩ := exs_out (f := fun q : Option Addr × Nat => [cobj c 33 [.slice q.1 ns.length q.2], RoS 1 q.1 ns.length q.2 (u32s ns), fact (ns.length ≤ 4194304)]) (r := [blk lp (.loop rec), I 0]) (by unfold SeqC at x; exact .there _ (.there _ (.here _ _))) x
    have hn : ns.length ≤ 4194304 := (lst_fact (lst_drop (lst_drop y))).1
    refine ⟨⟨q, hn⟩, ?_⟩
    have e : Ent (cobj c 33 [.slice q.1 ns.length q.2] :: RoS 1 q.1 ns.length q.2 (u32s ns) :: fact (ns.length ≤ 4194304) :: [blk lp (.loop rec), I 0]) [blk lp (.loop rec), I 0, cobj c 33 [.slice q.1 ns.length q.2], RoS 1 q.1 ns.length q.2 (u32s ns)] := en
    exact e _ y
  · have h1 := bwd_spec c q.1.1 q.1.2 ns q.2
    unfold IterH at h1
    refine ⟨_, _, h1 lp rec I B hst hpe hlen hround, fun o => ⟨o, rfl, ?_⟩⟩
    cases o with
    | none =>
      show Ent [blk lp (.loop rec), I (backA ns).length, cobj c 33 [.slice q.1.1 ns.length q.1.2], RoS 1 q.1.1 ns.length q.1.2 (u32s ns)] [blk lp (.loop rec), I (backA ns).length, SeqC c ns]
      unfold SeqC
      refine Ent.cons (.here _ _) (Ent.cons (.here _ _) (Ent.exs q.1 ?_))
      exact Ent.cons (.here _ _) (Ent.cons (.here _ _) (Ent.fact q.2 (Ent.refl _)))
    | some x =>
      show Ent [blk lp (.loop (doneL rec x.2)), B x.1 x.2, cobj c 33 [.slice q.1.1 ns.length q.1.2], RoS 1 q.1.1 ns.length q.1.2 (u32s ns)] [blk lp (.loop (doneL rec x.2)), B x.1 x.2, SeqC c ns]
      unfold SeqC
      refine Ent.cons (.here _ _) (Ent.cons (.here _ _) (Ent.exs q.1 ?_))
      exact Ent.cons (.here _ _) (Ent.cons (.here _ _) (Ent.fact q.2 (Ent.refl _)))
attribute [local irreducible] TK TL TC Th Bk Nx fnPost WA TQ OpQ OpN SpecH Rd Ent IterH RoundH Rb Rp fnPostM
instance fBackward : Known Try.prog 62 (∀ (a : Option Addr) (m cap : Nat) (ns : List Nat), ns.length = m → m ≤ 4194304 → SpecH Try.prog 62 #[.slice a m cap] [RoS 1 a m cap (u32s ns)] (fun c : Nat => .func (.func 88) #[] #[.pointer (some ⟨c, 0, none⟩)]) (fun c => [SeqC c ns])) := ⟨fun a m cap ns hl hm => by
  subst hl
  refine spec_of Try.func62 rfl Try.ntmps62 rfl [(0, _)] rfl ?_; intro base F l0 hl0; (try simp only [List.cons_append] at hl0); (try simp only [List.nil_append] at hl0); subst hl0
  repeat' (first | refine st ?_ | refine And.intro ?_ ?_ | (intro e; subst e) | intro _)
  rename_i b
  refine shr b ?_
  refine rt1 b rfl ?_
  unfold SeqC
  refine Ent.trans (b := cobj b 33 [.slice a ns.length cap] :: RoS 1 a ns.length cap (u32s ns) :: [F]) en ?_
  refine Ent.exs (a, cap) ?_
  exact Ent.cons (.here _ _) (Ent.cons (.here _ _) (Ent.fact hm en))⟩
end Go.Proofs.Ytbdiabakcgafgaa
