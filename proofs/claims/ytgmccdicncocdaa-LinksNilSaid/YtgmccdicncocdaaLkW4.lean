/- links, walked: what is asked of a field. -/
import Derived.Test.YtgmccdicncocdaaLkW1
namespace Go.Proofs.Ytgmccdicncocdaa
open Go.Sl Go.Lk
attribute [local irreducible] TK TL TC Th Bk Nx fnPost WA TQ OpQ OpN SpecH Rd Ent IterH RoundH Rb Rp fnPostM
set_option maxHeartbeats 2000000 in
instance next_spec : Known Try.prog 20 (∀ (p : Nat) (s : LS) (n : Nat), GoodL s → n < 4294967296 → SpecH Try.prog 20 #[.pointer (some ⟨p, 0, none⟩), .int .u32 n] [LinksAt p s] (fun _ : Unit => if inE s n = 0 then realV s (s.nx n) else errV (inE s n)) (fun _ => [LinksAt p s])) := ⟨fun p s n g hn => by
  have g1 := g.n1; have g2 := g.n2; have g3 := g.m1; have g4 := g.m2
  refine spec_of Try.func20 rfl Try.ntmps20 rfl [(0, _), (1, _)] rfl ?_; intro base F l0 hl0; (try simp only [List.cons_append] at hl0); (try simp only [List.nil_append] at hl0); subst hl0
  refine LinksAt.openC (by omega) (by omega) fun b cf b2 cl => ?_
  have eI : inE s n = if s.N ≤ n then 2 else if s.of n = 0 then 9 else 0 := rfl
  repeat' (first | refine st ?_ | refine And.intro ?_ ?_ | (intro e; subst e) | intro _)
  · rw [if_neg (by omega)]; exact rt2 () rfl LinksAt.shut
  have hn := g.nx n (by omega)
  rw [if_pos (by omega)]
  repeat' (first | refine st ?_ | refine And.intro ?_ ?_ | (intro e; subst e) | intro _)
  exact rt2 () rfl LinksAt.shut⟩
set_option maxHeartbeats 2000000 in
instance prev_spec : Known Try.prog 34 (∀ (p : Nat) (s : LS) (n : Nat), GoodL s → n < 4294967296 → SpecH Try.prog 34 #[.pointer (some ⟨p, 0, none⟩), .int .u32 n] [LinksAt p s] (fun _ : Unit => if inE s n = 0 then realV s (s.pv n) else errV (inE s n)) (fun _ => [LinksAt p s])) := ⟨fun p s n g hn => by
  have g1 := g.n1; have g2 := g.n2; have g3 := g.m1; have g4 := g.m2
  refine spec_of Try.func34 rfl Try.ntmps34 rfl [(0, _), (1, _)] rfl ?_; intro base F l0 hl0; (try simp only [List.cons_append] at hl0); (try simp only [List.nil_append] at hl0); subst hl0
  refine LinksAt.openC (by omega) (by omega) fun b cf b2 cl => ?_
  have eI : inE s n = if s.N ≤ n then 2 else if s.of n = 0 then 9 else 0 := rfl
  repeat' (first | refine st ?_ | refine And.intro ?_ ?_ | (intro e; subst e) | intro _)
  · rw [if_neg (by omega)]; exact rt2 () rfl LinksAt.shut
  have hn := g.pv n (by omega)
  rw [if_pos (by omega)]
  repeat' (first | refine st ?_ | refine And.intro ?_ ?_ | (intro e; subst e) | intro _)
  exact rt2 () rfl LinksAt.shut⟩
set_option maxHeartbeats 2000000 in
instance of_spec : Known Try.prog 35 (∀ (p : Nat) (s : LS) (n : Nat), GoodL s → n < 4294967296 → SpecH Try.prog 35 #[.pointer (some ⟨p, 0, none⟩), .int .u32 n] [LinksAt p s] (fun _ : Unit => .tuple #[.int .i64 (if inE s n = 0 then s.of n - 1 else 0), .int .i64 (inE s n)]) (fun _ => [LinksAt p s])) := ⟨fun p s n g hn => by
  have g1 := g.n1; have g2 := g.n2; have g3 := g.m1; have g4 := g.m2
  refine spec_of Try.func35 rfl Try.ntmps35 rfl [(0, _), (1, _)] rfl ?_; intro base F l0 hl0; (try simp only [List.cons_append] at hl0); (try simp only [List.nil_append] at hl0); subst hl0
  refine LinksAt.openC (by omega) (by omega) fun b cf b2 cl => ?_
  have eI : inE s n = if s.N ≤ n then 2 else if s.of n = 0 then 9 else 0 := rfl
  have hof := g.of n
  repeat' (first | refine st ?_ | refine And.intro ?_ ?_ | (intro e; subst e) | intro _)
  · rw [if_neg (by omega)]; exact rt2 () rfl LinksAt.shut
  rw [if_pos (by omega)]
  repeat' (first | refine st ?_ | refine And.intro ?_ ?_ | (intro e; subst e) | intro _)
  refine rt2 () ?_ LinksAt.shut
  rw [show inE s n = 0 by omega]⟩
instance nodes_spec : Known Try.prog 17 (∀ (p : Nat) (s : LS), GoodL s → SpecH Try.prog 17 #[.pointer (some ⟨p, 0, none⟩)] [LinksAt p s] (fun _ : Unit => .int .i64 (s.N : Nat)) (fun _ => [LinksAt p s])) := ⟨fun p s g => by
  have g1 := g.n1; have g2 := g.n2; have g3 := g.m1; have g4 := g.m2
  refine spec_of Try.func17 rfl Try.ntmps17 rfl [(0, _)] rfl ?_; intro base F l0 hl0; (try simp only [List.cons_append] at hl0); (try simp only [List.nil_append] at hl0); subst hl0
  refine LinksAt.openC (by omega) (by omega) fun b cf b2 cl => ?_
  repeat' (first | refine st ?_ | refine And.intro ?_ ?_ | (intro e; subst e) | intro _)
  exact rt1 () rfl LinksAt.shut⟩
instance heads_spec : Known Try.prog 18 (∀ (p : Nat) (s : LS), GoodL s → SpecH Try.prog 18 #[.pointer (some ⟨p, 0, none⟩)] [LinksAt p s] (fun _ : Unit => .int .i64 (s.M : Nat)) (fun _ => [LinksAt p s])) := ⟨fun p s g => by
  have g1 := g.n1; have g2 := g.n2; have g3 := g.m1; have g4 := g.m2
  refine spec_of Try.func18 rfl Try.ntmps18 rfl [(0, _)] rfl ?_; intro base F l0 hl0; (try simp only [List.cons_append] at hl0); (try simp only [List.nil_append] at hl0); subst hl0
  refine LinksAt.openC (by omega) (by omega) fun b cf b2 cl => ?_
  repeat' (first | refine st ?_ | refine And.intro ?_ ?_ | (intro e; subst e) | intro _)
  exact rt1 () rfl LinksAt.shut⟩
instance len_spec : Known Try.prog 22 (∀ (p : Nat) (s : LS) (h : Int), GoodL s → SpecH Try.prog 22 #[.pointer (some ⟨p, 0, none⟩), .int .i64 h] [LinksAt p s] (fun _ : Unit => .int .i64 (if 0 ≤ h ∧ h < s.M then s.ln h.toNat else 0 : Nat)) (fun _ => [LinksAt p s])) := ⟨fun p s h g => by
  have g1 := g.n1; have g2 := g.n2; have g3 := g.m1; have g4 := g.m2
  refine spec_of Try.func22 rfl Try.ntmps22 rfl [(0, _), (1, _)] rfl ?_; intro base F l0 hl0; (try simp only [List.cons_append] at hl0); (try simp only [List.nil_append] at hl0); subst hl0
  refine LinksAt.openC (by omega) (by omega) fun b cf b2 cl => ?_
  have eL : listE s.M h = if h < 0 ∨ (s.M : Int) ≤ h then 2 else 0 := rfl
  repeat' (first | refine st ?_ | refine And.intro ?_ ?_ | (intro e; subst e) | intro _)
  · rw [if_neg (by omega)]; exact rt1 () rfl LinksAt.shut
  · rw [if_pos (by omega)]; exact rt1 () rfl LinksAt.shut⟩
instance all_none : Known Try.prog 43 (∀ (p : Nat) (s : LS) (h : Int), GoodL s → (h < 0 ∨ (s.M : Int) ≤ h) → SpecH Try.prog 43 #[.pointer (some ⟨p, 0, none⟩), .int .i64 h] [LinksAt p s] (fun _ : Unit => .slice none 0 0) (fun _ => [LinksAt p s])) := ⟨fun p s h g h1 => by
  have g1 := g.n1; have g2 := g.n2; have g3 := g.m1; have g4 := g.m2
  refine spec_of Try.func43 rfl Try.ntmps43 rfl [(0, _), (1, _)] rfl ?_; intro base F l0 hl0; (try simp only [List.cons_append] at hl0); (try simp only [List.nil_append] at hl0); subst hl0
  refine LinksAt.openC (by omega) (by omega) fun b cf b2 cl => ?_
  have eL : listE s.M h = if h < 0 ∨ (s.M : Int) ≤ h then 2 else 0 := rfl
  repeat' (first | refine st ?_ | refine And.intro ?_ ?_ | (intro e; subst e) | intro _)
  exact rt1 () rfl LinksAt.shut⟩
end Go.Proofs.Ytgmccdicncocdaa
