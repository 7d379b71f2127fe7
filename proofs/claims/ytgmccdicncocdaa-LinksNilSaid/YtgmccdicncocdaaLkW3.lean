/- links, walked: removing. -/
import Derived.Test.YtgmccdicncocdaaLkW1
namespace Go.Proofs.Ytgmccdicncocdaa
open Go.Sl Go.Lk
attribute [local irreducible] TK TL TC Th Bk Nx fnPost WA TQ OpQ OpN SpecH Rd Ent IterH RoundH Rb Rp fnPostM
set_option maxHeartbeats 2000000 in
instance remove_spec : Known Try.prog 15 (∀ (p : Nat) (s : LS) (n : Nat), GoodL s → n < 4294967296 → (inE s n = 0 → 1 ≤ s.ln (s.of n - 1)) →
    SpecH Try.prog 15 #[.pointer (some ⟨p, 0, none⟩), .int .u32 n] [LinksAt p s] (fun _ : Unit => .int .i64 (inE s n)) (fun _ => [LinksAt p (if inE s n = 0 then remS s n else s)])) := ⟨fun p s n g hn hl => by
  have g1 := g.n1; have g2 := g.n2; have g3 := g.m1; have g4 := g.m2
  refine spec_of Try.func15 rfl Try.ntmps15 rfl [(0, _), (1, _)] rfl ?_; intro base F l0 hl0; (try simp only [List.cons_append] at hl0); (try simp only [List.nil_append] at hl0); subst hl0
  refine LinksAt.openC (by omega) (by omega) fun b cf b2 cl => ?_
  have eI : inE s n = if s.N ≤ n then 2 else if s.of n = 0 then 9 else 0 := rfl
  repeat' (first | refine st ?_ | refine And.intro ?_ ?_ | (intro e; subst e) | intro _)
  · rw [if_neg (by omega)]; exact rz1 () LinksAt.shut
  have hl := hl (by omega)
  have hpv := g.pv n (by omega)
  have hnx := g.nx n (by omega)
  have hof := g.of n (by omega)
  have hl2 := g.ln (s.of n - 1)
  rw [if_pos (by omega)]
  refine dr [obj _ 77 [.int .u32 (s.pv n), .int .u32 (s.nx n), .int .u32 (s.of n)], obj p 69 [.slice (some ⟨b, 0, none⟩) (s.N + s.M) cf, .int .i64 s.N, .slice (some ⟨b2, 0, none⟩) s.M cl]] ?_
  refine tks [0, 1, 2, 3, 4, 5, 6, 7, 8, 9, 10, 11, 12, 13, 14, 15, 16, 17] 4 ?_
  (repeat refine st ?_)
  refine hv0 18 fun _ => ?_
  refine tks [19, 20] 1 ?_
  (repeat refine st ?_)
  refine hv0 21 fun _ => ?_
  (repeat refine st ?_)
  refine tail 10 ?_
  (repeat refine st ?_)
  rw [show ((s.ln (s.of n - 1) : Nat) : Int) - 1 = ((s.ln (s.of n - 1) - 1 : Nat) : Int) by omega]
  (repeat refine st ?_)
  refine rz1 () ?_
  exact Ent.drop (LinksAt.shut (s := remS s n))⟩
set_option maxHeartbeats 2000000 in
instance first_spec : Known Try.prog 19 (∀ (p : Nat) (s : LS) (h : Int), GoodL s → SpecH Try.prog 19 #[.pointer (some ⟨p, 0, none⟩), .int .i64 h] [LinksAt p s] (fun _ : Unit => if 0 ≤ h ∧ h < s.M then realV s (s.nx (s.N + h.toNat)) else errV 2) (fun _ => [LinksAt p s])) := ⟨fun p s h g => by
  have g1 := g.n1; have g2 := g.n2; have g3 := g.m1; have g4 := g.m2
  refine spec_of Try.func19 rfl Try.ntmps19 rfl [(0, _), (1, _)] rfl ?_; intro base F l0 hl0; (try simp only [List.cons_append] at hl0); (try simp only [List.nil_append] at hl0); subst hl0
  refine LinksAt.openC (by omega) (by omega) fun b cf b2 cl => ?_
  have eL : listE s.M h = if h < 0 ∨ (s.M : Int) ≤ h then 2 else 0 := rfl
  repeat' (first | refine st ?_ | refine And.intro ?_ ?_ | (intro e; subst e) | intro _)
  · rw [if_neg (by omega)]; refine rt2 () ?_ LinksAt.shut; rw [show listE s.M h = 2 by omega]; rfl
  obtain ⟨k, rfl⟩ : ∃ k : Nat, h = k := ⟨h.toNat, by omega⟩
  have hn := g.nx (s.N + k) (by omega)
  rw [if_pos (by omega), Int.toNat_natCast]
  repeat' (first | refine st ?_ | refine And.intro ?_ ?_ | (intro e; subst e) | intro _)
  exact rt2 () rfl LinksAt.shut⟩
set_option maxHeartbeats 2000000 in
instance last_spec : Known Try.prog 33 (∀ (p : Nat) (s : LS) (h : Int), GoodL s → SpecH Try.prog 33 #[.pointer (some ⟨p, 0, none⟩), .int .i64 h] [LinksAt p s] (fun _ : Unit => if 0 ≤ h ∧ h < s.M then realV s (s.pv (s.N + h.toNat)) else errV 2) (fun _ => [LinksAt p s])) := ⟨fun p s h g => by
  have g1 := g.n1; have g2 := g.n2; have g3 := g.m1; have g4 := g.m2
  refine spec_of Try.func33 rfl Try.ntmps33 rfl [(0, _), (1, _)] rfl ?_; intro base F l0 hl0; (try simp only [List.cons_append] at hl0); (try simp only [List.nil_append] at hl0); subst hl0
  refine LinksAt.openC (by omega) (by omega) fun b cf b2 cl => ?_
  have eL : listE s.M h = if h < 0 ∨ (s.M : Int) ≤ h then 2 else 0 := rfl
  repeat' (first | refine st ?_ | refine And.intro ?_ ?_ | (intro e; subst e) | intro _)
  · rw [if_neg (by omega)]; refine rt2 () ?_ LinksAt.shut; rw [show listE s.M h = 2 by omega]; rfl
  obtain ⟨k, rfl⟩ : ∃ k : Nat, h = k := ⟨h.toNat, by omega⟩
  have hn := g.pv (s.N + k) (by omega)
  rw [if_pos (by omega), Int.toNat_natCast]
  repeat' (first | refine st ?_ | refine And.intro ?_ ?_ | (intro e; subst e) | intro _)
  exact rt2 () rfl LinksAt.shut⟩
end Go.Proofs.Ytgmccdicncocdaa
