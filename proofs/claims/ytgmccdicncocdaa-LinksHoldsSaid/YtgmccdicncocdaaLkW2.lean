/- links, walked: putting, adding, removing. -/
import Derived.Test.YtgmccdicncocdaaLkW1
namespace Go.Proofs.Ytgmccdicncocdaa
open Go.Sl Go.Lk
attribute [local irreducible] TK TL TC Th Bk Nx fnPost WA TQ OpQ OpN SpecH Rd Ent IterH RoundH Rb Rp fnPostM
set_option maxHeartbeats 1000000 in
instance put_spec : Known Try.prog 50 (∀ (p : Nat) (s : LS) (b cf b2 cl : Nat) (n o : Nat), s.N + s.M < 4294967296 → n < s.N + s.M → o < s.N + s.M → s.pv o < s.N + s.M → 1 ≤ s.of o → s.of o ≤ s.M → s.ln (s.of o - 1) < 4294967296 →
    SpecH Try.prog 50 #[.pointer (some ⟨p, 0, none⟩), .int .u32 n, .int .u32 o] [obj p 69 [.slice (some ⟨b, 0, none⟩) (s.N + s.M) cf, .int .i64 s.N, .slice (some ⟨b2, 0, none⟩) s.M cl], Vec 77 3 (some ⟨b, 0, none⟩) (s.N + s.M) cf (encF (s.N + s.M) s.pv s.nx s.of), Vec 3 1 (some ⟨b2, 0, none⟩) s.M cl (encL s.M s.ln)] (fun _ : Unit => .tuple #[]) (fun _ => [obj p 69 [.slice (some ⟨b, 0, none⟩) (s.N + s.M) cf, .int .i64 s.N, .slice (some ⟨b2, 0, none⟩) s.M cl], Vec 77 3 (some ⟨b, 0, none⟩) (s.N + s.M) cf (encF (s.N + s.M) (putS s n o).pv (putS s n o).nx (putS s n o).of), Vec 3 1 (some ⟨b2, 0, none⟩) s.M cl (encL s.M (putS s n o).ln)])) := ⟨fun p s b cf b2 cl n o hN hn ho hb h1 hM hl => by
  refine spec_of Try.func50 rfl Try.ntmps50 rfl [(0, _), (1, _), (2, _)] rfl ?_; intro base F l0 hl0; (try simp only [List.cons_append] at hl0); (try simp only [List.nil_append] at hl0); subst hl0
  (repeat refine st ?_)
  refine tail 16 ?_
  (repeat refine st ?_)
  refine dr [obj p 69 [.slice (some ⟨b, 0, none⟩) (s.N + s.M) cf, .int .i64 s.N, .slice (some ⟨b2, 0, none⟩) s.M cl]] ?_
  refine tks [0, 1, 2, 3, 4, 5, 6, 7, 8, 9, 10, 11, 12, 13] 4 ?_
  (repeat refine st ?_)
  refine hv0 14 fun _ => ?_
  refine tks [15, 16] 1 ?_
  (repeat refine st ?_)
  refine hv0 17 fun _ => ?_
  (repeat refine st ?_)
  have e1 : upd s.of n (s.of o) n = s.of o := upd_same _ _ _
  have hl' : s.ln (upd s.of n (s.of o) n - 1) < 4294967296 := by rw [e1]; exact hl
  refine tail 16 ?_
  (repeat refine st ?_)
  rw [e1]
  exact re0 () rfl⟩
set_option maxHeartbeats 2000000 in
instance add_spec : Known Try.prog 42 (∀ (p : Nat) (s : LS) (h : Int) (n : Nat) (front : Bool), GoodL s → n < 4294967296 →
    SpecH Try.prog 42 #[.pointer (some ⟨p, 0, none⟩), .int .i64 h, .int .u32 n, .bool front] [LinksAt p s] (fun _ : Unit => .int .i64 (addE s h n)) (fun _ => [LinksAt p (addS s h n front)])) := ⟨fun p s h n front g hn => by
  have g1 := g.n1; have g2 := g.n2; have g3 := g.m1; have g4 := g.m2
  refine spec_of Try.func42 rfl Try.ntmps42 rfl [(0, _), (1, _), (2, _), (3, _)] rfl ?_; intro base F l0 hl0; (try simp only [List.cons_append] at hl0); (try simp only [List.nil_append] at hl0); subst hl0
  refine LinksAt.openC (by omega) (by omega) fun b cf b2 cl => ?_
  have eL : listE s.M h = if h < 0 ∨ (s.M : Int) ≤ h then 2 else 0 := rfl
  have eN : nodeE s.N n = if s.N ≤ n then 2 else 0 := rfl
  have bad : addE s h n ≠ 0 → addS s h n front = s := fun h => if_neg h
  have eA : addE s h n = if h < 0 ∨ (s.M : Int) ≤ h ∨ s.N ≤ n then 2 else if s.of n ≠ 0 then 11 else 0 := rfl
  repeat' (first | refine st ?_ | refine And.intro ?_ ?_ | (intro e; subst e) | intro _)
  · rw [bad (by omega)]; exact rz1 () LinksAt.shut
  · rw [bad (by omega)]; exact rz1 () LinksAt.shut
  · rw [bad (by omega)]; exact rz1 () LinksAt.shut
  obtain ⟨k, rfl⟩ : ∃ k : Nat, h = k := ⟨h.toNat, by omega⟩
  have hk : k < s.M := by omega
  have good : addS s k n front = putS s n (if front then s.nx (s.N + k) else s.N + k) := by unfold addS; rw [if_pos (by omega)]; simp
  have hr := g.ring k hk
  have hpv := g.pv (s.N + k) (by omega)
  have hnx := g.nx (s.N + k) (by omega)
  have hpn := g.pv _ hnx
  have hon := (g.ofp (s.N + k) (by omega) (by omega)).2
  have hom := g.of _ hnx
  have hl1 := g.ln (s.of (s.N + k) - 1)
  have hl2 := g.ln (s.of (s.nx (s.N + k)) - 1)
  rw [good]
  have hl1' : s.ln (s.of (s.N + k) - 1) < 4294967296 := by omega
  have hl2' : s.ln (s.of (s.nx (s.N + k)) - 1) < 4294967296 := by omega
  repeat' (first | refine st ?_ | refine And.intro ?_ ?_ | (intro e; subst e) | intro _)
  · rw [if_pos rfl]; exact rz1 () (LinksAt.shut (s := putS s n (s.nx (s.N + k))))
  · rw [if_neg (by simp)]; exact rz1 () (LinksAt.shut (s := putS s n (s.N + k)))⟩
instance front_spec : Known Try.prog 16 (∀ (p : Nat) (s : LS) (h : Int) (n : Nat), GoodL s → n < 4294967296 →
    SpecH Try.prog 16 #[.pointer (some ⟨p, 0, none⟩), .int .i64 h, .int .u32 n] [LinksAt p s] (fun _ : Unit => .int .i64 (addE s h n)) (fun _ => [LinksAt p (addS s h n true)])) := ⟨fun p s h n g hn => by
  refine spec_of Try.func16 rfl Try.ntmps16 rfl [(0, _), (1, _), (2, _)] rfl ?_; intro base F l0 hl0; (try simp only [List.cons_append] at hl0); (try simp only [List.nil_append] at hl0); subst hl0
  repeat' (first | refine st ?_ | refine And.intro ?_ ?_ | (intro e; subst e) | intro _)
  exact rt1 () rfl⟩
instance back_spec : Known Try.prog 13 (∀ (p : Nat) (s : LS) (h : Int) (n : Nat), GoodL s → n < 4294967296 →
    SpecH Try.prog 13 #[.pointer (some ⟨p, 0, none⟩), .int .i64 h, .int .u32 n] [LinksAt p s] (fun _ : Unit => .int .i64 (addE s h n)) (fun _ => [LinksAt p (addS s h n false)])) := ⟨fun p s h n g hn => by
  refine spec_of Try.func13 rfl Try.ntmps13 rfl [(0, _), (1, _), (2, _)] rfl ?_; intro base F l0 hl0; (try simp only [List.cons_append] at hl0); (try simp only [List.nil_append] at hl0); subst hl0
  repeat' (first | refine st ?_ | refine And.intro ?_ ?_ | (intro e; subst e) | intro _)
  exact rt1 () rfl⟩
def befE (s : LS) (n o : Nat) : Int := if s.N ≤ n ∨ s.N ≤ o then 2 else if s.of n ≠ 0 then 11 else if s.of o = 0 then 9 else 0
def befS (s : LS) (n o : Nat) : LS := if befE s n o = 0 then putS s n o else s
set_option maxHeartbeats 2000000 in
instance before_spec : Known Try.prog 23 (∀ (p : Nat) (s : LS) (n o : Nat), GoodL s → n < 4294967296 → o < 4294967296 →
    SpecH Try.prog 23 #[.pointer (some ⟨p, 0, none⟩), .int .u32 n, .int .u32 o] [LinksAt p s] (fun _ : Unit => .int .i64 (befE s n o)) (fun _ => [LinksAt p (befS s n o)])) := ⟨fun p s n o g hn ho => by
  have g1 := g.n1; have g2 := g.n2; have g3 := g.m1; have g4 := g.m2
  refine spec_of Try.func23 rfl Try.ntmps23 rfl [(0, _), (1, _), (2, _)] rfl ?_; intro base F l0 hl0; (try simp only [List.cons_append] at hl0); (try simp only [List.nil_append] at hl0); subst hl0
  refine LinksAt.openC (by omega) (by omega) fun b cf b2 cl => ?_
  have eN : nodeE s.N n = if s.N ≤ n then 2 else 0 := rfl
  have eO : nodeE s.N o = if s.N ≤ o then 2 else 0 := rfl
  have eB : befE s n o = if s.N ≤ n ∨ s.N ≤ o then 2 else if s.of n ≠ 0 then 11 else if s.of o = 0 then 9 else 0 := rfl
  have bad : befE s n o ≠ 0 → befS s n o = s := fun h => if_neg h
  repeat' (first | refine st ?_ | refine And.intro ?_ ?_ | (intro e; subst e) | intro _)
  · rw [bad (by omega)]; exact rz1 () LinksAt.shut
  · rw [bad (by omega)]; exact rz1 () LinksAt.shut
  · rw [bad (by omega)]; exact rz1 () LinksAt.shut
  · rw [bad (by omega)]; exact rz1 () LinksAt.shut
  have good : befS s n o = putS s n o := if_pos (by omega)
  have hpv := g.pv o (by omega)
  have hom := g.of o (by omega)
  have hl1 := g.ln (s.of o - 1)
  rw [good]
  repeat' (first | refine st ?_ | refine And.intro ?_ ?_ | (intro e; subst e) | intro _)
  exact rz1 () (LinksAt.shut (s := putS s n o))⟩
end Go.Proofs.Ytgmccdicncocdaa
