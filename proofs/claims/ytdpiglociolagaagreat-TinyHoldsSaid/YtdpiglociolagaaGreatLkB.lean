/- LkB: LkW1, LkW2, LkW3, LkW4, LkW5, LkW6, LkField. -/
import Derived.Test.YtdpiglociolagaaGreatLkA
import Derived.Test.YtdpiglociolagaaGreatSlTypes
/- The inner functions of links, walked: what each computes and leaves. -/
namespace Go.Proofs.YtdpiglociolagaaGreat
open Go.Sl Go.Lk
attribute [local irreducible] TK TL TC Th Bk Nx fnPost WA TQ OpQ OpN SpecH Rd Ent IterH RoundH Rb Rp fnPostM

instance none_spec : Known Tryz.prog 133 (∀ (p : Nat) (v2 v3 : Value) (af : Option Addr) (k c : Nat), SpecH Tryz.prog 133 #[.pointer (some ⟨p, 0, none⟩)] [obj p 184 [.slice af k c, v2, v3]] (fun _ : Unit => .bool af.isNone) (fun _ => [obj p 184 [.slice af k c, v2, v3]])) := ⟨fun p v2 v3 af k c => by
  refine spec_of Tryz.func133 rfl Tryz.ntmps133 rfl [(0, _)] rfl ?_; intro base F l0 hl0; (try simp only [List.cons_append] at hl0); (try simp only [List.nil_append] at hl0); subst hl0
  repeat' (first | refine st ?_ | refine And.intro ?_ ?_ | (intro e; subst e) | intro _)
  exact rt1 () rfl⟩
instance list_spec : Known Tryz.prog 119 (∀ (p : Nat) (s : LS) (b cf : Nat) (al : Option Addr) (cl : Nat) (h : Int), SpecH Tryz.prog 119 #[.pointer (some ⟨p, 0, none⟩), .int .i64 h] [obj p 184 [.slice (some ⟨b, 0, none⟩) (s.N + s.M) cf, .int .i64 s.N, .slice al s.M cl]] (fun _ : Unit => .int .i64 (listE s.M h)) (fun _ => [obj p 184 [.slice (some ⟨b, 0, none⟩) (s.N + s.M) cf, .int .i64 s.N, .slice al s.M cl]])) := ⟨fun p s b cf al cl h => by
  refine spec_of Tryz.func119 rfl Tryz.ntmps119 rfl [(0, _), (1, _)] rfl ?_; intro base F l0 hl0; (try simp only [List.cons_append] at hl0); (try simp only [List.nil_append] at hl0); subst hl0
  repeat' (first | refine st ?_ | refine And.intro ?_ ?_ | (intro e; subst e) | intro _)
  all_goals (refine rt1 () ?_; refine congrArg (Value.int _) ?_; (try unfold listE); (try unfold nodeE); (try unfold inE); (repeat split) <;> omega)⟩
instance node_spec : Known Tryz.prog 135 (∀ (p : Nat) (s : LS) (b cf : Nat) (al : Option Addr) (cl n : Nat), n < 4294967296 → SpecH Tryz.prog 135 #[.pointer (some ⟨p, 0, none⟩), .int .u32 n] [obj p 184 [.slice (some ⟨b, 0, none⟩) (s.N + s.M) cf, .int .i64 s.N, .slice al s.M cl]] (fun _ : Unit => .int .i64 (nodeE s.N n)) (fun _ => [obj p 184 [.slice (some ⟨b, 0, none⟩) (s.N + s.M) cf, .int .i64 s.N, .slice al s.M cl]])) := ⟨fun p s b cf al cl n hn => by
  refine spec_of Tryz.func135 rfl Tryz.ntmps135 rfl [(0, _), (1, _)] rfl ?_; intro base F l0 hl0; (try simp only [List.cons_append] at hl0); (try simp only [List.nil_append] at hl0); subst hl0
  repeat' (first | refine st ?_ | refine And.intro ?_ ?_ | (intro e; subst e) | intro _)
  all_goals (refine rt1 () ?_; refine congrArg (Value.int _) ?_; (try unfold listE); (try unfold nodeE); (try unfold inE); (repeat split) <;> omega)⟩
instance in_spec : Known Tryz.prog 112 (∀ (p : Nat) (s : LS) (b cf : Nat) (al : Option Addr) (cl n : Nat), n < 4294967296 → SpecH Tryz.prog 112 #[.pointer (some ⟨p, 0, none⟩), .int .u32 n] [obj p 184 [.slice (some ⟨b, 0, none⟩) (s.N + s.M) cf, .int .i64 s.N, .slice al s.M cl], Vec 181 3 (some ⟨b, 0, none⟩) (s.N + s.M) cf (encF (s.N + s.M) s.pv s.nx s.of)] (fun _ : Unit => .int .i64 (inE s n)) (fun _ => [obj p 184 [.slice (some ⟨b, 0, none⟩) (s.N + s.M) cf, .int .i64 s.N, .slice al s.M cl], Vec 181 3 (some ⟨b, 0, none⟩) (s.N + s.M) cf (encF (s.N + s.M) s.pv s.nx s.of)])) := ⟨fun p s b cf al cl n hn => by
  refine spec_of Tryz.func112 rfl Tryz.ntmps112 rfl [(0, _), (1, _)] rfl ?_; intro base F l0 hl0; (try simp only [List.cons_append] at hl0); (try simp only [List.nil_append] at hl0); subst hl0
  have h3 : nodeE s.N n = if s.N ≤ n then 2 else 0 := rfl
  repeat' (first | refine st ?_ | refine And.intro ?_ ?_ | (intro e; subst e) | intro _)
  all_goals (refine rt1 () ?_; refine congrArg (Value.int _) ?_; (try unfold listE); (try unfold nodeE); (try unfold inE); (repeat split) <;> omega)⟩
instance ring_spec : Known Tryz.prog 125 (∀ (p N h : Nat) (v1 v3 : Value), N + h < 4294967296 → SpecH Tryz.prog 125 #[.int .i64 h, .pointer (some ⟨p, 0, none⟩)] [obj p 184 [v1, .int .i64 N, v3]] (fun _ : Unit => .int .u32 (N + h : Nat)) (fun _ => [obj p 184 [v1, .int .i64 N, v3]])) := ⟨fun p N h v1 v3 hN => by
  refine spec_of Tryz.func125 rfl Tryz.ntmps125 rfl [(0, _), (1, _)] rfl ?_; intro base F l0 hl0; (try simp only [List.cons_append] at hl0); (try simp only [List.nil_append] at hl0); subst hl0
  repeat' (first | refine st ?_ | refine And.intro ?_ ?_ | (intro e; subst e) | intro _)
  exact rt1 () rfl⟩
instance real_spec : Known Tryz.prog 137 (∀ (p : Nat) (s : LS) (v1 v3 : Value) (n : Nat), n < 4294967296 → SpecH Tryz.prog 137 #[.pointer (some ⟨p, 0, none⟩), .int .u32 n] [obj p 184 [v1, .int .i64 s.N, v3]] (fun _ : Unit => .tuple #[.int .u32 (if s.N ≤ n then 0 else n : Nat), .int .i64 (if s.N ≤ n then 9 else 0)]) (fun _ => [obj p 184 [v1, .int .i64 s.N, v3]])) := ⟨fun p s v1 v3 n hn => by
  refine spec_of Tryz.func137 rfl Tryz.ntmps137 rfl [(0, _), (1, _)] rfl ?_; intro base F l0 hl0; (try simp only [List.cons_append] at hl0); (try simp only [List.nil_append] at hl0); subst hl0
  repeat' (first | refine st ?_ | refine And.intro ?_ ?_ | (intro e; subst e) | intro _)
  all_goals (refine rt2 () ?_; (repeat' split) <;> first | rfl | (exfalso; omega))⟩
end Go.Proofs.YtdpiglociolagaaGreat

/- links, walked: putting, adding, removing. -/
namespace Go.Proofs.YtdpiglociolagaaGreat
open Go.Sl Go.Lk
attribute [local irreducible] TK TL TC Th Bk Nx fnPost WA TQ OpQ OpN SpecH Rd Ent IterH RoundH Rb Rp fnPostM
set_option maxHeartbeats 1000000 in
instance put_spec : Known Tryz.prog 136 (∀ (p : Nat) (s : LS) (b cf b2 cl : Nat) (n o : Nat), s.N + s.M < 4294967296 → n < s.N + s.M → o < s.N + s.M → s.pv o < s.N + s.M → 1 ≤ s.of o → s.of o ≤ s.M → s.ln (s.of o - 1) < 4294967296 →
    SpecH Tryz.prog 136 #[.pointer (some ⟨p, 0, none⟩), .int .u32 n, .int .u32 o] [obj p 184 [.slice (some ⟨b, 0, none⟩) (s.N + s.M) cf, .int .i64 s.N, .slice (some ⟨b2, 0, none⟩) s.M cl], Vec 181 3 (some ⟨b, 0, none⟩) (s.N + s.M) cf (encF (s.N + s.M) s.pv s.nx s.of), Vec 3 1 (some ⟨b2, 0, none⟩) s.M cl (encL s.M s.ln)] (fun _ : Unit => .tuple #[]) (fun _ => [obj p 184 [.slice (some ⟨b, 0, none⟩) (s.N + s.M) cf, .int .i64 s.N, .slice (some ⟨b2, 0, none⟩) s.M cl], Vec 181 3 (some ⟨b, 0, none⟩) (s.N + s.M) cf (encF (s.N + s.M) (putS s n o).pv (putS s n o).nx (putS s n o).of), Vec 3 1 (some ⟨b2, 0, none⟩) s.M cl (encL s.M (putS s n o).ln)])) := ⟨fun p s b cf b2 cl n o hN hn ho hb h1 hM hl => by
  refine spec_of Tryz.func136 rfl Tryz.ntmps136 rfl [(0, _), (1, _), (2, _)] rfl ?_; intro base F l0 hl0; (try simp only [List.cons_append] at hl0); (try simp only [List.nil_append] at hl0); subst hl0
  (repeat refine st ?_)
  refine tail 16 ?_
  (repeat refine st ?_)
  refine dr [obj p 184 [.slice (some ⟨b, 0, none⟩) (s.N + s.M) cf, .int .i64 s.N, .slice (some ⟨b2, 0, none⟩) s.M cl]] ?_
  refine tks [0, 1, 2, 3, 4, 5, 6, 7, 8, 9, 10, 11, 12, 13] 4 ?_
  (repeat refine st ?_)
  refine hv0 14 fun _ => ?_
  refine tks [15, 16] 1 ?_
  (repeat refine st ?_)
  refine hv0 17 fun _ => ?_
  (repeat refine st ?_)
  have e1 : upd s.of n (s.of o) n = s.of o := upd_same _ _ _
  have hl' : s.ln (upd s.of n (s.of o) n - 1) < 4294967296 := by rw [e1]; exact hl
  refine tail 16 ?_
  (repeat refine st ?_)
  rw [e1]
  exact re0 () rfl⟩
set_option maxHeartbeats 2000000 in
instance add_spec : Known Tryz.prog 113 (∀ (p : Nat) (s : LS) (h : Int) (n : Nat) (front : Bool), GoodL s → n < 4294967296 →
    SpecH Tryz.prog 113 #[.pointer (some ⟨p, 0, none⟩), .int .i64 h, .int .u32 n, .bool front] [LinksAt p s] (fun _ : Unit => .int .i64 (addE s h n)) (fun _ => [LinksAt p (addS s h n front)])) := ⟨fun p s h n front g hn => by
  have g1 := g.n1; have g2 := g.n2; have g3 := g.m1; have g4 := g.m2
  refine spec_of Tryz.func113 rfl Tryz.ntmps113 rfl [(0, _), (1, _), (2, _), (3, _)] rfl ?_; intro base F l0 hl0; (try simp only [List.cons_append] at hl0); (try simp only [List.nil_append] at hl0); subst hl0
  refine LinksAt.openC (by omega) (by omega) fun b cf b2 cl => ?_
  have eL : listE s.M h = if h < 0 ∨ (s.M : Int) ≤ h then 2 else 0 := rfl
  have eN : nodeE s.N n = if s.N ≤ n then 2 else 0 := rfl
  have bad : addE s h n ≠ 0 → addS s h n front = s := fun h => if_neg h
  have eA : addE s h n = if h < 0 ∨ (s.M : Int) ≤ h ∨ s.N ≤ n then 2 else if s.of n ≠ 0 then 11 else 0 := rfl
  repeat' (first | refine st ?_ | refine And.intro ?_ ?_ | (intro e; subst e) | intro _)
  · rw [bad (by omega)]; exact rz1 () LinksAt.shut
  · rw [bad (by omega)]; exact rz1 () LinksAt.shut
  · rw [bad (by omega)]; exact rz1 () LinksAt.shut
  obtain ⟨k, rfl⟩ : ∃ k : Nat, h = k := ⟨h.toNat, by omega⟩
  have hk : k < s.M := by omega
  have good : addS s k n front = putS s n (if front then s.nx (s.N + k) else s.N + k) := by unfold addS; rw [if_pos (by omega)]; simp
  have hr := g.ring k hk
  have hpv := g.pv (s.N + k) (by omega)
  have hnx := g.nx (s.N + k) (by omega)
  have hpn := g.pv _ hnx
  have hon := (g.ofp (s.N + k) (by omega) (by omega)).2
  have hom := g.of _ hnx
  have hl1 := g.ln (s.of (s.N + k) - 1)
  have hl2 := g.ln (s.of (s.nx (s.N + k)) - 1)
  rw [good]
  have hl1' : s.ln (s.of (s.N + k) - 1) < 4294967296 := by omega
  have hl2' : s.ln (s.of (s.nx (s.N + k)) - 1) < 4294967296 := by omega
  repeat' (first | refine st ?_ | refine And.intro ?_ ?_ | (intro e; subst e) | intro _)
  · rw [if_pos rfl]; exact rz1 () (LinksAt.shut (s := putS s n (s.nx (s.N + k))))
  · rw [if_neg (by simp)]; exact rz1 () (LinksAt.shut (s := putS s n (s.N + k)))⟩
instance back_spec : Known Tryz.prog 72 (∀ (p : Nat) (s : LS) (h : Int) (n : Nat), GoodL s → n < 4294967296 →
    SpecH Tryz.prog 72 #[.pointer (some ⟨p, 0, none⟩), .int .i64 h, .int .u32 n] [LinksAt p s] (fun _ : Unit => .int .i64 (addE s h n)) (fun _ => [LinksAt p (addS s h n false)])) := ⟨fun p s h n g hn => by
  refine spec_of Tryz.func72 rfl Tryz.ntmps72 rfl [(0, _), (1, _), (2, _)] rfl ?_; intro base F l0 hl0; (try simp only [List.cons_append] at hl0); (try simp only [List.nil_append] at hl0); subst hl0
  repeat' (first | refine st ?_ | refine And.intro ?_ ?_ | (intro e; subst e) | intro _)
  exact rt1 () rfl⟩
def befE (s : LS) (n o : Nat) : Int := if s.N ≤ n ∨ s.N ≤ o then 2 else if s.of n ≠ 0 then 11 else if s.of o = 0 then 9 else 0
end Go.Proofs.YtdpiglociolagaaGreat

/- links, walked: removing. -/
namespace Go.Proofs.YtdpiglociolagaaGreat
open Go.Sl Go.Lk
attribute [local irreducible] TK TL TC Th Bk Nx fnPost WA TQ OpQ OpN SpecH Rd Ent IterH RoundH Rb Rp fnPostM
set_option maxHeartbeats 2000000 in
instance remove_spec : Known Tryz.prog 85 (∀ (p : Nat) (s : LS) (n : Nat), GoodL s → n < 4294967296 → (inE s n = 0 → 1 ≤ s.ln (s.of n - 1)) →
    SpecH Tryz.prog 85 #[.pointer (some ⟨p, 0, none⟩), .int .u32 n] [LinksAt p s] (fun _ : Unit => .int .i64 (inE s n)) (fun _ => [LinksAt p (if inE s n = 0 then remS s n else s)])) := ⟨fun p s n g hn hl => by
  have g1 := g.n1; have g2 := g.n2; have g3 := g.m1; have g4 := g.m2
  refine spec_of Tryz.func85 rfl Tryz.ntmps85 rfl [(0, _), (1, _)] rfl ?_; intro base F l0 hl0; (try simp only [List.cons_append] at hl0); (try simp only [List.nil_append] at hl0); subst hl0
  refine LinksAt.openC (by omega) (by omega) fun b cf b2 cl => ?_
  have eI : inE s n = if s.N ≤ n then 2 else if s.of n = 0 then 9 else 0 := rfl
  repeat' (first | refine st ?_ | refine And.intro ?_ ?_ | (intro e; subst e) | intro _)
  · rw [if_neg (by omega)]; exact rz1 () LinksAt.shut
  have hl := hl (by omega)
  have hpv := g.pv n (by omega)
  have hnx := g.nx n (by omega)
  have hof := g.of n (by omega)
  have hl2 := g.ln (s.of n - 1)
  rw [if_pos (by omega)]
  refine dr [obj _ 181 [.int .u32 (s.pv n), .int .u32 (s.nx n), .int .u32 (s.of n)], obj p 184 [.slice (some ⟨b, 0, none⟩) (s.N + s.M) cf, .int .i64 s.N, .slice (some ⟨b2, 0, none⟩) s.M cl]] ?_
  refine tks [0, 1, 2, 3, 4, 5, 6, 7, 8, 9, 10, 11, 12, 13, 14, 15, 16, 17] 4 ?_
  (repeat refine st ?_)
  refine hv0 18 fun _ => ?_
  refine tks [19, 20] 1 ?_
  (repeat refine st ?_)
  refine hv0 21 fun _ => ?_
  (repeat refine st ?_)
  refine tail 10 ?_
  (repeat refine st ?_)
  rw [show ((s.ln (s.of n - 1) : Nat) : Int) - 1 = ((s.ln (s.of n - 1) - 1 : Nat) : Int) by omega]
  (repeat refine st ?_)
  refine rz1 () ?_
  exact Ent.drop (LinksAt.shut (s := remS s n))⟩
set_option maxHeartbeats 2000000 in
instance first_spec : Known Tryz.prog 121 (∀ (p : Nat) (s : LS) (h : Int), GoodL s → SpecH Tryz.prog 121 #[.pointer (some ⟨p, 0, none⟩), .int .i64 h] [LinksAt p s] (fun _ : Unit => if 0 ≤ h ∧ h < s.M then realV s (s.nx (s.N + h.toNat)) else errV 2) (fun _ => [LinksAt p s])) := ⟨fun p s h g => by
  have g1 := g.n1; have g2 := g.n2; have g3 := g.m1; have g4 := g.m2
  refine spec_of Tryz.func121 rfl Tryz.ntmps121 rfl [(0, _), (1, _)] rfl ?_; intro base F l0 hl0; (try simp only [List.cons_append] at hl0); (try simp only [List.nil_append] at hl0); subst hl0
  refine LinksAt.openC (by omega) (by omega) fun b cf b2 cl => ?_
  have eL : listE s.M h = if h < 0 ∨ (s.M : Int) ≤ h then 2 else 0 := rfl
  repeat' (first | refine st ?_ | refine And.intro ?_ ?_ | (intro e; subst e) | intro _)
  · rw [if_neg (by omega)]; refine rt2 () ?_ LinksAt.shut; rw [show listE s.M h = 2 by omega]; rfl
  obtain ⟨k, rfl⟩ : ∃ k : Nat, h = k := ⟨h.toNat, by omega⟩
  have hn := g.nx (s.N + k) (by omega)
  rw [if_pos (by omega), Int.toNat_natCast]
  repeat' (first | refine st ?_ | refine And.intro ?_ ?_ | (intro e; subst e) | intro _)
  exact rt2 () rfl LinksAt.shut⟩
end Go.Proofs.YtdpiglociolagaaGreat

/- links, walked: what is asked of a field. -/
namespace Go.Proofs.YtdpiglociolagaaGreat
open Go.Sl Go.Lk
attribute [local irreducible] TK TL TC Th Bk Nx fnPost WA TQ OpQ OpN SpecH Rd Ent IterH RoundH Rb Rp fnPostM
set_option maxHeartbeats 2000000 in
instance of_spec : Known Tryz.prog 71 (∀ (p : Nat) (s : LS) (n : Nat), GoodL s → n < 4294967296 → SpecH Tryz.prog 71 #[.pointer (some ⟨p, 0, none⟩), .int .u32 n] [LinksAt p s] (fun _ : Unit => .tuple #[.int .i64 (if inE s n = 0 then s.of n - 1 else 0), .int .i64 (inE s n)]) (fun _ => [LinksAt p s])) := ⟨fun p s n g hn => by
  have g1 := g.n1; have g2 := g.n2; have g3 := g.m1; have g4 := g.m2
  refine spec_of Tryz.func71 rfl Tryz.ntmps71 rfl [(0, _), (1, _)] rfl ?_; intro base F l0 hl0; (try simp only [List.cons_append] at hl0); (try simp only [List.nil_append] at hl0); subst hl0
  refine LinksAt.openC (by omega) (by omega) fun b cf b2 cl => ?_
  have eI : inE s n = if s.N ≤ n then 2 else if s.of n = 0 then 9 else 0 := rfl
  have hof := g.of n
  repeat' (first | refine st ?_ | refine And.intro ?_ ?_ | (intro e; subst e) | intro _)
  · rw [if_neg (by omega)]; exact rt2 () rfl LinksAt.shut
  rw [if_pos (by omega)]
  repeat' (first | refine st ?_ | refine And.intro ?_ ?_ | (intro e; subst e) | intro _)
  refine rt2 () ?_ LinksAt.shut
  rw [show inE s n = 0 by omega]⟩
instance nodes_spec : Known Tryz.prog 116 (∀ (p : Nat) (s : LS), GoodL s → SpecH Tryz.prog 116 #[.pointer (some ⟨p, 0, none⟩)] [LinksAt p s] (fun _ : Unit => .int .i64 (s.N : Nat)) (fun _ => [LinksAt p s])) := ⟨fun p s g => by
  have g1 := g.n1; have g2 := g.n2; have g3 := g.m1; have g4 := g.m2
  refine spec_of Tryz.func116 rfl Tryz.ntmps116 rfl [(0, _)] rfl ?_; intro base F l0 hl0; (try simp only [List.cons_append] at hl0); (try simp only [List.nil_append] at hl0); subst hl0
  refine LinksAt.openC (by omega) (by omega) fun b cf b2 cl => ?_
  repeat' (first | refine st ?_ | refine And.intro ?_ ?_ | (intro e; subst e) | intro _)
  exact rt1 () rfl LinksAt.shut⟩
instance len_spec : Known Tryz.prog 78 (∀ (p : Nat) (s : LS) (h : Int), GoodL s → SpecH Tryz.prog 78 #[.pointer (some ⟨p, 0, none⟩), .int .i64 h] [LinksAt p s] (fun _ : Unit => .int .i64 (if 0 ≤ h ∧ h < s.M then s.ln h.toNat else 0 : Nat)) (fun _ => [LinksAt p s])) := ⟨fun p s h g => by
  have g1 := g.n1; have g2 := g.n2; have g3 := g.m1; have g4 := g.m2
  refine spec_of Tryz.func78 rfl Tryz.ntmps78 rfl [(0, _), (1, _)] rfl ?_; intro base F l0 hl0; (try simp only [List.cons_append] at hl0); (try simp only [List.nil_append] at hl0); subst hl0
  refine LinksAt.openC (by omega) (by omega) fun b cf b2 cl => ?_
  have eL : listE s.M h = if h < 0 ∨ (s.M : Int) ≤ h then 2 else 0 := rfl
  repeat' (first | refine st ?_ | refine And.intro ?_ ?_ | (intro e; subst e) | intro _)
  · rw [if_neg (by omega)]; exact rt1 () rfl LinksAt.shut
  · rw [if_pos (by omega)]; exact rt1 () rfl LinksAt.shut⟩
instance all_none : Known Tryz.prog 103 (∀ (p : Nat) (s : LS) (h : Int), GoodL s → (h < 0 ∨ (s.M : Int) ≤ h) → SpecH Tryz.prog 103 #[.pointer (some ⟨p, 0, none⟩), .int .i64 h] [LinksAt p s] (fun _ : Unit => .slice none 0 0) (fun _ => [LinksAt p s])) := ⟨fun p s h g h1 => by
  have g1 := g.n1; have g2 := g.n2; have g3 := g.m1; have g4 := g.m2
  refine spec_of Tryz.func103 rfl Tryz.ntmps103 rfl [(0, _), (1, _)] rfl ?_; intro base F l0 hl0; (try simp only [List.cons_append] at hl0); (try simp only [List.nil_append] at hl0); subst hl0
  refine LinksAt.openC (by omega) (by omega) fun b cf b2 cl => ?_
  have eL : listE s.M h = if h < 0 ∨ (s.M : Int) ≤ h then 2 else 0 := rfl
  repeat' (first | refine st ?_ | refine And.intro ?_ ?_ | (intro e; subst e) | intro _)
  exact rt1 () rfl LinksAt.shut⟩
end Go.Proofs.YtdpiglociolagaaGreat

/- links, walked: the nodes of a list. -/
namespace Go.Proofs.YtdpiglociolagaaGreat
open Go.Sl Go.Lk
attribute [local irreducible] TK TL TC Th Bk Nx fnPost WA TQ OpQ OpN SpecH Rd Ent IterH RoundH Rb Rp fnPostM
set_option maxHeartbeats 2000000 in
theorem all_some (p : Nat) (s : LS) (g : GoodL s) (k : Nat) (hk : k < s.M) (ns : List Nat) (hf : follows s.nx (s.N + k) (s.nx (s.N + k)) ns) (hlen : ns.length ≤ 4194304) :
    SpecH Tryz.prog 103 #[.pointer (some ⟨p, 0, none⟩), .int .i64 k] [LinksAt p s] (fun q : Option Addr × Nat => .slice q.1 ns.length q.2) (fun q => [LinksAt p s, Vec 41 1 q.1 ns.length q.2 (u32s ns)]) := by
  have g1 := g.n1; have g2 := g.n2; have g3 := g.m1; have g4 := g.m2
  have eL : listE s.M k = 0 := by unfold listE; rw [if_neg (by omega)]
  have hnx := g.nx (s.N + k) (by omega)
  refine spec_of Tryz.func103 rfl Tryz.ntmps103 rfl [(0, _), (1, _)] rfl ?_; intro base F l0 hl0; (try simp only [List.cons_append] at hl0); (try simp only [List.nil_append] at hl0); subst hl0
  refine LinksAt.openC (by omega) (by omega) fun b cf b2 cl => ?_
  repeat' (first | refine st ?_ | refine And.intro ?_ ?_ | (intro e; subst e) | intro _)
  refine tc_lp [6, 7] (fun e (x : { x : (List Nat × List Nat) × Nat × Option Addr × Nat // x.1.1 ++ x.1.2 = ns ∧ follows s.nx (s.N + k) x.2.1 x.1.2 ∧ x.2.1 < s.N + s.M }) => (6, .slice x.1.2.2.1 x.1.1.1.length x.1.2.2.2) :: (7, .int .u32 x.1.2.1) :: e)
    (fun x => [obj p 184 [.slice (some ⟨b, 0, none⟩) (s.N + s.M) cf, .int .i64 s.N, .slice (some ⟨b2, 0, none⟩) s.M cl], Vec 181 3 (some ⟨b, 0, none⟩) (s.N + s.M) cf (encF (s.N + s.M) s.pv s.nx s.of), Vec 3 1 (some ⟨b2, 0, none⟩) s.M cl (encL s.M s.ln), Vec 41 1 x.1.2.2.1 x.1.1.1.length x.1.2.2.2 (u32s x.1.1.1), F])
    (fun x => x.1.1.2.length) ⟨(([], ns), s.nx (s.N + k), none, 0), rfl, hf, hnx⟩ ?_
  rintro K ⟨⟨⟨d, rest⟩, cur, a, cap⟩, h1, h2, h3⟩ hK
  dsimp only at h1 h2 h3 ⊢
  cases rest with
  | nil =>
    have h6 : cur = s.N + k := h2
    subst h6
    simp only [List.append_nil] at h1
    subst h1
    repeat' (first | refine st ?_ | refine And.intro ?_ ?_ | (intro e; subst e) | intro _)
    exact rt1 (a, cap) rfl (en2 LinksAt.shut)
  | cons m rest =>
    obtain ⟨rfl, h6, h7⟩ := h2
    have h8 : (d ++ cur :: rest).length = d.length + 1 + rest.length := by simp; omega
    rw [h1] at h8
    have h9 := g.nx cur h3
    repeat' (first | refine st ?_ | refine And.intro ?_ ?_ | (intro e; subst e) | intro _)
    rename_i qa qc
    have e : u32s d ++ [.int .u32 (cur : Nat)] = u32s (d ++ [cur]) := (u32s_append d [cur]).symm
    rw [e]
    have e2 : d.length + 1 = (d ++ [cur]).length := by simp
    rw [e2]
    exact again hK ⟨((d ++ [cur], rest), s.nx cur, qa, qc), by simp [h1], h7, h9⟩ (by simp)
end Go.Proofs.YtdpiglociolagaaGreat

/- links, walked: an iterator, a new field, a copy. -/
namespace Go.Proofs.YtdpiglociolagaaGreat
open Go.Sl Go.Lk
attribute [local irreducible] TK TL TC Th Bk Nx fnPost WA TQ OpQ OpN SpecH Rd Ent IterH RoundH Rb Rp fnPostM
def u32a (ns : List Nat) : List (List Value) := ns.map fun n => [.int .u32 (n : Nat)]
theorem u32a_get {ns : List Nat} {i : Nat} (h : i < ns.length) : (u32a ns)[i]? = some [.int .u32 (ns.getD i 0 : Nat)] := by simp [u32a, h]
set_option maxHeartbeats 2000000 in
theorem iter_spec (c : Nat) (a : Option Addr) (cap : Nat) (ns : List Nat) (hns : ns.length ≤ 4194304) :
    IterH Tryz.prog 104 #[.pointer (some ⟨c, 0, none⟩)] (u32a ns) [cobj c 27 [.slice a ns.length cap], RoS 1 a ns.length cap (u32s ns)] := by
  unfold IterH
  intro lp rec I B hst hpe hlen hround
  have e : (#[Value.func (.yield lp) #[] #[]] ++ #[Value.pointer (some ⟨c, 0, none⟩)] : Array Value) = #[.func (.yield lp) #[] #[], .pointer (some ⟨c, 0, none⟩)] := rfl
  rw [e]
  have hx : (u32a ns).length = ns.length := by simp [u32a]
  refine spec_of Tryz.func104 rfl Tryz.ntmps104 rfl [(0, _), (1, _)] rfl ?_; intro base F l0 hl0; (try simp only [List.cons_append] at hl0); (try simp only [List.nil_append] at hl0); subst hl0
  repeat' (first | refine st ?_ | refine And.intro ?_ ?_ | (intro e; subst e) | intro _)
  refine tc_lp [7] (fun e (i : { i : Nat // i ≤ ns.length }) => (7, .int .i64 i.1) :: e) (fun i => [blk lp (.loop rec), I i.1, cobj c 27 [.slice a ns.length cap], RoS 1 a ns.length cap (u32s ns), F]) (fun i => ns.length - i.1) ⟨0, Nat.zero_le _⟩ ?_
  rintro K ⟨i, hi⟩ hK
  dsimp only
  by_cases hlt : i < ns.length
  · refine TC.roAt (by (repeat (first | (with_reducible exact Rem.here _ _) | (with_reducible apply Rem.there) | fail)); done) (by omega) ?_
    rintro b o rfl
    have hsz := hlen [.int .u32 (ns.getD i 0 : Nat)] (List.mem_of_getElem? (u32a_get hlt))
    repeat' (first | refine st ?_ | refine And.intro ?_ ?_ | (intro e; subst e) | intro _)
    refine tl_yield (hround i [.int .u32 (ns.getD i 0 : Nat)] (u32a_get hlt)) (want_none rfl) rfl (by (repeat (first | exact Evs.nil | (apply Evs.cons; exact rfl) | fail)); done) hsz (by (repeat (first | (with_reducible exact Pick.nil _) | (apply Pick.cons; (focus ((repeat (first | (with_reducible exact Rem.here _ _) | (with_reducible apply Rem.there) | fail)); done))) | fail)); done) rfl (Nat.lt_of_ble_eq rfl) ?_
    rintro (_ | cd) l2 rfl
    · simp only [roundL, List.cons_append, List.nil_append]
      repeat' (first | refine st ?_ | refine And.intro ?_ ?_ | (intro e; subst e) | intro _)
      exact again hK ⟨i + 1, by omega⟩
    · simp only [roundL, List.cons_append, List.nil_append]
      repeat' (first | refine st ?_ | refine And.intro ?_ ?_ | (intro e; subst e) | intro _)
      exact rt0 (some (i, cd)) rfl (by simp only [iterL]; (try simp only [List.cons_append, List.nil_append]); repeat (first | (with_reducible exact Ent.refl _) | (with_reducible exact Ent.nil _) | (apply Ent.cons; (focus ((repeat (first | (with_reducible exact Rem.here _ _) | (with_reducible apply Rem.there) | fail)); done)))))
  · have hi' : i = ns.length := by omega
    subst hi'
    repeat' (first | refine st ?_ | refine And.intro ?_ ?_ | (intro e; subst e) | intro _)
    exact re0 none rfl (by simp only [iterL, hx]; (try simp only [List.cons_append, List.nil_append]); repeat (first | (with_reducible exact Ent.refl _) | (with_reducible exact Ent.nil _) | (apply Ent.cons; (focus ((repeat (first | (with_reducible exact Rem.here _ _) | (with_reducible apply Rem.there) | fail)); done)))))
set_option maxHeartbeats 2000000 in
instance new_bad : Known Tryz.prog 88 (∀ (nodes heads : Int), (nodes < 1 ∨ 4194304 < nodes ∨ heads < 1 ∨ 4096 < heads) → SpecH Tryz.prog 88 #[.int .i64 nodes, .int .i64 heads] [] (fun _ : Unit => .tuple #[.pointer none, .int .i64 2]) (fun _ => [])) := ⟨fun nodes heads h => by
  refine spec_of Tryz.func88 rfl Tryz.ntmps88 rfl [(0, _), (1, _)] rfl ?_; intro base F l0 hl0; (try simp only [List.cons_append] at hl0); (try simp only [List.nil_append] at hl0); subst hl0
  repeat' (first | refine st ?_ | refine And.intro ?_ ?_ | (intro e; subst e) | intro _)
  all_goals first | exact rt2 () rfl | (exfalso; omega)⟩
theorem encF_init' (K : Nat) : rows K (fun _ => [(.int .u32 0 : Value), .int .u32 0, .int .u32 0]) = encF K (fun _ => 0) (fun _ => 0) (fun _ => 0) := rfl
set_option maxHeartbeats 2000000 in
instance new_spec : Known Tryz.prog 88 (∀ (N M : Nat), 1 ≤ N → N ≤ 4194304 → 1 ≤ M → M ≤ 4096 → SpecH Tryz.prog 88 #[.int .i64 N, .int .i64 M] [] (fun p : Nat => .tuple #[.pointer (some ⟨p, 0, none⟩), .int .i64 0]) (fun p => [LinksAt p (newS N M M)])) := ⟨fun N M g1 g2 g3 g4 => by
  refine spec_of Tryz.func88 rfl Tryz.ntmps88 rfl [(0, _), (1, _)] rfl ?_; intro base F l0 hl0; (try simp only [List.cons_append] at hl0); (try simp only [List.nil_append] at hl0); subst hl0
  repeat' (first | refine st ?_ | refine And.intro ?_ ?_ | (intro e; subst e) | intro _)
  refine cut (ι := Nat × Nat × Nat) (fun q => [(0, .int .i64 N), (1, .int .i64 M), (6, .pointer (some ⟨q.1, 0, none⟩))])
    (fun q => [obj q.1 184 [.slice (some ⟨q.2.1, 0, none⟩) (N + M) (N + M), .int .i64 N, .slice (some ⟨q.2.2, 0, none⟩) M M], Vec 181 3 (some ⟨q.2.1, 0, none⟩) (N + M) (N + M) (rows (N + M) fun _ => [.int .u32 0, .int .u32 0, .int .u32 0]), Vec 3 1 (some ⟨q.2.2, 0, none⟩) M M (rows M fun _ => [.int .i64 0]), F]) ?_ ?_
  · intro K hK
    refine dr [] ?_
    refine tks [0, 1, 2, 4, 5] 5 ?_
    repeat' (first | refine st ?_ | refine And.intro ?_ ?_ | (intro e; subst e) | intro _)
    refine hv2 3 6 (fun b => ?_) (fun b2 => ?_)
    · refine hv 6 fun b2 => ?_
      refine tks [7] 2 ?_
      repeat' (first | refine st ?_ | refine And.intro ?_ ?_ | (intro e; subst e) | intro _)
      refine hv 8 fun p => ?_
      refine tks [9] 0 ?_
      repeat' (first | refine st ?_ | refine And.intro ?_ ?_ | (intro e; subst e) | intro _)
      exact fin hK (p, b, b2)
    · refine hv 3 fun b => ?_
      refine tks [7] 2 ?_
      repeat' (first | refine st ?_ | refine And.intro ?_ ?_ | (intro e; subst e) | intro _)
      refine hv 8 fun p => ?_
      refine tks [9] 0 ?_
      repeat' (first | refine st ?_ | refine And.intro ?_ ?_ | (intro e; subst e) | intro _)
      exact fin hK (p, b, b2)
  · rintro ⟨p, b, b2⟩
    dsimp only
    repeat' (first | refine st ?_ | refine And.intro ?_ ?_ | (intro e; subst e) | intro _)
    refine tc_lp [33] (fun e (k : {k : Nat // k ≤ M}) => (33, .int .i64 k.1) :: e)
      (fun k => [obj p 184 [.slice (some ⟨b, 0, none⟩) (N + M) (N + M), .int .i64 N, .slice (some ⟨b2, 0, none⟩) M M], Vec 181 3 (some ⟨b, 0, none⟩) (N + M) (N + M) (encF (N + M) (newS N M k.1).pv (newS N M k.1).nx (newS N M k.1).of), Vec 3 1 (some ⟨b2, 0, none⟩) M M (encL M (fun _ => 0)), F]) (fun k => M - k.1) ⟨0, by omega⟩ ?_ (hl := by rw [encF_init', newS_zero]; (try simp only [List.cons_append, List.nil_append]); (repeat (first | (with_reducible exact Ent.refl _) | (with_reducible exact Ent.nil _) | (apply Ent.fact; (focus (first | assumption | omega | decide | exact rfl | fail))) | (apply Ent.keep; (focus ((repeat (first | (with_reducible exact Rem.here _ _) | (with_reducible apply Rem.there) | fail)); done)); (focus (infer_instance))) | (apply Ent.cons; (focus ((repeat (first | (with_reducible exact Rem.here _ _) | (with_reducible apply Rem.there) | fail)); done))) | exact Ent.refl _ | exact Ent.nil _ | apply Ent.vecNil | apply Ent.roNil | fail)); done)
    rintro K ⟨k, hk⟩ hK
    dsimp only
    repeat' (first | refine st ?_ | refine And.intro ?_ ?_ | (intro e; subst e) | intro _)
    · have hk' : k < M := by omega
      rw [newS_succ hk']
      exact again hK ⟨k + 1, by omega⟩
    · obtain rfl : k = M := by omega
      exact rt2 p rfl (LinksAt.shut (s := newS N k k))⟩
end Go.Proofs.YtdpiglociolagaaGreat

/- links, walked: the exported calls on a field in plain terms. -/
namespace Go.Proofs.YtdpiglociolagaaGreat
open Go.Sl Go.Lk

def FieldAt (p : Nat) (f : Fld) : HP := fun h => ∃ s, Repr s f ∧ LinksAt p s h
theorem spec_open {ι α β : Type} {P : Program} {fn : FuncId} {args : Array Value} {pre : List HP} {pre' : ι → List HP} {val : β → Value} {post : β → List HP} (hop : ∀ h, lst pre h → ∃ i, lst (pre' i) h)
    (hs : ∀ i, ∃ (val' : α → Value) (post' : α → List HP), SpecH P fn args (pre' i) val' post' ∧ ∀ x, ∃ y, val' x = val y ∧ Ent (post' x) (post y)) : SpecH P fn args pre val post := fun base F w hw => by
  obtain ⟨h0, hf, hl⟩ := hw.heap
  obtain ⟨a, b, hd, hj, ha, hb⟩ := lst_unflat hl
  obtain ⟨i, hi⟩ := hop a ha
  obtain ⟨val', post', hsp, hx⟩ := hs i
  refine (hsp base F w ⟨hw.os, hw.tape, hw.output, h0, hf, lst_flat ⟨a, b, hd, hj, hi, hb⟩⟩).mono ?_
  rintro e w' ⟨x, rfl, hw'⟩
  obtain ⟨y, h1, h2⟩ := hx x
  exact ⟨y, by rw [h1], hw'.ent (h2.append [F])⟩
theorem FieldAt.openL {p : Nat} {f : Fld} {h : Hp} (x : lst [FieldAt p f] h) : ∃ q : {s : LS // Repr s f}, lst [LinksAt p q.1] h := by
  obtain ⟨a, b, hd, rfl, ⟨s, r, hs⟩, hb⟩ := x
  exact ⟨⟨s, r⟩, a, b, hd, rfl, hs, hb⟩
theorem FieldAt.shut {p : Nat} {s : LS} {f : Fld} {l : List HP} (r : Repr s f) : Ent (LinksAt p s :: l) (FieldAt p f :: l) := fun _ x => lst_cons_mono (fun _ y => ⟨s, r, y⟩) (fun _ y => y) x
theorem field_q {P : Program} {fn : FuncId} {args : Array Value} {p : Nat} {f f' : Fld} {v : Value} (h : ∀ s, Repr s f → ∃ v' s', SpecH P fn args [LinksAt p s] (fun _ : Unit => v') (fun _ => [LinksAt p s']) ∧ v' = v ∧ Repr s' f') : SpecH P fn args [FieldAt p f] (fun _ : Unit => v) (fun _ => [FieldAt p f']) :=
  spec_open (fun _ => FieldAt.openL) fun ⟨s, r⟩ => by
    obtain ⟨v', s', h1, h2, h3⟩ := h s r
    exact ⟨_, _, h1, fun x => ⟨x, h2, FieldAt.shut h3⟩⟩
def resV (q : Nat × Int) : Value := .tuple #[.int .u32 (q.1 : Nat), .int .i64 q.2]
theorem realV_none {s : LS} {m : Nat} (h : s.N ≤ m) : realV s m = resV (Fld.res none) := by unfold realV resV Fld.res; simp only [if_pos h]
theorem realV_some {s : LS} {m : Nat} (h : m < s.N) : realV s m = resV (Fld.res (some m)) := by unfold realV resV Fld.res; simp only [if_neg (Nat.not_le_of_lt h)]
section
variable {p : Nat} {f : Fld}
instance (priority := high) fNodes : Known Tryz.prog 116 (∀ (p : Nat) (f : Fld), SpecH Tryz.prog 116 #[.pointer (some ⟨p, 0, none⟩)] [FieldAt p f] (fun _ : Unit => .int .i64 (f.N : Nat)) (fun _ => [FieldAt p f])) := ⟨fun p f  => field_q fun s r => ⟨_, s, nodes_spec.out p s r.good, by rw [r.N], r⟩⟩
instance (priority := high) fLen : Known Tryz.prog 78 (∀ (p : Nat) (f : Fld) (h : Int), SpecH Tryz.prog 78 #[.pointer (some ⟨p, 0, none⟩), .int .i64 h] [FieldAt p f] (fun _ : Unit => .int .i64 ((f.listOf h).length : Nat)) (fun _ => [FieldAt p f])) := ⟨fun p f h => field_q fun s r => ⟨_, s, len_spec.out p s h r.good, by
  congr 2
  unfold Fld.listOf
  by_cases h1 : 0 ≤ h
  · rw [if_pos h1]
    by_cases h2 : h < s.M
    · rw [if_pos ⟨h1, h2⟩, r.ln]
    · rw [if_neg (fun x => h2 x.2), r.at_big (by omega)]; rfl
  · rw [if_neg h1, if_neg (fun x => h1 x.1)]; rfl, r⟩⟩
instance (priority := high) fFirst : Known Tryz.prog 121 (∀ (p : Nat) (f : Fld) (h : Int), SpecH Tryz.prog 121 #[.pointer (some ⟨p, 0, none⟩), .int .i64 h] [FieldAt p f] (fun _ : Unit => resV (f.first h)) (fun _ => [FieldAt p f])) := ⟨fun p f h => field_q fun s r => ⟨_, s, first_spec.out p s h r.good, by
  unfold Fld.first
  by_cases h1 : 0 ≤ h ∧ h < s.M
  · rw [if_pos h1, if_pos (r.headM.2 h1)]
    have hs := r.seg h.toNat (by omega)
    have hlt := fun n => r.lt (h := h.toNat) (n := n) (by omega)
    cases hl : f.at h.toNat with
    | nil => rw [hl] at hs; rw [hs.1]; exact realV_none (by omega)
    | cons a l => rw [hl] at hs hlt; rw [hs.1.1]; exact realV_some (hlt a (by simp))
  · rw [if_neg h1, if_neg (fun x => h1 (r.headM.1 x))]; rfl, r⟩⟩
instance (priority := high) fOf : Known Tryz.prog 71 (∀ (p : Nat) (f : Fld) (xn : Int) (n : Nat) [NatI xn n], n < 4294967296 → SpecH Tryz.prog 71 #[.pointer (some ⟨p, 0, none⟩), .int .u32 xn] [FieldAt p f] (fun _ : Unit => .tuple #[.int .i64 ((f.ofR n).1 : Nat), .int .i64 (f.ofR n).2]) (fun _ => [FieldAt p f])) := ⟨fun p f xn n _ hn => by
  obtain rfl : xn = (n : Int) := NatI.out
  exact field_q fun s r => ⟨_, s, of_spec.out p s n r.good hn, by
  rw [r.inE]
  unfold Fld.ofR
  by_cases h1 : f.inE n = 0
  · obtain ⟨h2, h, i, hp⟩ := r.in0 h1
    have ho := r.of_place (n := n) (by rw [r.N]; exact h2)
    rw [hp] at ho
    dsimp only at ho
    rw [if_pos h1, h1, if_neg (by omega), hp, ho]
    dsimp only
    rw [show ((h + 1 : Nat) : Int) - 1 = (h : Int) by omega]
  · rw [if_neg h1]
    unfold Fld.inE at h1 ⊢
    by_cases h2 : f.N ≤ n
    · rw [if_pos h2, if_pos h2]; rfl
    · rw [if_neg h2] at h1; rw [if_neg h2, if_neg h2]
      cases hp : f.place n with
      | none => rfl
      | some q => rw [if_neg (by rw [hp]; simp)] at h1; exact absurd rfl h1, r⟩⟩
instance (priority := high) fBack : Known Tryz.prog 72 (∀ (p : Nat) (f : Fld) (h : Int) (xn : Int) (n : Nat) [NatI xn n], n < 4294967296 → SpecH Tryz.prog 72 #[.pointer (some ⟨p, 0, none⟩), .int .i64 h, .int .u32 xn] [FieldAt p f] (fun _ : Unit => .int .i64 (f.addE h n)) (fun _ => [FieldAt p (f.addF h n false)])) := ⟨fun p f h xn n _ hn => by
  obtain rfl : xn = (n : Int) := NatI.out
  exact field_q fun s r => ⟨_, _, back_spec.out p s h n r.good hn, by rw [r.addE], r.addF h n false⟩⟩
instance (priority := high) fRemove : Known Tryz.prog 85 (∀ (p : Nat) (f : Fld) (xn : Int) (n : Nat) [NatI xn n], n < 4294967296 → SpecH Tryz.prog 85 #[.pointer (some ⟨p, 0, none⟩), .int .u32 xn] [FieldAt p f] (fun _ : Unit => .int .i64 (f.inE n)) (fun _ => [FieldAt p (f.remF n)])) := ⟨fun p f xn n _ hn => by
  obtain rfl : xn = (n : Int) := NatI.out
  exact field_q fun s r => ⟨_, _, remove_spec.out p s n r.good hn (fun e => r.lnPos n (by rw [← r.inE]; exact e)), by rw [r.inE], by rw [r.inE]; exact r.remF n⟩⟩
theorem _root_.Go.Lk.Repr.listOf_bad {s : LS} {f : Fld} (r : Repr s f) {h : Int} (h1 : h < 0 ∨ (s.M : Int) ≤ h) : f.listOf h = [] := by
  unfold Fld.listOf
  by_cases h2 : 0 ≤ h
  · rw [if_pos h2]; exact r.at_big (by omega)
  · rw [if_neg h2]
theorem _root_.Go.Lk.Repr.listOf_good {s : LS} {f : Fld} (r : Repr s f) {k : Nat} (h1 : k < s.M) : follows s.nx (s.N + k) (s.nx (s.N + k)) (f.listOf k) ∧ (f.listOf k).length ≤ 4194304 := by
  unfold Fld.listOf
  rw [if_pos (by omega), Int.toNat_natCast]
  exact ⟨follows_seg (r.seg k h1) (fun hm => by have := r.lt h1 hm; omega), by have := r.len_le k; have := r.n2; omega⟩
instance (priority := high) fall : Known Tryz.prog 103 (∀ (p : Nat) (f : Fld) (h : Int), SpecH Tryz.prog 103 #[.pointer (some ⟨p, 0, none⟩), .int .i64 h] [FieldAt p f] (fun q : Option Addr × Nat => .slice q.1 (f.listOf h).length q.2) (fun q => [FieldAt p f, Vec 41 1 q.1 (f.listOf h).length q.2 (u32s (f.listOf h))])) := ⟨fun p f h => spec_open (α := Option Addr × Nat) (fun _ => FieldAt.openL) fun ⟨s, r⟩ => by
  by_cases h1 : h < 0 ∨ (s.M : Int) ≤ h
  · rw [r.listOf_bad h1]
    refine ⟨_, _, ?_, fun q => ⟨(none, 0), rfl, (FieldAt.shut r).trans (Ent.cons (Rem.here _ _) (Ent.vecNil (Ent.refl _)))⟩⟩
    intro base F w hw
    exact (all_none.out p s h r.good h1 base F w hw).mono fun e w' ⟨x, h2, h3⟩ => ⟨(none, 0), h2, h3⟩
  · obtain ⟨k, rfl⟩ : ∃ k : Nat, h = k := ⟨h.toNat, by omega⟩
    obtain ⟨h2, h3⟩ := r.listOf_good (k := k) (by omega)
    exact ⟨_, _, all_some p s r.good k (by omega) _ h2 h3, fun q => ⟨q, rfl, FieldAt.shut r⟩⟩⟩
instance (priority := high) fNew : Known Tryz.prog 88 (∀ (xN : Int) (N : Nat) [NatI xN N] (xM : Int) (M : Nat) [NatI xM M], 1 ≤ N → N ≤ 4194304 → 1 ≤ M → M ≤ 4096 → SpecH Tryz.prog 88 #[.int .i64 xN, .int .i64 xM] [] (fun p : Nat => .tuple #[.pointer (some ⟨p, 0, none⟩), .int .i64 0]) (fun p => [FieldAt p ⟨N, List.replicate M []⟩])) := ⟨fun xN N _ xM M _ g1 g2 g3 g4 => by
  obtain rfl : xN = (N : Int) := NatI.out
  obtain rfl : xM = (M : Int) := NatI.out
  exact spec_open (ι := Unit) (pre' := fun _ => []) (fun _ h => ⟨(), h⟩) fun _ => ⟨_, _, new_spec.out N M g1 g2 g3 g4, fun p => ⟨p, rfl, FieldAt.shut (repr_new g1 g2 g3 g4)⟩⟩⟩
end
end Go.Proofs.YtdpiglociolagaaGreat
