/- The inner functions of links, walked: what each computes and leaves. -/
import Derived.Test.YtgmccdicncocdaaLkData
import Derived.Test.YtgmccdicncocdaaSlTypes
namespace Go.Proofs.Ytgmccdicncocdaa
open Go.Sl Go.Lk
attribute [local irreducible] TK TL TC Th Bk Nx fnPost WA TQ OpQ OpN SpecH Rd Ent IterH RoundH Rb Rp fnPostM

instance none_spec : Known Try.prog 46 (∀ (p : Nat) (v2 v3 : Value) (af : Option Addr) (k c : Nat), SpecH Try.prog 46 #[.pointer (some ⟨p, 0, none⟩)] [obj p 69 [.slice af k c, v2, v3]] (fun _ : Unit => .bool af.isNone) (fun _ => [obj p 69 [.slice af k c, v2, v3]])) := ⟨fun p v2 v3 af k c => by
  refine spec_of Try.func46 rfl Try.ntmps46 rfl [(0, _)] rfl ?_; intro base F l0 hl0; (try simp only [List.cons_append] at hl0); (try simp only [List.nil_append] at hl0); subst hl0
  repeat' (first | refine st ?_ | refine And.intro ?_ ?_ | (intro e; subst e) | intro _)
  exact rt1 () rfl⟩
instance list_spec : Known Try.prog 47 (∀ (p : Nat) (s : LS) (b cf : Nat) (al : Option Addr) (cl : Nat) (h : Int), SpecH Try.prog 47 #[.pointer (some ⟨p, 0, none⟩), .int .i64 h] [obj p 69 [.slice (some ⟨b, 0, none⟩) (s.N + s.M) cf, .int .i64 s.N, .slice al s.M cl]] (fun _ : Unit => .int .i64 (listE s.M h)) (fun _ => [obj p 69 [.slice (some ⟨b, 0, none⟩) (s.N + s.M) cf, .int .i64 s.N, .slice al s.M cl]])) := ⟨fun p s b cf al cl h => by
  refine spec_of Try.func47 rfl Try.ntmps47 rfl [(0, _), (1, _)] rfl ?_; intro base F l0 hl0; (try simp only [List.cons_append] at hl0); (try simp only [List.nil_append] at hl0); subst hl0
  repeat' (first | refine st ?_ | refine And.intro ?_ ?_ | (intro e; subst e) | intro _)
  all_goals (refine rt1 () ?_; refine congrArg (Value.int _) ?_; (try unfold listE); (try unfold nodeE); (try unfold inE); (repeat split) <;> omega)⟩
instance node_spec : Known Try.prog 49 (∀ (p : Nat) (s : LS) (b cf : Nat) (al : Option Addr) (cl n : Nat), n < 4294967296 → SpecH Try.prog 49 #[.pointer (some ⟨p, 0, none⟩), .int .u32 n] [obj p 69 [.slice (some ⟨b, 0, none⟩) (s.N + s.M) cf, .int .i64 s.N, .slice al s.M cl]] (fun _ : Unit => .int .i64 (nodeE s.N n)) (fun _ => [obj p 69 [.slice (some ⟨b, 0, none⟩) (s.N + s.M) cf, .int .i64 s.N, .slice al s.M cl]])) := ⟨fun p s b cf al cl n hn => by
  refine spec_of Try.func49 rfl Try.ntmps49 rfl [(0, _), (1, _)] rfl ?_; intro base F l0 hl0; (try simp only [List.cons_append] at hl0); (try simp only [List.nil_append] at hl0); subst hl0
  repeat' (first | refine st ?_ | refine And.intro ?_ ?_ | (intro e; subst e) | intro _)
  all_goals (refine rt1 () ?_; refine congrArg (Value.int _) ?_; (try unfold listE); (try unfold nodeE); (try unfold inE); (repeat split) <;> omega)⟩
instance in_spec : Known Try.prog 45 (∀ (p : Nat) (s : LS) (b cf : Nat) (al : Option Addr) (cl n : Nat), n < 4294967296 → SpecH Try.prog 45 #[.pointer (some ⟨p, 0, none⟩), .int .u32 n] [obj p 69 [.slice (some ⟨b, 0, none⟩) (s.N + s.M) cf, .int .i64 s.N, .slice al s.M cl], Vec 77 3 (some ⟨b, 0, none⟩) (s.N + s.M) cf (encF (s.N + s.M) s.pv s.nx s.of)] (fun _ : Unit => .int .i64 (inE s n)) (fun _ => [obj p 69 [.slice (some ⟨b, 0, none⟩) (s.N + s.M) cf, .int .i64 s.N, .slice al s.M cl], Vec 77 3 (some ⟨b, 0, none⟩) (s.N + s.M) cf (encF (s.N + s.M) s.pv s.nx s.of)])) := ⟨fun p s b cf al cl n hn => by
  refine spec_of Try.func45 rfl Try.ntmps45 rfl [(0, _), (1, _)] rfl ?_; intro base F l0 hl0; (try simp only [List.cons_append] at hl0); (try simp only [List.nil_append] at hl0); subst hl0
  have h3 : nodeE s.N n = if s.N ≤ n then 2 else 0 := rfl
  repeat' (first | refine st ?_ | refine And.intro ?_ ?_ | (intro e; subst e) | intro _)
  all_goals (refine rt1 () ?_; refine congrArg (Value.int _) ?_; (try unfold listE); (try unfold nodeE); (try unfold inE); (repeat split) <;> omega)⟩
instance ring_spec : Known Try.prog 36 (∀ (p N h : Nat) (v1 v3 : Value), N + h < 4294967296 → SpecH Try.prog 36 #[.int .i64 h, .pointer (some ⟨p, 0, none⟩)] [obj p 69 [v1, .int .i64 N, v3]] (fun _ : Unit => .int .u32 (N + h : Nat)) (fun _ => [obj p 69 [v1, .int .i64 N, v3]])) := ⟨fun p N h v1 v3 hN => by
  refine spec_of Try.func36 rfl Try.ntmps36 rfl [(0, _), (1, _)] rfl ?_; intro base F l0 hl0; (try simp only [List.cons_append] at hl0); (try simp only [List.nil_append] at hl0); subst hl0
  repeat' (first | refine st ?_ | refine And.intro ?_ ?_ | (intro e; subst e) | intro _)
  exact rt1 () rfl⟩
instance real_spec : Known Try.prog 48 (∀ (p : Nat) (s : LS) (v1 v3 : Value) (n : Nat), n < 4294967296 → SpecH Try.prog 48 #[.pointer (some ⟨p, 0, none⟩), .int .u32 n] [obj p 69 [v1, .int .i64 s.N, v3]] (fun _ : Unit => .tuple #[.int .u32 (if s.N ≤ n then 0 else n : Nat), .int .i64 (if s.N ≤ n then 9 else 0)]) (fun _ => [obj p 69 [v1, .int .i64 s.N, v3]])) := ⟨fun p s v1 v3 n hn => by
  refine spec_of Try.func48 rfl Try.ntmps48 rfl [(0, _), (1, _)] rfl ?_; intro base F l0 hl0; (try simp only [List.cons_append] at hl0); (try simp only [List.nil_append] at hl0); subst hl0
  repeat' (first | refine st ?_ | refine And.intro ?_ ?_ | (intro e; subst e) | intro _)
  all_goals (refine rt2 () ?_; (repeat' split) <;> first | rfl | (exfalso; omega))⟩
end Go.Proofs.Ytgmccdicncocdaa
