/- Clones of slices and of maps. -/
import Derived.Test.YtmiblmoppdgnjaaLkB
import Derived.Test.YtmiblmoppdgnjaaSlX
namespace Go.Proofs.Ytmiblmoppdgnjaa
open Go.Lk Go.Sl
attribute [local irreducible] TK TL TC Th Bk Nx fnPost WA TQ OpQ OpN SpecH Rd Ent IterH RoundH Rb Rp fnPostM
instance clone_spec : Known Try.prog 39 (∀ (b m cap : Nat) (ns : List Nat), ns.length = m → 0 < m → m ≤ 4194304 → SpecH Try.prog 39 #[.slice (some ⟨b, 0, none⟩) m cap] [Vec 28 1 (some ⟨b, 0, none⟩) m cap (u32s ns)] (fun q : Option Addr × Nat => .slice q.1 m q.2) (fun q => [Vec 28 1 (some ⟨b, 0, none⟩) m cap (u32s ns), Vec 28 1 q.1 m q.2 (u32s ns)])) := ⟨fun b m cap ns hl h0 hm => by
  refine spec_of Try.func39 rfl Try.ntmps39 rfl [(0, _)] rfl ?_; intro base F l0 hl0; (try simp only [List.cons_append] at hl0); (try simp only [List.nil_append] at hl0); subst hl0
  repeat' (first | refine stx ?_ | refine And.intro ?_ ?_ | (intro e; exfalso; omega) | (intro e; subst e) | intro _)
  rename_i x a c
  rw [Nat.zero_add]
  exact rt1 (a, c) rfl⟩
instance mclone_spec : Known Try.prog 40 (∀ (b : Nat) (kv : List (Nat × Nat)), SpecH Try.prog 40 #[.map (some b)] [MapA .u32 (fun n : Nat => .int .u32 (n : Nat)) b kv] (fun c : Nat => .map (some c)) (fun c => [MapA .u32 (fun n : Nat => .int .u32 (n : Nat)) b kv, MapA .u32 (fun n : Nat => .int .u32 (n : Nat)) c kv])) := ⟨fun b kv => by
  refine spec_of Try.func40 rfl Try.ntmps40 rfl [(0, _)] rfl ?_; intro base F l0 hl0; (try simp only [List.cons_append] at hl0); (try simp only [List.nil_append] at hl0); subst hl0
  repeat' (first | refine stx ?_ | refine And.intro ?_ ?_ | (intro e; exfalso; omega) | (intro e; subst e) | intro _)
  rename_i c
  exact rt1 c rfl⟩
end Go.Proofs.Ytmiblmoppdgnjaa
