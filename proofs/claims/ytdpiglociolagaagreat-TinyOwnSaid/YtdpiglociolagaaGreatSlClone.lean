/- Clones of slices and of maps. -/
import Derived.Test.YtdpiglociolagaaGreatLkB
import Derived.Test.YtdpiglociolagaaGreatSlX
import Derived.Test.YtdpiglociolagaaGreatSlHq
namespace Go.Proofs.YtdpiglociolagaaGreat
open Go.Lk Go.Sl
attribute [local irreducible] TK TL TC Th Bk Nx fnPost WA TQ OpQ OpN SpecH Rd Ent IterH RoundH Rb Rp fnPostM
instance clone_spec : Known Tryz.prog 101 (∀ (b m cap : Nat) (ns : List Nat), ns.length = m → m ≤ 4194304 → SpecH Tryz.prog 101 #[.slice (some ⟨b, 0, none⟩) m cap] [Vec 41 1 (some ⟨b, 0, none⟩) m cap (u32s ns)] (fun q : Option Addr × Nat => .slice q.1 m q.2) (fun q => [Vec 41 1 (some ⟨b, 0, none⟩) m cap (u32s ns), Vec 41 1 q.1 m q.2 (u32s ns)])) := ⟨fun b m cap ns hl hm => by
  refine spec_of Tryz.func101 rfl Tryz.ntmps101 rfl [(0, _)] rfl ?_; intro base F l0 hl0; (try simp only [List.cons_append] at hl0); (try simp only [List.nil_append] at hl0); subst hl0
  repeat' (first | refine stx ?_ | refine And.intro ?_ ?_ | (intro e; exfalso; omega) | (intro e; subst e) | intro _)
  rename_i x a c
  rw [Nat.zero_add]
  exact rt1 (a, c) rfl⟩
instance clone_any : Known Tryz.prog 101 (∀ (a : Option Addr) (m cap : Nat) (ns : List Nat), ns.length = m → m ≤ 4194304 → SpecH Tryz.prog 101 #[.slice a m cap] [Vec 41 1 a m cap (u32s ns)] (fun q : Option Addr × Nat => .slice q.1 m q.2) (fun q => [Vec 41 1 a m cap (u32s ns), Vec 41 1 q.1 m q.2 (u32s ns)])) := ⟨fun a m cap ns hl hm => by
  cases a with
  | none =>
    refine spec_of Tryz.func101 rfl Tryz.ntmps101 rfl [(0, _)] rfl ?_; intro base F l0 hl0; (try simp only [List.cons_append] at hl0); (try simp only [List.nil_append] at hl0); subst hl0
    refine TC.vecCase (a := none) (E := 41) (sz := 1) (k := m) (cap := cap) (cs := u32s ns) (by (repeat (first | (with_reducible exact Rem.here _ _) | (with_reducible apply Rem.there) | fail)); done) ?_ ?_
    · rintro ⟨_, rfl, rfl, h⟩
      rw [h]
      repeat' (first | refine stx ?_ | refine And.intro ?_ ?_ | (intro e; exfalso; omega) | (intro e; subst e) | intro _)
      exact rt1 (none, 0) rfl (he := by simp only [List.cons_append, List.nil_append]; exact Ent.cons (.here _ _) (Ent.vecNil (Ent.refl _)))
    · rintro ⟨b, hb⟩
      cases hb
  | some ad =>
    by_cases hb : ∃ b, (some ad : Option Addr) = some ⟨b, 0, none⟩
    · obtain ⟨b, e⟩ := hb
      rw [e]
      exact clone_spec.out b m cap ns hl hm
    · refine spec_of Tryz.func101 rfl Tryz.ntmps101 rfl [(0, _)] rfl ?_; intro base F l0 hl0; (try simp only [List.cons_append] at hl0); (try simp only [List.nil_append] at hl0); subst hl0
      refine TC.vecCase (a := some ad) (E := 41) (sz := 1) (k := m) (cap := cap) (cs := u32s ns) (by (repeat (first | (with_reducible exact Rem.here _ _) | (with_reducible apply Rem.there) | fail)); done) ?_ ?_
      · rintro ⟨h, _⟩
        cases h
      · intro h
        exact absurd h hb⟩
instance mclone_spec : Known Tryz.prog 100 (∀ (b : Nat) (kv : List (Nat × Nat)), SpecH Tryz.prog 100 #[.map (some b)] [MapA .u32 (fun n : Nat => .int .u32 (n : Nat)) b kv] (fun c : Nat => .map (some c)) (fun c => [MapA .u32 (fun n : Nat => .int .u32 (n : Nat)) b kv, MapA .u32 (fun n : Nat => .int .u32 (n : Nat)) c kv])) := ⟨fun b kv => by
  refine spec_of Tryz.func100 rfl Tryz.ntmps100 rfl [(0, _)] rfl ?_; intro base F l0 hl0; (try simp only [List.cons_append] at hl0); (try simp only [List.nil_append] at hl0); subst hl0
  repeat' (first | refine stx ?_ | refine And.intro ?_ ?_ | (intro e; exfalso; omega) | (intro e; subst e) | intro _)
  rename_i c
  exact rt1 c rfl⟩
end Go.Proofs.YtdpiglociolagaaGreat
