/- The reference of links, walked: before another one; removing. -/
import Derived.Test.YtgmccdicncocdaaLkR3
namespace Go.Proofs.Ytgmccdicncocdaa
open Go.Sl Go.Lk
attribute [local irreducible] TK TL TC Th Bk Nx fnPost WA TQ OpQ OpN SpecH Rd Ent IterH RoundH Rb Rp fnPostM
theorem befE_eq (f : Fld) (n o : Nat) : f.befE n o = if f.N ≤ n ∨ f.N ≤ o then 2 else if 0 ≤ plH f n then 11 else if plH f o < 0 then 9 else 0 := by
  unfold Fld.befE
  rcases plH_cases f n with ⟨h1, h2⟩ | ⟨k, i, h1, h2, _⟩ <;> rcases plH_cases f o with ⟨h3, h4⟩ | ⟨k', i', h3, h4, _⟩ <;> rw [h1, h2, h3, h4] <;> simp <;> omega
theorem inE_eq (f : Fld) (n : Nat) : f.inE n = if f.N ≤ n then 2 else if plH f n < 0 then 9 else 0 := by
  unfold Fld.inE
  rcases plH_cases f n with ⟨h1, h2⟩ | ⟨k, i, h1, h2, _⟩ <;> rw [h1, h2] <;> simp <;> omega
set_option maxHeartbeats 4000000 in
instance ref_before : Known Try.prog 51 (∀ (v : Value) (f : Fld) (n o : Nat), Bnd f → n < 4294967296 → o < 4294967296 → SpecH Try.prog 51 #[v, .int .u32 n, .int .u32 o] [RF v f] (fun q : Option Addr × Nat => .tuple #[.agg #[.int .i64 f.N, .slice q.1 f.L.length q.2], .int .i64 (f.befE n o)]) (fun q => [RF (.agg #[.int .i64 f.N, .slice q.1 f.L.length q.2]) (f.befF n o)])) := ⟨fun v f n o B hn ho => by
  have b1 := B.N; have b2 := B.M; have b3 := B.len
  refine spec_of Try.func51 rfl Try.ntmps51 rfl [(0, _), (1, _), (2, _)] rfl ?_; intro base F l0 hl0; (try simp only [List.cons_append] at hl0); (try simp only [List.nil_append] at hl0); subst hl0
  refine RF.openC (by (repeat (first | (with_reducible exact Rem.here _ _) | (with_reducible apply Rem.there) | fail)); done) fun a c vs e hl => ?_
  subst e
  have eA := befE_eq f n o
  have bad : f.befE n o ≠ 0 → f.befF n o = f := fun h => if_neg h
  repeat' (first | refine st ?_ | refine And.intro ?_ ?_ | (intro e; subst e) | intro _)
  · rw [bad (by omega), show f.befE n o = 2 by omega]; exact ra2 (a, c) rfl
  · rw [bad (by omega), show f.befE n o = 2 by omega]; exact ra2 (a, c) rfl
  · rw [bad (by omega), show f.befE n o = 11 by omega]; exact ra2 (a, c) rfl
  · rw [bad (by omega), show f.befE n o = 9 by omega]; exact ra2 (a, c) rfl
  rcases plH_cases f o with ⟨h1, h2⟩ | ⟨k, i, h1, h2, h3⟩
  · exfalso; omega
  obtain ⟨p1, p2, p3⟩ := Fld.place_spec h1
  have hi : i < (f.at k).length := by rw [p3]; exact (split_at p2).2.2
  have hlk := b3 k
  have good : f.befF n o = f.set k ((f.at k).take i ++ n :: (f.at k).drop i) := by unfold Fld.befF; rw [if_pos (by omega), h1]
  rw [good, show f.befE n o = 0 by omega]
  rw [h2, h3]
  refine RF.rowC (by (repeat (first | (with_reducible exact Rem.here _ _) | (with_reducible apply Rem.there) | fail)); done) p1 hl fun a3 c3 hva => ?_
  refine drx [obj _ _ [.int .i64 0, .slice none 0 0]] ?_
  refine tks [0, 1, 2, 4, 7, 8, 3, 5, 6] 4 ?_; repeat' (first | refine st ?_ | refine And.intro ?_ ?_ | (intro e; subst e) | intro _)
  refine hv 9 fun x8 => ?_
  refine hv 10 fun x9 => ?_
  refine hv0 11 fun _ => ?_
  refine tks [12] 0 ?_; repeat' (first | refine st ?_ | refine And.intro ?_ ?_ | (intro e; subst e) | intro _)
  exact ra2 (x9.1, x9.2) rfl⟩
set_option maxHeartbeats 4000000 in
instance ref_remove : Known Try.prog 52 (∀ (v : Value) (f : Fld) (n : Nat), Bnd f → n < 4294967296 → SpecH Try.prog 52 #[v, .int .u32 n] [RF v f] (fun q : Option Addr × Nat => .tuple #[.agg #[.int .i64 f.N, .slice q.1 f.L.length q.2], .int .i64 (f.inE n)]) (fun q => [RF (.agg #[.int .i64 f.N, .slice q.1 f.L.length q.2]) (f.remF n)])) := ⟨fun v f n B hn => by
  have b1 := B.N; have b2 := B.M; have b3 := B.len
  refine spec_of Try.func52 rfl Try.ntmps52 rfl [(0, _), (1, _)] rfl ?_; intro base F l0 hl0; (try simp only [List.cons_append] at hl0); (try simp only [List.nil_append] at hl0); subst hl0
  refine RF.openC (by (repeat (first | (with_reducible exact Rem.here _ _) | (with_reducible apply Rem.there) | fail)); done) fun a c vs e hl => ?_
  subst e
  have eA := inE_eq f n
  have bad : f.inE n ≠ 0 → f.remF n = f := fun h => if_neg h
  repeat' (first | refine st ?_ | refine And.intro ?_ ?_ | (intro e; subst e) | intro _)
  · rw [bad (by omega), show f.inE n = 2 by omega]; exact ra2 (a, c) rfl
  · rw [bad (by omega), show f.inE n = 9 by omega]; exact ra2 (a, c) rfl
  rcases plH_cases f n with ⟨h1, h2⟩ | ⟨k, i, h1, h2, h3⟩
  · exfalso; omega
  obtain ⟨p1, p2, p3⟩ := Fld.place_spec h1
  have hi : i < (f.at k).length := by rw [p3]; exact (split_at p2).2.2
  have hlk := b3 k
  have good : f.remF n = f.set k ((f.at k).take i ++ (f.at k).drop (i + 1)) := by unfold Fld.remF; rw [if_pos (by omega), h1]
  rw [good, show f.inE n = 0 by omega]
  rw [h2, h3]
  refine RF.rowC (by (repeat (first | (with_reducible exact Rem.here _ _) | (with_reducible apply Rem.there) | fail)); done) p1 hl fun a3 c3 hva => ?_
  refine drx [] ?_
  refine tks [0, 2, 5, 8, 10, 13, 1, 9, 14, 3, 11, 4, 12, 6, 15] 3 ?_; repeat' (first | refine st ?_ | refine And.intro ?_ ?_ | (intro e; subst e) | intro _)
  refine hv 7 fun x7 => ?_
  refine hv 16 fun x16 => ?_
  refine tks [17] 0 ?_; repeat' (first | refine st ?_ | refine And.intro ?_ ?_ | (intro e; subst e) | intro _)

  refine TL.freeze (a := x16.1) (by (repeat (first | (with_reducible exact Rem.here _ _) | (with_reducible apply Rem.there) | fail)); done) ?_
  refine TL.ent (RU.mk (xs := (f.at k).take i ++ (f.at k).drop (i + 1)) (by simp [u32s]) (by simp; omega)) ?_
  repeat' (first | refine st ?_ | refine And.intro ?_ ?_ | (intro e; subst e) | intro _)
  rename_i x8 x9
  exact ra2 (x8, x9) rfl⟩
end Go.Proofs.Ytgmccdicncocdaa
