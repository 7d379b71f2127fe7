/- The reference of links, walked: adding. -/
import Derived.Test.YtgmccdicncocdaaLkR2
namespace Go.Proofs.Ytgmccdicncocdaa
open Go.Sl Go.Lk
attribute [local irreducible] TK TL TC Th Bk Nx fnPost WA TQ OpQ OpN SpecH Rd Ent IterH RoundH Rb Rp fnPostM
/-- What keeps the numbers of a field small. -/
structure Bnd (f : Fld) : Prop where
  N : f.N ≤ 4194304
  M : f.L.length ≤ 4096
  len : ∀ h, (f.at h).length ≤ 4194304
theorem plH_cases (f : Fld) (n : Nat) : (f.place n = none ∧ plH f n = -1) ∨ ∃ h i, f.place n = some (h, i) ∧ plH f n = (h : Nat) ∧ plI f n = (i : Nat) := by
  cases hp : f.place n with
  | none => exact .inl ⟨rfl, by simp [plH, hp]⟩
  | some q => exact .inr ⟨q.1, q.2, rfl, by simp [plH, hp], by simp [plI, hp]⟩
theorem addE_eq (f : Fld) (h : Int) (n : Nat) : f.addE h n = if ¬ (0 ≤ h ∧ h < f.L.length) ∨ f.N ≤ n then 2 else if 0 ≤ plH f n then 11 else 0 := by
  unfold Fld.addE Fld.head
  simp only [decide_eq_false_iff_not]
  rcases plH_cases f n with ⟨h1, h2⟩ | ⟨k, i, h1, h2, _⟩
  · rw [h1, h2]; simp
  · rw [h1, h2]; simp
theorem addF_eq (f : Fld) (k n : Nat) (front : Bool) (h : f.addE k n = 0) : f.addF k n front = f.set k (if front then n :: f.at k else f.at k ++ [n]) := by unfold Fld.addF; rw [if_pos h, Int.toNat_natCast]
set_option maxHeartbeats 4000000 in
instance ref_add : Known Try.prog 12 (∀ (v : Value) (f : Fld) (h : Int) (n : Nat) (front : Bool), Bnd f → n < 4294967296 → SpecH Try.prog 12 #[v, .int .i64 h, .int .u32 n, .bool front] [RF v f] (fun q : Option Addr × Nat => .tuple #[.agg #[.int .i64 f.N, .slice q.1 f.L.length q.2], .int .i64 (f.addE h n)]) (fun q => [RF (.agg #[.int .i64 f.N, .slice q.1 f.L.length q.2]) (f.addF h n front)])) := ⟨fun v f h n front B hn => by
  have b1 := B.N; have b2 := B.M; have b3 := B.len
  refine spec_of Try.func12 rfl Try.ntmps12 rfl [(0, _), (1, _), (2, _), (3, _)] rfl ?_; intro base F l0 hl0; (try simp only [List.cons_append] at hl0); (try simp only [List.nil_append] at hl0); subst hl0
  refine RF.openC (by (repeat (first | (with_reducible exact Rem.here _ _) | (with_reducible apply Rem.there) | fail)); done) fun a c vs e hl => ?_
  subst e
  have eA := addE_eq f h n
  have bad : f.addE h n ≠ 0 → f.addF h n front = f := fun h => if_neg h
  repeat' (first | refine st ?_ | refine And.intro ?_ ?_ | (intro e; subst e) | intro _)
  · rw [bad (by omega), show f.addE h n = 2 by omega]; exact ra2 (a, c) rfl
  · rw [bad (by omega), show f.addE h n = 2 by omega]; exact ra2 (a, c) rfl
  · rw [bad (by omega), show f.addE h n = 11 by omega]; exact ra2 (a, c) rfl
  all_goals
    obtain ⟨k, rfl⟩ : ∃ k : Nat, h = k := ⟨h.toNat, by omega⟩
    have hk : k < f.L.length := by omega
    have hlk := b3 k
    rw [addF_eq _ _ _ _ (by omega), show f.addE k n = 0 by omega]
    refine RF.rowC (by (repeat (first | (with_reducible exact Rem.here _ _) | (with_reducible apply Rem.there) | fail)); done) hk hl fun a3 c3 hva => ?_
    refine drx [obj _ _ [.int .i64 0, .slice none 0 0]] ?_
  · refine tks [0, 1, 2, 4, 7, 3, 5, 6] 4 ?_; repeat' (first | refine st ?_ | refine And.intro ?_ ?_ | (intro e; subst e) | intro _)
    refine hv 8 fun x8 => ?_
    refine hv 9 fun x9 => ?_
    refine hv0 10 fun _ => ?_
    refine tks [11] 0 ?_; repeat' (first | refine st ?_ | refine And.intro ?_ ?_ | (intro e; subst e) | intro _)
    simp only [List.take_zero, List.nil_append, List.drop_zero, if_true]
    exact ra2 (x9.1, x9.2) rfl
  · refine tks [0, 1, 2, 4, 7, 9, 13, 3, 8, 5, 10, 6, 11, 12] 4 ?_; repeat' (first | refine st ?_ | refine And.intro ?_ ?_ | (intro e; subst e) | intro _)
    refine hv 14 fun x8 => ?_
    refine hv 15 fun x9 => ?_
    refine hv0 16 fun _ => ?_
    refine tks [17] 0 ?_; repeat' (first | refine st ?_ | refine And.intro ?_ ?_ | (intro e; subst e) | intro _)
    simp only [List.take_length, List.drop_length, Bool.false_eq_true, if_false]
    exact ra2 (x9.1, x9.2) rfl⟩
end Go.Proofs.Ytgmccdicncocdaa
