/- The laws of lfu, walked: a new cache; any calls. -/
import Derived.Test.YtmiblmoppdgnjaaLfL2
import Derived.Test.YtmiblmoppdgnjaaSlD
namespace Go.Proofs.Ytmiblmoppdgnjaa
open Go.Lk Go.Sl Go.Lf
theorem atBlk (id : Nat) {r0 : Option Nat} {P : Program} {base : World} {n : Nat} {ds : List Deferred} {Q : Exit → Act → World → Prop} {env : Env} {l : List HP} {c : Code} (h : TC r0 P base n ds (.block id c) Q env l) : TC r0 P base n ds (.block id c) Q env l := h
theorem useS_le {size age req k : Nat} {l : List It} : (useS size age (req, l) k).1 ≤ req + 1 := by unfold useS; split <;> simp
attribute [local irreducible] TK TL TC Th Bk Nx fnPost WA TQ OpQ OpN SpecH Rd Ent IterH RoundH Rb Rp fnPostM
attribute [local irreducible] Lf.wo Lf.ins Lf.cntOf Lf.halveL Lf.lo Lf.hi Lf.useS
instance (Q : Nat → Int × Nat) : Width (fun i => ([.int .i64 (Q i).1, .int .u32 ((Q i).2 : Nat)] : List Value)) 2 := ⟨fun _ => rfl⟩
set_option maxHeartbeats 8000000 in
instance lfl_plays : Known Try.prog 19 (∀ (p0 size age : Nat) (a : Option Addr) (n cap : Nat) (Q : Nat → Int × Nat), (∀ i, i < n → (Q i).2 < 4294967296) → n ≤ 120 → SpecH Try.prog 19 #[.pointer (some ⟨p0, 0, none⟩), .agg #[.int .i64 (size : Nat), .int .i64 (age : Nat), .int .i64 0, .slice none 0 0], .slice a n cap] [LfuAt p0 size age 0 [], RoS 2 a n cap (rows n fun i => [.int .i64 (Q i).1, .int .u32 ((Q i).2 : Nat)])] (fun _ : Unit => .bool true) (fun _ => [])) := ⟨fun p0 size age a n cap Q hQ hn => by
  refine spec_of Try.func19 rfl Try.ntmps19 rfl [(0, _), (1, _), (2, _)] rfl ?_; intro base F l0 hl0; (try simp only [List.cons_append] at hl0); (try simp only [List.nil_append] at hl0); subst hl0
  repeat' (first | refine sty ?_ | refine And.intro ?_ ?_ | (intro e; exfalso; omega) | (intro e; subst e) | intro _)
  rename_i b4
  refine tc_lp (ι := {x : Nat × Nat × (Nat × List It) × Option Addr × Nat // x.1 ≤ n ∧ x.2.2.1.1 ≤ x.1}) [0, 7] (fun e x => (0, .pointer (some ⟨x.1.2.1, 0, none⟩)) :: (7, .int .i64 (x.1.1 : Nat)) :: e)
    (fun x => [LfuAt x.1.2.1 size age x.1.2.2.1.1 x.1.2.2.1.2, obj b4 48 [.int .i64 (size : Nat), .int .i64 (age : Nat), .int .i64 (x.1.2.2.1.1 : Nat), .slice x.1.2.2.2.1 x.1.2.2.1.2.length x.1.2.2.2.2], RoS 2 x.1.2.2.2.1 x.1.2.2.1.2.length x.1.2.2.2.2 (itv x.1.2.2.1.2), RoS 2 a n cap (rows n fun i => [.int .i64 (Q i).1, .int .u32 ((Q i).2 : Nat)]), F]) (fun x => n - x.1.1) ⟨(0, p0, (0, []), none, 0), by omega, by simp⟩ ?_
    (hl := by show Ent _ [LfuAt p0 size age 0 [], obj b4 48 [.int .i64 (size : Nat), .int .i64 (age : Nat), .int .i64 0, .slice none 0 0], RoS 2 none 0 0 [], RoS 2 a n cap (rows n fun i => [.int .i64 (Q i).1, .int .u32 ((Q i).2 : Nat)]), F]; exact en)
  rintro K ⟨⟨i, p, ⟨req, l⟩, ra, rc⟩, hi, hr⟩ hK
  dsimp only at hi hr ⊢
  by_cases hc : i < n
  · have hk := hQ i hc
    refine LfuAt.factsC fun o s1 s2 s3 hkl => ?_
    have hll := o.len
    have hle := useS_le (size := size) (age := age) (req := req) (k := (Q i).2) (l := l)
    repeat' (first | ((fail_if_success (refine atBlk 2 ?_)); refine sty ?_) | refine And.intro ?_ ?_ | (intro e; exfalso; omega) | (intro e; subst e) | intro _)
    rename_i b8
    refine cut (ι := {y : Nat × (Nat × List It) × Option Addr × Nat // y.2.1.1 ≤ i + 1}) (fun y => [(0, .pointer (some ⟨y.1.1, 0, none⟩)), (1, .agg #[.int .i64 (size : Nat), .int .i64 (age : Nat), .int .i64 0, .slice none 0 0]), (6, .bool false), (2, .slice a n cap), (4, .pointer (some ⟨b4, 0, none⟩)), (7, .int .i64 (i : Nat)), (8, .pointer (some ⟨b8, 0, none⟩))])
      (fun y => [obj b8 36 [.int .i64 (Q i).1, .int .u32 ((Q i).2 : Nat)], LfuAt y.1.1 size age y.1.2.1.1 y.1.2.1.2, obj b4 48 [.int .i64 (size : Nat), .int .i64 (age : Nat), .int .i64 (y.1.2.1.1 : Nat), .slice y.1.2.2.1 y.1.2.1.2.length y.1.2.2.2], RoS 2 y.1.2.2.1 y.1.2.1.2.length y.1.2.2.2 (itv y.1.2.1.2), RoS 2 a n cap (rows n fun i => [.int .i64 (Q i).1, .int .u32 ((Q i).2 : Nat)]), F]) ?_ ?_
    · intro K hK2
      by_cases h0 : (Q i).1 = 0
      · repeat' (first | refine sty ?_ | refine And.intro ?_ ?_ | (intro e; exfalso; omega) | (intro e; subst e) | intro _)
        rename_i b9 a1 c1 b11 b12
        exact fin hK2 ⟨(p, useS size age (req, l) (Q i).2, a1, c1), by dsimp only; omega⟩
      by_cases h1 : (Q i).1 = 1
      · repeat' (first | refine sty ?_ | refine And.intro ?_ ?_ | (intro e; exfalso; omega) | (intro e; subst e) | intro _)
        rename_i a1 c1 b15
        exact fin hK2 ⟨(p, (req, Lf.wo l (Q i).2), a1, c1), by dsimp only; omega⟩
      · haveI : NatI (IntKind.wrap .u32 ((Q i).2 + 77)) (((Q i).2 + 77) % 4294967296) := ⟨by show ((Q i).2 + 77 : Int) % 4294967296 = _; omega⟩
        have hw : (((Q i).2 + 77) % 4294967296) < 4294967296 := by omega
        have hle2 := useS_le (size := size) (age := age) (req := req) (k := ((Q i).2 + 77) % 4294967296) (l := l)
        repeat' (first | refine sty ?_ | refine And.intro ?_ ?_ | (intro e; exfalso; omega) | (intro e; subst e) | intro _)
        rename_i x
        exact fin hK2 ⟨(x, (req, l), ra, rc), by dsimp only; omega⟩
    · rintro ⟨⟨p, ⟨req, l⟩, ra, rc⟩, hr2⟩
      dsimp only at hr2 ⊢
      refine LfuAt.facts fun o s1 s2 s3 hkl => ?_
      have hll := o.len
      repeat' (first | refine sty ?_ | refine And.intro ?_ ?_ | (intro e; exfalso; omega) | (intro e; subst e) | intro _)
      rename_i a30 c30
      have eI : u32s (ks l) = intsV .u32 ((ks l).map Int.ofNat) := by simp [u32s, intsV]
      refine tc_lp (ι := {x : Nat × List Int // x.1 ≤ l.length ∧ x.2.length = l.length}) [19] (fun e x => (19, .int .i64 (x.1.1 : Nat)) :: e)
        (fun x => [Vec 28 1 a30 l.length c30 (intsV .u32 x.1.2), obj b8 36 [.int .i64 (Q i).1, .int .u32 ((Q i).2 : Nat)], LfuAt p size age req l, obj b4 48 [.int .i64 (size : Nat), .int .i64 (age : Nat), .int .i64 (req : Nat), .slice ra l.length rc], RoS 2 ra l.length rc (itv l), RoS 2 a n cap (rows n fun i => [.int .i64 (Q i).1, .int .u32 ((Q i).2 : Nat)]), F]) (fun x => l.length - x.1.1) ⟨(0, (ks l).map Int.ofNat), by omega, by simp⟩ ?_ (hl := by dsimp only; rw [← eI]; exact en)
      rintro K2 ⟨⟨k, zs⟩, hk1, hk2⟩ hK2
      dsimp only at hk1 hk2 ⊢
      by_cases hkl : k < l.length
      · have hzl : k < zs.length := by omega
        repeat' (first | refine sty ?_ | refine And.intro ?_ ?_ | (intro e; exfalso; omega) | (intro e; subst e) | intro _)
        exact again hK2 ⟨(k + 1, zs.set k (IntKind.wrap .u32 (zs.getD k 0 + 1))), by omega, by dsimp only; rw [List.length_set]; exact hk2⟩
      · obtain rfl : k = l.length := by omega
        repeat' (first | refine sty ?_ | refine And.intro ?_ ?_ | (intro e; exfalso; omega) | (intro e; subst e) | intro _)
        exact again hK ⟨(i + 1, p, (req, l), ra, rc), by omega, hr2⟩
  · repeat' (first | refine sty ?_ | refine And.intro ?_ ?_ | (intro e; exfalso; omega) | (intro e; subst e) | intro _)
    exact rt1 () rfl⟩
set_option maxHeartbeats 4000000 in
theorem lplays_law (size age : Int) (a : Option Addr) (n cap : Nat) (Q : Nat → Int × Nat) (hQ : ∀ i, i < n → (Q i).2 < 4294967296) : SpecH Try.prog 6 #[.int .i64 size, .int .i64 age, .slice a n cap] [RoS 2 a n cap (rows n fun i => [.int .i64 (Q i).1, .int .u32 ((Q i).2 : Nat)])] (fun _ : Unit => .bool true) (fun _ => []) := by
  by_cases hb : size < 1 ∨ 40 < size ∨ age < 0 ∨ 50 < age ∨ 120 < n
  · refine spec_of Try.func6 rfl Try.ntmps6 rfl [(0, _), (1, _), (2, _)] rfl ?_; intro base F l0 hl0; (try simp only [List.cons_append] at hl0); (try simp only [List.nil_append] at hl0); subst hl0
    repeat' (first | refine sty ?_ | refine And.intro ?_ ?_ | (intro e; exfalso; omega) | (intro e; subst e) | intro _)
    all_goals exact rt1 () rfl
  · obtain ⟨N, rfl⟩ : ∃ N : Nat, size = N := ⟨size.toNat, by omega⟩
    obtain ⟨A, rfl⟩ : ∃ A : Nat, age = A := ⟨age.toNat, by omega⟩
    refine spec_of Try.func6 rfl Try.ntmps6 rfl [(0, _), (1, _), (2, _)] rfl ?_; intro base F l0 hl0; (try simp only [List.cons_append] at hl0); (try simp only [List.nil_append] at hl0); subst hl0
    repeat' (first | refine sty ?_ | refine And.intro ?_ ?_ | (intro e; exfalso; omega) | (intro e; subst e) | intro _)
    all_goals exact rt1 () rfl
set_option maxHeartbeats 4000000 in
theorem lnew_law (size age : Int) : SpecH Try.prog 5 #[.int .i64 size, .int .i64 age] [] (fun _ : Unit => .bool true) (fun _ => []) := by
  by_cases hb : size < 1 ∨ 1024 < size ∨ age < 0 ∨ 1048576 < age
  · refine spec_of Try.func5 rfl Try.ntmps5 rfl [(0, _), (1, _)] rfl ?_; intro base F l0 hl0; (try simp only [List.cons_append] at hl0); (try simp only [List.nil_append] at hl0); subst hl0
    repeat' (first | ((fail_if_success (refine atCall 9 ?_)); refine sty ?_) | refine And.intro ?_ ?_ | (intro e; exfalso; omega) | (intro e; subst e) | intro _)
    refine call (lf_new_bad size age hb) ?_
    repeat' (first | ((fail_if_success (refine atCall 17 ?_)); refine sty ?_) | refine And.intro ?_ ?_ | (intro e; exfalso; omega) | (intro e; subst e) | intro _)
    refine call (lfr_new_bad size age hb) ?_
    repeat' (first | refine sty ?_ | refine And.intro ?_ ?_ | (intro e; exfalso; omega) | (intro e; subst e) | intro _)
    exact rt1 () rfl
  · obtain ⟨N, rfl⟩ : ∃ N : Nat, size = N := ⟨size.toNat, by omega⟩
    obtain ⟨A, rfl⟩ : ∃ A : Nat, age = A := ⟨age.toNat, by omega⟩
    refine spec_of Try.func5 rfl Try.ntmps5 rfl [(0, _), (1, _)] rfl ?_; intro base F l0 hl0; (try simp only [List.cons_append] at hl0); (try simp only [List.nil_append] at hl0); subst hl0
    repeat' (first | refine sty ?_ | refine And.intro ?_ ?_ | (intro e; exfalso; omega) | (intro e; subst e) | intro _)
    all_goals exact rt1 () rfl
end Go.Proofs.Ytmiblmoppdgnjaa
