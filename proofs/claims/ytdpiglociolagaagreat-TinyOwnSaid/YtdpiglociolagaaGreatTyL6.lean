/- The laws of tiny, walked: any calls; what Lists returns may be changed. -/
import Derived.Test.YtdpiglociolagaaGreatTyLB
import Derived.Test.YtdpiglociolagaaGreatSlD
namespace Go.Proofs.YtdpiglociolagaaGreat
open Go.Lk Go.Sl Go.Gh Go.Ty
attribute [local irreducible] TK TL TC Th Bk Nx fnPost WA TQ OpQ OpN SpecH Rd Ent IterH RoundH Rb Rp fnPostM
attribute [local irreducible] Ty.shS Ty.sumB Ty.plS Ty.at64 Ty.cAdd Ty.plB Ty.bA Ty.bS Ty.hasB Ty.addB Ty.Mem.note Ty.Mem.guess Ty.adN Ty.useW Ty.useHit Ty.useLeft Ty.useOut
set_option maxHeartbeats 8000000 in
theorem tyl_playslaw (x y z : Int) (seed : BitVec 64) (a : Option Addr) (len cap : Nat) (Z : Nat → Int × Nat) (hZ : ∀ i, i < len → (Z i).2 < 4294967296) : SpecH Tryz.prog 5 #[.agg #[.int .i64 x, .int .i64 y, .int .i64 z, .int .u64 (seed.toNat : Nat)], .slice a len cap] [RoS 2 a len cap (rows len fun i => [.int .i64 (Z i).1, .int .u32 ((Z i).2 : Nat)])] (fun _ : Unit => .bool true) (fun _ => []) := by
  by_cases hb : x < 2 ∨ 1024 < x ∨ y < 1 ∨ x ≤ y ∨ z < 0 ∨ 99 < z
  · refine spec_of Tryz.func5 rfl Tryz.ntmps5 rfl [(0, _), (1, _)] rfl ?_; intro base F l0 hl0; (try simp only [List.cons_append] at hl0); (try simp only [List.nil_append] at hl0); subst hl0
    repeat' (first | ((fail_if_success (refine atCall 8 ?_)); refine sts ?_) | refine And.intro ?_ ?_ | (intro e; exfalso; omega) | (intro e; subst e) | intro _)
    refine call (tyl_made_bad x y z (seed.toNat : Nat) hb) ?_
    repeat' (first | refine sts ?_ | refine And.intro ?_ ?_ | (intro e; exfalso; omega) | (intro e; subst e) | intro _)
    all_goals exact rt1 () rfl
  obtain ⟨size, rfl⟩ : ∃ N : Nat, x = N := ⟨x.toNat, by omega⟩
  obtain ⟨most, rfl⟩ : ∃ N : Nat, y = N := ⟨y.toNat, by omega⟩
  obtain ⟨prot, rfl⟩ : ∃ N : Nat, z = N := ⟨z.toNat, by omega⟩
  have okM : MemOk (atL 16 size) (atL 64 (8 * size)) (Mem.new (atL 16 size) (atL 64 (8 * size))) := MemOk.new (width_ok (by omega)) ⟨bits_ok (by omega)⟩
  by_cases h2 : 24 < size
  · refine spec_of Tryz.func5 rfl Tryz.ntmps5 rfl [(0, _), (1, _)] rfl ?_; intro base F l0 hl0; (try simp only [List.cons_append] at hl0); (try simp only [List.nil_append] at hl0); subst hl0
    repeat' (first | ((fail_if_success (refine atCall 8 ?_)); refine sts ?_) | refine And.intro ?_ ?_ | (intro e; exfalso; omega) | (intro e; subst e) | intro _)
    refine call (tyl_made_big size most prot seed h2 (by omega) (by omega) (by omega) (by omega)) ?_
    repeat' (first | refine sts ?_ | refine And.intro ?_ ?_ | (intro e; exfalso; omega) | (intro e; subst e) | intro _)
    all_goals exact rt1 () rfl
  by_cases hn : len ≤ 120
  · refine spec_of Tryz.func5 rfl Tryz.ntmps5 rfl [(0, _), (1, _)] rfl ?_; intro base F l0 hl0; (try simp only [List.cons_append] at hl0); (try simp only [List.nil_append] at hl0); subst hl0
    repeat' (first | refine sts ?_ | refine And.intro ?_ ?_ | (intro e; exfalso; omega) | (intro e; subst e) | intro _)
    all_goals exact rt1 () rfl
  · refine spec_of Tryz.func5 rfl Tryz.ntmps5 rfl [(0, _), (1, _)] rfl ?_; intro base F l0 hl0; (try simp only [List.cons_append] at hl0); (try simp only [List.nil_append] at hl0); subst hl0
    repeat' (first | refine sts ?_ | refine And.intro ?_ ?_ | (intro e; exfalso; omega) | (intro e; subst e) | intro _)
    all_goals exact rt1 () rfl
set_option maxHeartbeats 8000000 in
theorem tyl_ownlaw (x y z : Int) (seed : BitVec 64) (a : Option Addr) (len cap : Nat) (Z : Nat → Int × Nat) (hZ : ∀ i, i < len → (Z i).2 < 4294967296) : SpecH Tryz.prog 6 #[.agg #[.int .i64 x, .int .i64 y, .int .i64 z, .int .u64 (seed.toNat : Nat)], .slice a len cap] [RoS 2 a len cap (rows len fun i => [.int .i64 (Z i).1, .int .u32 ((Z i).2 : Nat)])] (fun _ : Unit => .bool true) (fun _ => []) := by
  by_cases hb : x < 2 ∨ 1024 < x ∨ y < 1 ∨ x ≤ y ∨ z < 0 ∨ 99 < z
  · refine spec_of Tryz.func6 rfl Tryz.ntmps6 rfl [(0, _), (1, _)] rfl ?_; intro base F l0 hl0; (try simp only [List.cons_append] at hl0); (try simp only [List.nil_append] at hl0); subst hl0
    repeat' (first | ((fail_if_success (refine atCall 8 ?_)); refine sts ?_) | refine And.intro ?_ ?_ | (intro e; exfalso; omega) | (intro e; subst e) | intro _)
    refine call (tyl_made_bad x y z (seed.toNat : Nat) hb) ?_
    repeat' (first | refine sts ?_ | refine And.intro ?_ ?_ | (intro e; exfalso; omega) | (intro e; subst e) | intro _)
    all_goals exact rt1 () rfl
  obtain ⟨size, rfl⟩ : ∃ N : Nat, x = N := ⟨x.toNat, by omega⟩
  obtain ⟨most, rfl⟩ : ∃ N : Nat, y = N := ⟨y.toNat, by omega⟩
  obtain ⟨prot, rfl⟩ : ∃ N : Nat, z = N := ⟨z.toNat, by omega⟩
  have okM : MemOk (atL 16 size) (atL 64 (8 * size)) (Mem.new (atL 16 size) (atL 64 (8 * size))) := MemOk.new (width_ok (by omega)) ⟨bits_ok (by omega)⟩
  by_cases h2 : 24 < size
  · refine spec_of Tryz.func6 rfl Tryz.ntmps6 rfl [(0, _), (1, _)] rfl ?_; intro base F l0 hl0; (try simp only [List.cons_append] at hl0); (try simp only [List.nil_append] at hl0); subst hl0
    repeat' (first | ((fail_if_success (refine atCall 8 ?_)); refine sts ?_) | refine And.intro ?_ ?_ | (intro e; exfalso; omega) | (intro e; subst e) | intro _)
    refine call (tyl_made_big size most prot seed h2 (by omega) (by omega) (by omega) (by omega)) ?_
    repeat' (first | refine sts ?_ | refine And.intro ?_ ?_ | (intro e; exfalso; omega) | (intro e; subst e) | intro _)
    all_goals exact rt1 () rfl
  by_cases hn : len ≤ 120
  · refine spec_of Tryz.func6 rfl Tryz.ntmps6 rfl [(0, _), (1, _)] rfl ?_; intro base F l0 hl0; (try simp only [List.cons_append] at hl0); (try simp only [List.nil_append] at hl0); subst hl0
    repeat' (first | ((fail_if_success (refine atD ?_)); refine sts ?_) | refine And.intro ?_ ?_ | (intro e; exfalso; omega) | (intro e; subst e) | intro _)
    rename_i b2 xa xb b6 y qa qb bs
    obtain ⟨⟨p2, l, r, f, ad, ⟨W, A, B⟩, m⟩, okm, hadm⟩ := y
    obtain ⟨fq, p1⟩ := xb
    obtain ⟨wa, wb⟩ := qa
    obtain ⟨⟨aa, ab⟩, ba, bb⟩ := qb
    dsimp only at okm hadm ⊢
    have eW : u32s W = intsV .u32 (W.map Int.ofNat) := by simp [u32s, intsV]
    have eA : u32s A = intsV .u32 (A.map Int.ofNat) := by simp [u32s, intsV]
    have eB : u32s B = intsV .u32 (B.map Int.ofNat) := by simp [u32s, intsV]
    refine TinyAt.factsC fun o ls hq => ?_
    have x2 := o.m2
    have x3 := o.w
    have x4 := o.ab
    refine tc_lp (ι := {x : Nat × List Int × List Int × List Int // x.1 ≤ 3 ∧ x.2.1.length = W.length ∧ x.2.2.1.length = A.length ∧ x.2.2.2.length = B.length}) [52] (fun e x => (52, .int .i64 (x.1.1 : Nat)) :: e)
      (fun x => [Vec 27 1 (some ⟨bs, 0, none⟩) 3 3 [.slice wa W.length wb, .slice aa A.length ab, .slice ba B.length bb], Vec 41 1 wa W.length wb (intsV .u32 x.1.2.1), Vec 41 1 aa A.length ab (intsV .u32 x.1.2.2.1), Vec 41 1 ba B.length bb (intsV .u32 x.1.2.2.2), TinyAt p2 size most (prot * (size - most) / 100) (atL 16 size) seed W A B m, RoS 1 l.1.1 W.length l.1.2 (u32s W), RoS 1 l.2.1.1 A.length l.2.1.2 (u32s A), RoS 1 l.2.2.1 B.length l.2.2.2 (u32s B), RoS 1 r.1.1 (atL 16 size) r.1.2 (i64n m.c0), RoS 1 r.2.1.1 (atL 16 size) r.2.1.2 (i64n m.c1), RoS 1 r.2.2.1.1 (atL 16 size) r.2.2.1.2 (i64n m.c2), RoS 1 r.2.2.2.1 (atL 16 size) r.2.2.2.2 (i64n m.c3), RoS 1 f.1 (atL 64 (8 * size)) f.2 (bls m.b), obj b6 36 [.int .i64 (size : Nat), .int .i64 (most : Nat), .int .i64 ((prot * (size - most) / 100) : Nat), .int .i64 (m.req : Nat), .slice l.1.1 W.length l.1.2, .slice l.2.1.1 A.length l.2.1.2, .slice l.2.2.1 B.length l.2.2.2, .int .i64 ((atL 16 size) : Nat), .int .i64 0, .int .i64 (ad : Nat), .int .u64 (seed.toNat : Nat), .slice r.1.1 (atL 16 size) r.1.2, .slice r.2.1.1 (atL 16 size) r.2.1.2, .slice r.2.2.1.1 (atL 16 size) r.2.2.1.2, .slice r.2.2.2.1 (atL 16 size) r.2.2.2.2, .int .i64 3, .int .u64 (seed.toNat : Nat), .slice f.1 (atL 64 (8 * size)) f.2, .int .i64 3, .int .u64 (seed.toNat : Nat), .slice (some ⟨fq, 0, none⟩) (atL 64 (8 * size)) (atL 64 (8 * size))], RoS 2 a len cap (rows len fun i => [.int .i64 (Z i).1, .int .u32 ((Z i).2 : Nat)]), F]) (fun x => 3 - x.1.1) ⟨(0, W.map Int.ofNat, A.map Int.ofNat, B.map Int.ofNat), by omega, by simp, by simp, by simp⟩ ?_
      (hl := by dsimp only; rw [← eW, ← eA, ← eB]; exact en)
    rintro K ⟨⟨i, z1, z2, z3⟩, hi, l1, l2, l3⟩ hK
    dsimp only at hi l1 l2 l3 ⊢
    clear eW eA eB
    obtain rfl | rfl | rfl | rfl : i = 0 ∨ i = 1 ∨ i = 2 ∨ i = 3 := by omega
    · repeat' (first | refine sts ?_ | refine And.intro ?_ ?_ | (intro e; exfalso; omega) | (intro e; subst e) | intro _)
      refine tc_lp (ι := {w : Nat × List Int // w.1 ≤ W.length ∧ w.2.length = W.length}) [14] (fun e w => (14, .int .i64 (w.1.1 : Nat)) :: e)
        (fun w => [Vec 27 1 (some ⟨bs, 0, none⟩) 3 3 [.slice wa W.length wb, .slice aa A.length ab, .slice ba B.length bb], Vec 41 1 wa W.length wb (intsV .u32 w.1.2), Vec 41 1 aa A.length ab (intsV .u32 z2), Vec 41 1 ba B.length bb (intsV .u32 z3), TinyAt p2 size most (prot * (size - most) / 100) (atL 16 size) seed W A B m, RoS 1 l.1.1 W.length l.1.2 (u32s W), RoS 1 l.2.1.1 A.length l.2.1.2 (u32s A), RoS 1 l.2.2.1 B.length l.2.2.2 (u32s B), RoS 1 r.1.1 (atL 16 size) r.1.2 (i64n m.c0), RoS 1 r.2.1.1 (atL 16 size) r.2.1.2 (i64n m.c1), RoS 1 r.2.2.1.1 (atL 16 size) r.2.2.1.2 (i64n m.c2), RoS 1 r.2.2.2.1 (atL 16 size) r.2.2.2.2 (i64n m.c3), RoS 1 f.1 (atL 64 (8 * size)) f.2 (bls m.b), obj b6 36 [.int .i64 (size : Nat), .int .i64 (most : Nat), .int .i64 ((prot * (size - most) / 100) : Nat), .int .i64 (m.req : Nat), .slice l.1.1 W.length l.1.2, .slice l.2.1.1 A.length l.2.1.2, .slice l.2.2.1 B.length l.2.2.2, .int .i64 ((atL 16 size) : Nat), .int .i64 0, .int .i64 (ad : Nat), .int .u64 (seed.toNat : Nat), .slice r.1.1 (atL 16 size) r.1.2, .slice r.2.1.1 (atL 16 size) r.2.1.2, .slice r.2.2.1.1 (atL 16 size) r.2.2.1.2, .slice r.2.2.2.1 (atL 16 size) r.2.2.2.2, .int .i64 3, .int .u64 (seed.toNat : Nat), .slice f.1 (atL 64 (8 * size)) f.2, .int .i64 3, .int .u64 (seed.toNat : Nat), .slice (some ⟨fq, 0, none⟩) (atL 64 (8 * size)) (atL 64 (8 * size))], RoS 2 a len cap (rows len fun i => [.int .i64 (Z i).1, .int .u32 ((Z i).2 : Nat)]), F]) (fun w => W.length - w.1.1) ⟨(0, z1), by omega, l1⟩ ?_
      rintro K2 ⟨⟨k, zs⟩, hk1, hk2⟩ hK2
      dsimp only at hk1 hk2 ⊢
      by_cases hkl : k < W.length
      · have hzl : k < zs.length := by omega
        repeat' (first | refine sts ?_ | refine And.intro ?_ ?_ | (intro e; exfalso; omega) | (intro e; subst e) | intro _)
        exact again hK2 ⟨(k + 1, zs.set k (IntKind.wrap .u32 (zs.getD k 0 + 1))), by omega, by dsimp only; rw [List.length_set]; exact hk2⟩
      · obtain rfl : k = W.length := by omega
        repeat' (first | refine sts ?_ | refine And.intro ?_ ?_ | (intro e; exfalso; omega) | (intro e; subst e) | intro _)
        exact again hK ⟨(1, zs, z2, z3), by omega, hk2, l2, l3⟩
    · repeat' (first | refine sts ?_ | refine And.intro ?_ ?_ | (intro e; exfalso; omega) | (intro e; subst e) | intro _)
      refine tc_lp (ι := {w : Nat × List Int // w.1 ≤ A.length ∧ w.2.length = A.length}) [14] (fun e w => (14, .int .i64 (w.1.1 : Nat)) :: e)
        (fun w => [Vec 27 1 (some ⟨bs, 0, none⟩) 3 3 [.slice wa W.length wb, .slice aa A.length ab, .slice ba B.length bb], Vec 41 1 wa W.length wb (intsV .u32 z1), Vec 41 1 aa A.length ab (intsV .u32 w.1.2), Vec 41 1 ba B.length bb (intsV .u32 z3), TinyAt p2 size most (prot * (size - most) / 100) (atL 16 size) seed W A B m, RoS 1 l.1.1 W.length l.1.2 (u32s W), RoS 1 l.2.1.1 A.length l.2.1.2 (u32s A), RoS 1 l.2.2.1 B.length l.2.2.2 (u32s B), RoS 1 r.1.1 (atL 16 size) r.1.2 (i64n m.c0), RoS 1 r.2.1.1 (atL 16 size) r.2.1.2 (i64n m.c1), RoS 1 r.2.2.1.1 (atL 16 size) r.2.2.1.2 (i64n m.c2), RoS 1 r.2.2.2.1 (atL 16 size) r.2.2.2.2 (i64n m.c3), RoS 1 f.1 (atL 64 (8 * size)) f.2 (bls m.b), obj b6 36 [.int .i64 (size : Nat), .int .i64 (most : Nat), .int .i64 ((prot * (size - most) / 100) : Nat), .int .i64 (m.req : Nat), .slice l.1.1 W.length l.1.2, .slice l.2.1.1 A.length l.2.1.2, .slice l.2.2.1 B.length l.2.2.2, .int .i64 ((atL 16 size) : Nat), .int .i64 0, .int .i64 (ad : Nat), .int .u64 (seed.toNat : Nat), .slice r.1.1 (atL 16 size) r.1.2, .slice r.2.1.1 (atL 16 size) r.2.1.2, .slice r.2.2.1.1 (atL 16 size) r.2.2.1.2, .slice r.2.2.2.1 (atL 16 size) r.2.2.2.2, .int .i64 3, .int .u64 (seed.toNat : Nat), .slice f.1 (atL 64 (8 * size)) f.2, .int .i64 3, .int .u64 (seed.toNat : Nat), .slice (some ⟨fq, 0, none⟩) (atL 64 (8 * size)) (atL 64 (8 * size))], RoS 2 a len cap (rows len fun i => [.int .i64 (Z i).1, .int .u32 ((Z i).2 : Nat)]), F]) (fun w => A.length - w.1.1) ⟨(0, z2), by omega, l2⟩ ?_
      rintro K2 ⟨⟨k, zs⟩, hk1, hk2⟩ hK2
      dsimp only at hk1 hk2 ⊢
      by_cases hkl : k < A.length
      · have hzl : k < zs.length := by omega
        repeat' (first | refine sts ?_ | refine And.intro ?_ ?_ | (intro e; exfalso; omega) | (intro e; subst e) | intro _)
        exact again hK2 ⟨(k + 1, zs.set k (IntKind.wrap .u32 (zs.getD k 0 + 1))), by omega, by dsimp only; rw [List.length_set]; exact hk2⟩
      · obtain rfl : k = A.length := by omega
        repeat' (first | refine sts ?_ | refine And.intro ?_ ?_ | (intro e; exfalso; omega) | (intro e; subst e) | intro _)
        exact again hK ⟨(2, z1, zs, z3), by omega, l1, hk2, l3⟩
    · repeat' (first | refine sts ?_ | refine And.intro ?_ ?_ | (intro e; exfalso; omega) | (intro e; subst e) | intro _)
      refine tc_lp (ι := {w : Nat × List Int // w.1 ≤ B.length ∧ w.2.length = B.length}) [14] (fun e w => (14, .int .i64 (w.1.1 : Nat)) :: e)
        (fun w => [Vec 27 1 (some ⟨bs, 0, none⟩) 3 3 [.slice wa W.length wb, .slice aa A.length ab, .slice ba B.length bb], Vec 41 1 wa W.length wb (intsV .u32 z1), Vec 41 1 aa A.length ab (intsV .u32 z2), Vec 41 1 ba B.length bb (intsV .u32 w.1.2), TinyAt p2 size most (prot * (size - most) / 100) (atL 16 size) seed W A B m, RoS 1 l.1.1 W.length l.1.2 (u32s W), RoS 1 l.2.1.1 A.length l.2.1.2 (u32s A), RoS 1 l.2.2.1 B.length l.2.2.2 (u32s B), RoS 1 r.1.1 (atL 16 size) r.1.2 (i64n m.c0), RoS 1 r.2.1.1 (atL 16 size) r.2.1.2 (i64n m.c1), RoS 1 r.2.2.1.1 (atL 16 size) r.2.2.1.2 (i64n m.c2), RoS 1 r.2.2.2.1 (atL 16 size) r.2.2.2.2 (i64n m.c3), RoS 1 f.1 (atL 64 (8 * size)) f.2 (bls m.b), obj b6 36 [.int .i64 (size : Nat), .int .i64 (most : Nat), .int .i64 ((prot * (size - most) / 100) : Nat), .int .i64 (m.req : Nat), .slice l.1.1 W.length l.1.2, .slice l.2.1.1 A.length l.2.1.2, .slice l.2.2.1 B.length l.2.2.2, .int .i64 ((atL 16 size) : Nat), .int .i64 0, .int .i64 (ad : Nat), .int .u64 (seed.toNat : Nat), .slice r.1.1 (atL 16 size) r.1.2, .slice r.2.1.1 (atL 16 size) r.2.1.2, .slice r.2.2.1.1 (atL 16 size) r.2.2.1.2, .slice r.2.2.2.1 (atL 16 size) r.2.2.2.2, .int .i64 3, .int .u64 (seed.toNat : Nat), .slice f.1 (atL 64 (8 * size)) f.2, .int .i64 3, .int .u64 (seed.toNat : Nat), .slice (some ⟨fq, 0, none⟩) (atL 64 (8 * size)) (atL 64 (8 * size))], RoS 2 a len cap (rows len fun i => [.int .i64 (Z i).1, .int .u32 ((Z i).2 : Nat)]), F]) (fun w => B.length - w.1.1) ⟨(0, z3), by omega, l3⟩ ?_
      rintro K2 ⟨⟨k, zs⟩, hk1, hk2⟩ hK2
      dsimp only at hk1 hk2 ⊢
      by_cases hkl : k < B.length
      · have hzl : k < zs.length := by omega
        repeat' (first | refine sts ?_ | refine And.intro ?_ ?_ | (intro e; exfalso; omega) | (intro e; subst e) | intro _)
        exact again hK2 ⟨(k + 1, zs.set k (IntKind.wrap .u32 (zs.getD k 0 + 1))), by omega, by dsimp only; rw [List.length_set]; exact hk2⟩
      · obtain rfl : k = B.length := by omega
        repeat' (first | refine sts ?_ | refine And.intro ?_ ?_ | (intro e; exfalso; omega) | (intro e; subst e) | intro _)
        exact again hK ⟨(3, z1, z2, zs), by omega, l1, l2, hk2⟩
    · repeat' (first | refine sts ?_ | refine And.intro ?_ ?_ | (intro e; exfalso; omega) | (intro e; subst e) | intro _)
      all_goals exact rt1 () rfl
  · refine spec_of Tryz.func6 rfl Tryz.ntmps6 rfl [(0, _), (1, _)] rfl ?_; intro base F l0 hl0; (try simp only [List.cons_append] at hl0); (try simp only [List.nil_append] at hl0); subst hl0
    repeat' (first | refine sts ?_ | refine And.intro ?_ ?_ | (intro e; exfalso; omega) | (intro e; subst e) | intro _)
    all_goals exact rt1 () rfl
end Go.Proofs.YtdpiglociolagaaGreat
