/- The laws of tiny, walked: THE THEOREM OF STAGE 35. -/
import Derived.Test.YtdpiglociolagaaGreatTyHv
import Derived.Test.YtdpiglociolagaaGreatSlMapN
namespace Go.Proofs.YtdpiglociolagaaGreat
open Go.Lk Go.Sl Go.Gh Go.Ms Go.Ty
attribute [local irreducible] TK TL TC Th Bk Nx fnPost WA TQ OpQ OpN SpecH Rd Ent IterH RoundH Rb Rp fnPostM
attribute [local irreducible] Ty.shS Ty.sumB Ty.plS Ty.at64 Ty.cAdd Ty.plB Ty.bA Ty.bS Ty.hasB Ty.addB Ty.Mem.note Ty.Mem.guess Ty.adN Ty.useW Ty.useHit Ty.useLeft Ty.useOut
set_option maxHeartbeats 32000000 in
theorem tyl_holds (x y z : Int) (seed : BitVec 64) (a : Option Addr) (len cap : Nat) (Z : Nat → Int × Nat) (hZ : ∀ i, i < len → (Z i).2 < 4294967296) : SpecH Tryz.prog 3 #[.agg #[.int .i64 x, .int .i64 y, .int .i64 z, .int .u64 (seed.toNat : Nat)], .slice a len cap] [RoS 2 a len cap (rows len fun i => [.int .i64 (Z i).1, .int .u32 ((Z i).2 : Nat)])] (fun _ : Unit => .bool true) (fun _ => []) := by
  by_cases hb : x < 2 ∨ 1024 < x ∨ y < 1 ∨ x ≤ y ∨ z < 0 ∨ 99 < z
  · refine spec_of Tryz.func3 rfl Tryz.ntmps3 rfl [(0, _), (1, _)] rfl ?_; intro base F l0 hl0; (try simp only [List.cons_append] at hl0); (try simp only [List.nil_append] at hl0); subst hl0
    repeat' (first | ((fail_if_success (refine atCall 8 ?_)); refine sts ?_) | refine And.intro ?_ ?_ | (intro e; exfalso; omega) | (intro e; subst e) | intro _)
    refine call (tyl_made_bad x y z (seed.toNat : Nat) hb) ?_
    repeat' (first | refine sts ?_ | refine And.intro ?_ ?_ | (intro e; exfalso; omega) | (intro e; subst e) | intro _)
    all_goals exact rt1 () rfl
  obtain ⟨size, rfl⟩ : ∃ N : Nat, x = N := ⟨x.toNat, by omega⟩
  obtain ⟨most, rfl⟩ : ∃ N : Nat, y = N := ⟨y.toNat, by omega⟩
  obtain ⟨prot, rfl⟩ : ∃ N : Nat, z = N := ⟨z.toNat, by omega⟩
  have okM : MemOk (atL 16 size) (atL 64 (8 * size)) (Mem.new (atL 16 size) (atL 64 (8 * size))) := MemOk.new (width_ok (by omega)) ⟨bits_ok (by omega)⟩
  by_cases h2 : 24 < size
  · refine spec_of Tryz.func3 rfl Tryz.ntmps3 rfl [(0, _), (1, _)] rfl ?_; intro base F l0 hl0; (try simp only [List.cons_append] at hl0); (try simp only [List.nil_append] at hl0); subst hl0
    repeat' (first | ((fail_if_success (refine atCall 8 ?_)); refine sts ?_) | refine And.intro ?_ ?_ | (intro e; exfalso; omega) | (intro e; subst e) | intro _)
    refine call (tyl_made_big size most prot seed h2 (by omega) (by omega) (by omega) (by omega)) ?_
    repeat' (first | refine sts ?_ | refine And.intro ?_ ?_ | (intro e; exfalso; omega) | (intro e; subst e) | intro _)
    all_goals exact rt1 () rfl
  by_cases hn : ¬ len ≤ 120
  · refine spec_of Tryz.func3 rfl Tryz.ntmps3 rfl [(0, _), (1, _)] rfl ?_; intro base F l0 hl0; (try simp only [List.cons_append] at hl0); (try simp only [List.nil_append] at hl0); subst hl0
    repeat' (first | refine sts ?_ | refine And.intro ?_ ?_ | (intro e; exfalso; omega) | (intro e; subst e) | intro _)
    all_goals exact rt1 () rfl
  have c1 : 2 ≤ size ∧ size ≤ 24 ∧ 1 ≤ most ∧ most < size ∧ prot ≤ 99 := by omega
  have hms : 0 < 10 * size := by omega
  have hlim : 100 * (prot * (size - most) / 100) ≤ prot * (size - most) := Nat.mul_div_le _ _
  have hX : prot * (size - most) ≤ 99 * 24 := Nat.mul_le_mul c1.2.2.2.2 (by omega)
  have eX : IntKind.i64.wrap ((prot : Int) * ((size : Int) - (most : Int))) = ((prot * (size - most) : Nat) : Int) := by
    rw [show (prot : Int) * ((size : Int) - (most : Int)) = ((prot * (size - most) : Nat) : Int) by rw [Int.natCast_mul, Int.natCast_sub (by omega)], IntKind.wrap_i64]; omega
  clear hb h2
  refine spec_of Tryz.func3 rfl Tryz.ntmps3 rfl [(0, _), (1, _)] rfl ?_; intro base F l0 hl0; (try simp only [List.cons_append] at hl0); (try simp only [List.nil_append] at hl0); subst hl0
  haveI := ty_useT
  haveI := ty_hasB
  haveI := tyl_dropC
  repeat' (first | refine sts ?_ | refine And.intro ?_ ?_ | (intro e; exfalso; omega) | (intro e; subst e) | intro _)
  rename_i b2 xa xb b6 bt
  obtain ⟨fq, p⟩ := xb
  dsimp only
  have hreq0 : (Mem.new (atL 16 size) (atL 64 (8 * size))).req = 0 := rfl
  generalize (Mem.new (atL 16 size) (atL 64 (8 * size))) = m0 at okM hreq0 ⊢
  generalize (atL 16 size) = w at okM ⊢
  generalize (atL 64 (8 * size)) = nn at okM ⊢
  generalize hL : (prot * (size - most) / 100) = lim at hlim ⊢
  clear hL
  refine TC.weak (env' := [(10, .int .i64 0), (9, .int .i64 0), (8, .map (some bt)), (5, .pointer (some ⟨p, 0, none⟩)), (4, .bool false), (2, .pointer (some ⟨b2, 0, none⟩)), (1, .slice a len cap)]) ?_ (by (repeat (first | exact Sub.nil | (apply Sub.cons; exact rfl))); done)
  refine tc_lp (ι := { x : Nat × St × Mem × Nat × List (Nat × Bool) // x.1 ≤ len ∧ HS w nn size x.2.1 x.2.2.1 x.2.2.2.1 x.2.2.2.2 x.1 }) [9, 10] (fun e x => (9, .int .i64 (x.1.2.2.2.1 : Nat)) :: (10, .int .i64 (x.1.1 : Nat)) :: e)
    (fun x => [TinyAt p size most lim w seed x.1.2.1.W x.1.2.1.A x.1.2.1.B x.1.2.2.1, MapA .u32 (fun b : Bool => .bool b) bt x.1.2.2.2.2, obj b2 24 [.int .i64 (size : Nat), .int .i64 (most : Nat), .int .i64 (prot : Nat), .int .u64 (seed.toNat : Nat)], RoS 2 a len cap (rows len fun i => [.int .i64 (Z i).1, .int .u32 ((Z i).2 : Nat)]), F]) (fun x => len - x.1.1) ⟨(0, ⟨[], [], []⟩, m0, 0, []), by omega, ⟨MS.nil, okM, by dsimp only; rw [hreq0, Nat.zero_mod], Nat.le_refl _⟩⟩ ?_
  rintro K ⟨⟨i, ⟨W, A, B⟩, m, rq, kt⟩, hi, hS⟩ hK
  dsimp only at hi hS ⊢
  by_cases hc : i < len
  · have hk := hZ i hc
    have hrle := hS.le
    refine TinyAt.factsC fun o ls hq => ?_
    have x2 := o.m2
    have x3 := o.w
    have x4 := o.ab
    have hktl := hS.t.len ls.nd
    rw [List.length_append, List.length_append] at hktl
    dsimp only at hktl
    repeat' (first | ((fail_if_success (refine atBlk 2 ?_)); refine sts ?_) | refine And.intro ?_ ?_ | (intro e; exfalso; omega) | (intro e; subst e) | intro _)
    rename_i b11
    refine cut (ι := { y : St × Mem × Nat × List (Nat × Bool) // HS w nn size y.1 y.2.1 y.2.2.1 y.2.2.2 (i + 1) }) (fun y => [(10, .int .i64 (i : Nat)), (9, .int .i64 (y.1.2.2.1 : Nat)), (11, .pointer (some ⟨b11, 0, none⟩)), (8, .map (some bt)), (5, .pointer (some ⟨p, 0, none⟩)), (4, .bool false), (2, .pointer (some ⟨b2, 0, none⟩)), (1, .slice a len cap)])
      (fun y => [obj b11 43 [.int .i64 (Z i).1, .int .u32 ((Z i).2 : Nat)], TinyAt p size most lim w seed y.1.1.W y.1.1.A y.1.1.B y.1.2.1, MapA .u32 (fun b : Bool => .bool b) bt y.1.2.2.2, obj b2 24 [.int .i64 (size : Nat), .int .i64 (most : Nat), .int .i64 (prot : Nat), .int .u64 (seed.toNat : Nat)], RoS 2 a len cap (rows len fun i => [.int .i64 (Z i).1, .int .u32 ((Z i).2 : Nat)]), F]) ?_ ?_
    · intro K hK2
      by_cases h0 : (Z i).1 = 0
      · refine TC.weak (env' := [(56, .int .i64 (Z i).1), (10, .int .i64 (i : Nat)), (9, .int .i64 (rq : Nat)), (11, .pointer (some ⟨b11, 0, none⟩)), (8, .map (some bt)), (5, .pointer (some ⟨p, 0, none⟩)), (4, .bool false), (2, .pointer (some ⟨b2, 0, none⟩)), (1, .slice a len cap)]) ?_ (by (repeat (first | exact Sub.nil | (apply Sub.cons; exact rfl))); done)
        refine TC.entail (l' := [obj b11 43 [.int .i64 (Z i).1, .int .u32 ((Z i).2 : Nat)], TinyAt p size most lim w seed W A B m, MapA .u32 (fun b : Bool => .bool b) bt kt, obj b2 24 [.int .i64 (size : Nat), .int .i64 (most : Nat), .int .i64 (prot : Nat), .int .u64 (seed.toNat : Nat)], RoS 2 a len cap (rows len fun i => [.int .i64 (Z i).1, .int .u32 ((Z i).2 : Nat)]), F]) ?_ en
        by_cases hin : In W A B (Z i).2
        · exact th_hit (by kernel_rfl) c1 o ls hS hktl (by omega) hc hk hrle h0 hin hK2
        · exact th_miss (by kernel_rfl) c1 o ls hS hktl (by omega) hc hk hrle h0 hin hK2
      by_cases h1 : (Z i).1 = 1
      · by_cases hin : In W A B (Z i).2
        · have hd : DropTo W A B (Z i).2 (W.erase (Z i).2) (A.erase (Z i).2) (B.erase (Z i).2) true := ⟨rfl, rfl, rfl, decide_eq_true (show _ ∈ W ∨ _ ∈ A ∨ _ ∈ B from hin)⟩
          have mt := hS.t.yes (in_app.2 hin)
          repeat' (first | refine sts ?_ | refine And.intro ?_ ?_ | (intro e; exfalso; omega) | (intro e; subst e) | intro _)
          exact fin hK2 ⟨(⟨W.erase (Z i).2, A.erase (Z i).2, B.erase (Z i).2⟩, m, rq, mdel kt (Z i).2), hS.drop ls⟩
        · have hd : DropTo W A B (Z i).2 (W.erase (Z i).2) (A.erase (Z i).2) (B.erase (Z i).2) false := ⟨rfl, rfl, rfl, decide_eq_false (show ¬ (_ ∈ W ∨ _ ∈ A ∨ _ ∈ B) from hin)⟩
          have mt := hS.t.no (fun h => hin (in_app.1 h))
          repeat' (first | refine sts ?_ | refine And.intro ?_ ?_ | (intro e; exfalso; omega) | (intro e; subst e) | intro _)
          exact fin hK2 ⟨(⟨W.erase (Z i).2, A.erase (Z i).2, B.erase (Z i).2⟩, m, rq, mdel kt (Z i).2), hS.drop ls⟩
      · repeat' (first | refine sts ?_ | refine And.intro ?_ ?_ | (intro e; exfalso; omega) | (intro e; subst e) | intro _)
        exact fin hK2 ⟨(⟨W, A, B⟩, m, rq, kt), ⟨hS.t, hS.ok, hS.req, Nat.le_succ_of_le hS.le⟩⟩
    · rintro ⟨⟨⟨W, A, B⟩, m, rq, kt⟩, hS⟩
      dsimp only at hS ⊢
      refine TinyAt.factsK fun o ls hq => ?_
      have x2 := o.m2
      have x3 := o.w
      have x4 := o.ab
      have x5 := o.b
      have nd3 := ls.nd
      have hktl := hS.t.len nd3
      rw [List.length_append, List.length_append] at hktl
      dsimp only at hktl
      have hrle := hS.le
      repeat' (first | refine sts ?_ | refine And.intro ?_ ?_ | (intro e; exfalso; omega) | (intro e; subst e) | intro _)
      rw [eX]
      repeat' (first | refine sts ?_ | refine And.intro ?_ ?_ | (intro e; exfalso; omega) | (intro e; subst e) | intro _)
      rename_i xa xb bl bs
      obtain ⟨wa, wb⟩ := xa
      obtain ⟨⟨aa, ab⟩, ba, bb⟩ := xb
      dsimp only
      refine tc_lp (ι := {w : Nat × List (Nat × Int) // w.1 ≤ 3 ∧ MS (1 : Int) w.2 (preT W A B w.1)}) [250] (fun e w => (250, .int .i64 (w.1.1 : Nat)) :: e)
        (fun v => [MapA .u32 (fun z : Int => .int .i64 z) bl v.1.2, Vec 27 1 (some ⟨bs, 0, none⟩) 3 3 [.slice wa W.length wb, .slice aa A.length ab, .slice ba B.length bb], Vec 41 1 wa W.length wb (u32s W), Vec 41 1 aa A.length ab (u32s A), Vec 41 1 ba B.length bb (u32s B), TinyAt p size most lim w seed W A B m, MapA .u32 (fun b : Bool => .bool b) bt kt, obj b11 43 [.int .i64 (Z i).1, .int .u32 ((Z i).2 : Nat)], obj b2 24 [.int .i64 (size : Nat), .int .i64 (most : Nat), .int .i64 (prot : Nat), .int .u64 (seed.toNat : Nat)], RoS 2 a len cap (rows len fun i => [.int .i64 (Z i).1, .int .u32 ((Z i).2 : Nat)]), F]) (fun w => 3 - w.1.1) ⟨(0, []), by omega, MS.nil⟩ ?_
      rintro K3 ⟨⟨u, ka⟩, hu, hA⟩ hK3
      dsimp only at hu hA ⊢
      obtain rfl | rfl | rfl | rfl : u = 0 ∨ u = 1 ∨ u = 2 ∨ u = 3 := by omega
      · repeat' (first | refine sts ?_ | refine And.intro ?_ ?_ | (intro e; exfalso; omega) | (intro e; subst e) | intro _)
        refine tc_lp (ι := {w : Nat × List (Nat × Int) // w.1 ≤ W.length ∧ MS (1 : Int) w.2 ([] ++ W.take w.1)}) [256] (fun e w => (256, .int .i64 (w.1.1 : Nat)) :: e)
          (fun v => [MapA .u32 (fun z : Int => .int .i64 z) bl v.1.2, Vec 27 1 (some ⟨bs, 0, none⟩) 3 3 [.slice wa W.length wb, .slice aa A.length ab, .slice ba B.length bb], Vec 41 1 wa W.length wb (u32s W), Vec 41 1 aa A.length ab (u32s A), Vec 41 1 ba B.length bb (u32s B), TinyAt p size most lim w seed W A B m, MapA .u32 (fun b : Bool => .bool b) bt kt, obj b11 43 [.int .i64 (Z i).1, .int .u32 ((Z i).2 : Nat)], obj b2 24 [.int .i64 (size : Nat), .int .i64 (most : Nat), .int .i64 (prot : Nat), .int .u64 (seed.toNat : Nat)], RoS 2 a len cap (rows len fun i => [.int .i64 (Z i).1, .int .u32 ((Z i).2 : Nat)]), F]) (fun w => W.length - w.1.1) ⟨(0, ka), by omega, by simpa [preT] using hA⟩ ?_
        rintro K4 ⟨⟨j, ka⟩, hj, hA⟩ hK4
        dsimp only at hj hA ⊢
        by_cases hjl : j < W.length
        · have hm := getD_mem hjl
          obtain ⟨ha1, ha2⟩ := all_step hA (nd3.sublist (by simp only [List.append_assoc]; exact List.sublist_append_left _ _)) hjl
          have hp : mget (mput ka (W.getD j 0) (0 + 1)) (W.getD j 0) = some ((0 : Int) + 1) := by rw [mget_put, if_pos rfl]
          have hin : In W A B (W.getD j 0) := .inl hm
          have mt := hS.t.yes (in_app.2 hin)
          have hh : Mem3 W A B (W.getD j 0) true := ⟨decide_eq_true (show _ ∈ W ∨ _ ∈ A ∨ _ ∈ B from hin)⟩
          repeat' (first | refine sts ?_ | refine And.intro ?_ ?_ | (intro e; exfalso; omega) | (intro e; subst e) | intro _)
          exact again hK4 ⟨(j + 1, mput ka (W.getD j 0) (0 + 1)), by omega, ha2⟩
        · obtain rfl : j = W.length := by omega
          rw [List.take_length] at hA
          repeat' (first | refine sts ?_ | refine And.intro ?_ ?_ | (intro e; exfalso; omega) | (intro e; subst e) | intro _)
          exact again hK3 ⟨(1, ka), by omega, hA⟩
      · repeat' (first | refine sts ?_ | refine And.intro ?_ ?_ | (intro e; exfalso; omega) | (intro e; subst e) | intro _)
        refine tc_lp (ι := {w : Nat × List (Nat × Int) // w.1 ≤ A.length ∧ MS (1 : Int) w.2 (W ++ A.take w.1)}) [256] (fun e w => (256, .int .i64 (w.1.1 : Nat)) :: e)
          (fun v => [MapA .u32 (fun z : Int => .int .i64 z) bl v.1.2, Vec 27 1 (some ⟨bs, 0, none⟩) 3 3 [.slice wa W.length wb, .slice aa A.length ab, .slice ba B.length bb], Vec 41 1 wa W.length wb (u32s W), Vec 41 1 aa A.length ab (u32s A), Vec 41 1 ba B.length bb (u32s B), TinyAt p size most lim w seed W A B m, MapA .u32 (fun b : Bool => .bool b) bt kt, obj b11 43 [.int .i64 (Z i).1, .int .u32 ((Z i).2 : Nat)], obj b2 24 [.int .i64 (size : Nat), .int .i64 (most : Nat), .int .i64 (prot : Nat), .int .u64 (seed.toNat : Nat)], RoS 2 a len cap (rows len fun i => [.int .i64 (Z i).1, .int .u32 ((Z i).2 : Nat)]), F]) (fun w => A.length - w.1.1) ⟨(0, ka), by omega, by simpa [preT] using hA⟩ ?_
        rintro K4 ⟨⟨j, ka⟩, hj, hA⟩ hK4
        dsimp only at hj hA ⊢
        by_cases hjl : j < A.length
        · have hm := getD_mem hjl
          obtain ⟨ha1, ha2⟩ := all_step hA (nd3.sublist (List.sublist_append_left _ _)) hjl
          have hp : mget (mput ka (A.getD j 0) (0 + 1)) (A.getD j 0) = some ((0 : Int) + 1) := by rw [mget_put, if_pos rfl]
          have hin : In W A B (A.getD j 0) := .inr (.inl hm)
          have mt := hS.t.yes (in_app.2 hin)
          have hh : Mem3 W A B (A.getD j 0) true := ⟨decide_eq_true (show _ ∈ W ∨ _ ∈ A ∨ _ ∈ B from hin)⟩
          repeat' (first | refine sts ?_ | refine And.intro ?_ ?_ | (intro e; exfalso; omega) | (intro e; subst e) | intro _)
          exact again hK4 ⟨(j + 1, mput ka (A.getD j 0) (0 + 1)), by omega, ha2⟩
        · obtain rfl : j = A.length := by omega
          rw [List.take_length] at hA
          repeat' (first | refine sts ?_ | refine And.intro ?_ ?_ | (intro e; exfalso; omega) | (intro e; subst e) | intro _)
          exact again hK3 ⟨(2, ka), by omega, hA⟩
      · repeat' (first | refine sts ?_ | refine And.intro ?_ ?_ | (intro e; exfalso; omega) | (intro e; subst e) | intro _)
        refine tc_lp (ι := {w : Nat × List (Nat × Int) // w.1 ≤ B.length ∧ MS (1 : Int) w.2 ((W ++ A) ++ B.take w.1)}) [256] (fun e w => (256, .int .i64 (w.1.1 : Nat)) :: e)
          (fun v => [MapA .u32 (fun z : Int => .int .i64 z) bl v.1.2, Vec 27 1 (some ⟨bs, 0, none⟩) 3 3 [.slice wa W.length wb, .slice aa A.length ab, .slice ba B.length bb], Vec 41 1 wa W.length wb (u32s W), Vec 41 1 aa A.length ab (u32s A), Vec 41 1 ba B.length bb (u32s B), TinyAt p size most lim w seed W A B m, MapA .u32 (fun b : Bool => .bool b) bt kt, obj b11 43 [.int .i64 (Z i).1, .int .u32 ((Z i).2 : Nat)], obj b2 24 [.int .i64 (size : Nat), .int .i64 (most : Nat), .int .i64 (prot : Nat), .int .u64 (seed.toNat : Nat)], RoS 2 a len cap (rows len fun i => [.int .i64 (Z i).1, .int .u32 ((Z i).2 : Nat)]), F]) (fun w => B.length - w.1.1) ⟨(0, ka), by omega, by simpa [preT] using hA⟩ ?_
        rintro K4 ⟨⟨j, ka⟩, hj, hA⟩ hK4
        dsimp only at hj hA ⊢
        by_cases hjl : j < B.length
        · have hm := getD_mem hjl
          obtain ⟨ha1, ha2⟩ := all_step hA (nd3.sublist (List.Sublist.refl _)) hjl
          have hp : mget (mput ka (B.getD j 0) (0 + 1)) (B.getD j 0) = some ((0 : Int) + 1) := by rw [mget_put, if_pos rfl]
          have hin : In W A B (B.getD j 0) := .inr (.inr hm)
          have mt := hS.t.yes (in_app.2 hin)
          have hh : Mem3 W A B (B.getD j 0) true := ⟨decide_eq_true (show _ ∈ W ∨ _ ∈ A ∨ _ ∈ B from hin)⟩
          repeat' (first | refine sts ?_ | refine And.intro ?_ ?_ | (intro e; exfalso; omega) | (intro e; subst e) | intro _)
          exact again hK4 ⟨(j + 1, mput ka (B.getD j 0) (0 + 1)), by omega, ha2⟩
        · obtain rfl : j = B.length := by omega
          rw [List.take_length] at hA
          repeat' (first | refine sts ?_ | refine And.intro ?_ ?_ | (intro e; exfalso; omega) | (intro e; subst e) | intro _)
          exact again hK3 ⟨(3, ka), by omega, hA⟩
      · repeat' (first | refine sts ?_ | refine And.intro ?_ ?_ | (intro e; exfalso; omega) | (intro e; subst e) | intro _)
        exact again hK ⟨(i + 1, ⟨W, A, B⟩, m, rq, kt), by omega, hS⟩
  · repeat' (first | refine sts ?_ | refine And.intro ?_ ?_ | (intro e; exfalso; omega) | (intro e; subst e) | intro _)
    exact rt1 () rfl
end Go.Proofs.YtdpiglociolagaaGreat
