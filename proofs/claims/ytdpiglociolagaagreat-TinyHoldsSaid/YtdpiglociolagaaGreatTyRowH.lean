/- cubbyholelaw35.TinyHolds returns true for every input, and leaves its arguments as they were. No condition. -/
import Derived.Test.YtdpiglociolagaaGreatTyHold
import Derived.Test.YtdpiglociolagaaGreatSlE
namespace Go.Proofs.YtdpiglociolagaaGreat
open Go.ChangeShapes Go.WideShapes Go.ChangeAt Go.RowKit Go.Sl Go.Deep
theorem own : ownKnob Tryz.prog.godebug = none := by kernel_rfl
theorem laid : laidOutB Tryz.prog = true := by kernel_rfl
theorem nat_u32 {z : Int} (h : (Lit.int .u32 z).wf = true) : ∃ n : Nat, z = n ∧ n < 4294967296 := by
  have k1 : IntKind.min .u32 = 0 := rfl
  have k2 : IntKind.max .u32 = 4294967295 := rfl
  simp only [Lit.wf, Bool.and_eq_true, decide_eq_true_iff, k1, k2] at h
  exact ⟨z.toNat, by omega, by omega⟩
theorem nat_u64 {z : Int} (h : (Lit.int .u64 z).wf = true) : ∃ n : Nat, z = n ∧ n < 18446744073709551616 := by
  have k1 : IntKind.min .u64 = 0 := rfl
  have k2 : IntKind.max .u64 = 18446744073709551615 := rfl
  simp only [Lit.wf, Bool.and_eq_true, decide_eq_true_iff, k1, k2] at h
  exact ⟨z.toNat, by omega, by omega⟩
section
variable {H : Type} {enc : TypeId × Value → H} {W : World}
set_option maxRecDepth 100000 in
theorem row0_open {fuel : Nat} {cs : List Value} {x : DataW H × List MemPlace} (h : DataW.trod enc Tryz.prog W 0 (fun _ => true) true fuel 24 cs = some x) :
    ∃ q : Int × Int × Int × Nat, cs = [.int .i64 (q.1 : Int), .int .i64 (q.2.1 : Int), .int .i64 (q.2.2.1 : Int), .int .u64 (q.2.2.2 : Nat)] ∧ q.2.2.2 < 18446744073709551616 := by
  obtain ⟨xs, n, _, _, hl, hxl, hf⟩ := DataW.trod_struct Tryz.underlying24 h
  have hl6 : cs.length = 4 := hl.trans (by kernel_rfl)
  have hx6 : xs.length = 4 := hxl
  have k_int : Tryz.prog.cellsOf 3 = 1 := by kernel_rfl
  have k_u64 : Tryz.prog.cellsOf 22 = 1 := by kernel_rfl
  match cs, hl6 with
  | [c0, c1, c2, c3], _ =>
    have f0 : DataW.trod enc Tryz.prog W 0 (fun _ => true) true n 3 (([c0, c1, c2, c3].drop 0).take (Tryz.prog.cellsOf 3)) = xs[0]? := hf 0 _ rfl
    have f1 : DataW.trod enc Tryz.prog W 0 (fun _ => true) true n 3 (([c0, c1, c2, c3].drop 1).take (Tryz.prog.cellsOf 3)) = xs[1]? := hf 1 _ rfl
    have f2 : DataW.trod enc Tryz.prog W 0 (fun _ => true) true n 3 (([c0, c1, c2, c3].drop 2).take (Tryz.prog.cellsOf 3)) = xs[2]? := hf 2 _ rfl
    have f3 : DataW.trod enc Tryz.prog W 0 (fun _ => true) true n 22 (([c0, c1, c2, c3].drop 3).take (Tryz.prog.cellsOf 22)) = xs[3]? := hf 3 _ rfl
    simp only [k_int, k_u64, List.drop_zero, List.drop_succ_cons, List.take_succ_cons, List.take_zero] at f0 f1 f2 f3
    rw [List.getElem?_eq_getElem (by omega)] at f0 f1 f2 f3
    obtain ⟨z0, e0, _, w0⟩ := DataW.trod_int Tryz.underlying3 f0
    obtain ⟨z1, e1, _, w1⟩ := DataW.trod_int Tryz.underlying3 f1
    obtain ⟨z2, e2, _, w2⟩ := DataW.trod_int Tryz.underlying3 f2
    obtain ⟨z3, e3, _, w3⟩ := DataW.trod_int Tryz.underlying22 f3
    obtain ⟨n3, rfl, h3⟩ := nat_u64 w3
    simp only [List.cons.injEq, and_true] at e0 e1 e2 e3
    exact ⟨⟨z0, z1, z2, n3⟩, by rw [e0, e1, e2, e3], h3⟩
end
section
variable {H : Type} {enc : TypeId × Value → H} {W : World}
set_option maxRecDepth 100000 in
theorem row1_open {fuel : Nat} {cs : List Value} {x : DataW H × List MemPlace} (h : DataW.trod enc Tryz.prog W 0 (fun _ => true) true fuel 43 cs = some x) :
    ∃ q : Int × Nat, cs = [.int .i64 (q.1 : Int), .int .u32 (q.2 : Nat)] ∧ q.2 < 4294967296 := by
  obtain ⟨xs, n, _, _, hl, hxl, hf⟩ := DataW.trod_struct Tryz.underlying43 h
  have hl6 : cs.length = 2 := hl.trans (by kernel_rfl)
  have hx6 : xs.length = 2 := hxl
  have k_int : Tryz.prog.cellsOf 3 = 1 := by kernel_rfl
  have k_u32 : Tryz.prog.cellsOf 41 = 1 := by kernel_rfl
  match cs, hl6 with
  | [c0, c1], _ =>
    have f0 : DataW.trod enc Tryz.prog W 0 (fun _ => true) true n 3 (([c0, c1].drop 0).take (Tryz.prog.cellsOf 3)) = xs[0]? := hf 0 _ rfl
    have f1 : DataW.trod enc Tryz.prog W 0 (fun _ => true) true n 41 (([c0, c1].drop 1).take (Tryz.prog.cellsOf 41)) = xs[1]? := hf 1 _ rfl
    simp only [k_int, k_u32, List.drop_zero, List.drop_succ_cons, List.take_succ_cons, List.take_zero] at f0 f1
    rw [List.getElem?_eq_getElem (by omega)] at f0 f1
    obtain ⟨z0, e0, _, w0⟩ := DataW.trod_int Tryz.underlying3 f0
    obtain ⟨z1, e1, _, w1⟩ := DataW.trod_int Tryz.underlying41 f1
    obtain ⟨n1, rfl, h1⟩ := nat_u32 w1
    simp only [List.cons.injEq, and_true] at e0 e1
    exact ⟨⟨z0, n1⟩, by rw [e0, e1], h1⟩
theorem row1_bears {v : Value} {d : DataW H} {ps : List MemPlace} (hval : ∀ cs, v ≠ .agg cs) (h : DataW.Trod enc Tryz.prog W 0 (fun _ => true) true 25 v d ps) :
    ∃ (a : Option Addr) (n cap : Nat) (Q : Nat → Int × Nat), v = .slice a n cap ∧ (∀ i, i < n → (Q i).2 < 4294967296) ∧ Bears W (RoS 2 a n cap (rows n fun i => [.int .i64 ((Q i).1 : Int), .int .u32 ((Q i).2 : Nat)])) := by
  obtain ⟨fuel, hf⟩ := h
  have hv : v.cells.toList = [v] := by cases v <;> first | rfl | exact absurd rfl (hval _)
  rw [hv] at hf
  have k51 : Tryz.prog.cellsOf 43 = 2 := by kernel_rfl
  rcases open_slice Tryz.underlying25 hf with ⟨h1, _⟩ | ⟨a, len, cap, m, n, D, Pl, h1, hb, hl, hm, hmm, _, hx⟩
  · obtain rfl := (List.cons.inj h1).1
    exact ⟨none, 0, 0, fun _ => ⟨0, 0⟩, rfl, by omega, ⟨fun _ => none, .inl ⟨rfl, rfl, rfl, rfl⟩, fun k x h => by cases h⟩⟩
  · obtain rfl := (List.cons.inj h1).1
    simp only [if_true] at hmm
    subst m
    rw [k51] at hx
    have hQ0 : ∀ i, ∃ q : Int × Nat, i < cap → W.cells? 0 (a.add (i * 2)) 2 = some [.int .i64 (q.1 : Int), .int .u32 (q.2 : Nat)] ∧ q.2 < 4294967296 := fun i => by
      by_cases hi : i < cap
      · obtain ⟨cs', h2, h3⟩ := hx i hi
        obtain ⟨q, e, h4⟩ := row1_open h3
        exact ⟨q, fun _ => ⟨by rw [h2, e], h4⟩⟩
      · exact ⟨⟨0, 0⟩, fun h => absurd h hi⟩
    have hQ := fun i => Classical.choose_spec (hQ0 i)
    refine ⟨some a, len, cap, fun i => Classical.choose (hQ0 i), rfl, fun i hi => (hQ i (by omega)).2, bears_rows (by decide) (fun _ => rfl) hl fun i hi => (hQ i hi).1⟩
end
theorem tinyHolds_ok : LawOk Tryz.prog Tryz.f3 Rows.tinyHoldsSpec := ⟨laid, by kernel_rfl, rfl, ⟨4, rfl, Tryz.underlying4⟩, fun H ds h => by
  match ds, h with
  | [_, _], _ => exact ⟨rfl, rfl, rfl⟩⟩
set_option maxRecDepth 100000 in
theorem tinyHolds_lifted (os : Os) (started : os.Started) (H : Type) (enc : TypeId × Value → H) :
    ReturnsInHanded {} Tryz.checked os 3 .any (Rows.tinyHoldsSpec.pre6 enc Tryz.prog Tryz.f3 Rows.tinyHoldsRow.domain false) (Rows.tinyHoldsSpec.post enc Tryz.prog Tryz.f3 false true false false) := by
  refine returnsInHanded_of_change (C := Tryz.checked) own started (by kernel_rfl) Tryz.func3
    (ChangeSpec.witness6 (enc := enc) (C := Tryz.checked) false ⟨#[], #[.agg #[.int .i64 0, .int .i64 0, .int .i64 0, .int .u64 0], .slice none 0 0], []⟩ 8 (by kernel_rfl) (by kernel_rfl) (by kernel_rfl) (by kernel_rfl)) ?_
  intro W base args ds gs before hval0 hW hcnd _
  have hval : ∀ (j : Nat) t v, Tryz.f3.params[j]? = some t → args[j]? = some v → Value.okWide Tryz.prog W .any base t v := hval0
  have hW' := hW
  obtain ⟨p, q, hA0, hV, rfl, hfz, hnd⟩ := hW
  have hA : DataW.TrodAll enc Tryz.prog W 0 (fun _ => true) true Tryz.f3.params.toList args.toList ds p := hA0
  rw [Tryz.params3] at hA hval
  obtain ⟨v0, vs0, d0, ds0, p0, q0, hargs, rfl, rfl, h0, r0⟩ := trodAll_cons hA
  obtain ⟨v1, vs1, d1, ds1, p1, q1, rfl, rfl, rfl, h1, r1⟩ := trodAll_cons r0
  obtain ⟨rfl, rfl, rfl⟩ := trodAll_nil r1
  obtain rfl : args = #[v0, v1] := by cases args; simp_all
  obtain ⟨cs0, rfl, _⟩ := okWide_struct Tryz.underlying24 (hval 0 24 v0 rfl rfl)
  obtain ⟨fu0, hf0⟩ := h0
  obtain ⟨⟨g0_0, g0_1, g0_2, g0_3⟩, e0, b0_3⟩ := row0_open hf0
  obtain rfl : cs0 = #[.int .i64 (g0_0 : Int), .int .i64 (g0_1 : Int), .int .i64 (g0_2 : Int), .int .u64 (g0_3 : Nat)] := Array.ext' e0
  obtain ⟨s0_3, rfl⟩ : ∃ s : BitVec 64, g0_3 = s.toNat := ⟨BitVec.ofNat 64 g0_3, by rw [BitVec.toNat_ofNat]; exact (Nat.mod_eq_of_lt b0_3).symm⟩
  obtain ⟨a1, n1, c1, Q1, rfl, b1, B1⟩ := row1_bears (okWide_slice Tryz.underlying25 (hval 1 25 v1 rfl rfl)) h1
  exact law_calls tinyHolds_ok hW' (tyl_holds g0_0 g0_1 g0_2 s0_3 a1 n1 c1 Q1 b1) (fun x hx => by
    simp only [List.mem_cons, List.not_mem_nil, or_false] at hx
    subst hx
    exact B1)
theorem tinyHolds_proved : Rows.TinyHoldsSaid :=
  OpenClaim.holds_of_wide 3 Tryz.f3 rfl rfl rfl rfl rfl rfl rfl ⟨rfl, rfl, rfl, rfl, rfl⟩ rfl rfl rfl rfl rfl (by kernel_rfl) Tryz.func3 (by kernel_rfl)
    (of_decide_eq_true (by kernel_rfl)) (by unfold Func.isWrapper; first | (rw [if_pos (by decide +kernel)]; kernel_rfl) | (rw [if_neg (by decide +kernel)]; exact ⟨rfl, rfl⟩))
    (fun os started H enc _ => tinyHolds_lifted os started H enc)
#print axioms tinyHolds_proved
end Go.Proofs.YtdpiglociolagaaGreat
