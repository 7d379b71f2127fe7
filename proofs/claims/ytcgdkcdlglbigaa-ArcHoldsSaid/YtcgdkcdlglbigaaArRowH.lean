/- cubbyholelaw29.ArcHolds returns true for every input, and leaves its arguments as they were. No condition. -/
import Derived.Test.YtcgdkcdlglbigaaArL8
import Derived.Test.YtcgdkcdlglbigaaSlE
namespace Go.Proofs.Ytcgdkcdlglbigaa
open Go.ChangeShapes Go.WideShapes Go.ChangeAt Go.RowKit Go.Sl Go.Deep
theorem own : ownKnob Try.prog.godebug = none := by kernel_rfl
theorem laid : laidOutB Try.prog = true := by kernel_rfl
theorem nat_u32 {z : Int} (h : (Lit.int .u32 z).wf = true) : ∃ n : Nat, z = n ∧ n < 4294967296 := by
  have k1 : IntKind.min .u32 = 0 := rfl
  have k2 : IntKind.max .u32 = 4294967295 := rfl
  simp only [Lit.wf, Bool.and_eq_true, decide_eq_true_iff, k1, k2] at h
  exact ⟨z.toNat, by omega, by omega⟩
section
variable {H : Type} {enc : TypeId × Value → H} {W : World}
set_option maxRecDepth 100000 in
theorem row1_open {fuel : Nat} {cs : List Value} {x : DataW H × List MemPlace} (h : DataW.trod enc Try.prog W 0 (fun _ => true) true fuel 73 cs = some x) :
    ∃ q : Int × Nat, cs = [.int .i64 (q.1 : Int), .int .u32 (q.2 : Nat)] ∧ q.2 < 4294967296 := by
  obtain ⟨xs, n, _, _, hl, hxl, hf⟩ := DataW.trod_struct Try.underlying73 h
  have hl6 : cs.length = 2 := hl.trans (by kernel_rfl)
  have hx6 : xs.length = 2 := hxl
  have k_int : Try.prog.cellsOf 3 = 1 := by kernel_rfl
  have k_u32 : Try.prog.cellsOf 31 = 1 := by kernel_rfl
  match cs, hl6 with
  | [c0, c1], _ =>
    have f0 : DataW.trod enc Try.prog W 0 (fun _ => true) true n 3 (([c0, c1].drop 0).take (Try.prog.cellsOf 3)) = xs[0]? := hf 0 _ rfl
    have f1 : DataW.trod enc Try.prog W 0 (fun _ => true) true n 31 (([c0, c1].drop 1).take (Try.prog.cellsOf 31)) = xs[1]? := hf 1 _ rfl
    simp only [k_int, k_u32, List.drop_zero, List.drop_succ_cons, List.take_succ_cons, List.take_zero] at f0 f1
    rw [List.getElem?_eq_getElem (by omega)] at f0 f1
    obtain ⟨z0, e0, _, w0⟩ := DataW.trod_int Try.underlying3 f0
    obtain ⟨z1, e1, _, w1⟩ := DataW.trod_int Try.underlying31 f1
    obtain ⟨n1, rfl, h1⟩ := nat_u32 w1
    simp only [List.cons.injEq, and_true] at e0 e1
    exact ⟨⟨z0, n1⟩, by rw [e0, e1], h1⟩
theorem row1_bears {v : Value} {d : DataW H} {ps : List MemPlace} (hval : ∀ cs, v ≠ .agg cs) (h : DataW.Trod enc Try.prog W 0 (fun _ => true) true 69 v d ps) :
    ∃ (a : Option Addr) (n cap : Nat) (Q : Nat → Int × Nat), v = .slice a n cap ∧ (∀ i, i < n → (Q i).2 < 4294967296) ∧ Bears W (RoS 2 a n cap (rows n fun i => [.int .i64 ((Q i).1 : Int), .int .u32 ((Q i).2 : Nat)])) := by
  obtain ⟨fuel, hf⟩ := h
  have hv : v.cells.toList = [v] := by cases v <;> first | rfl | exact absurd rfl (hval _)
  rw [hv] at hf
  have k51 : Try.prog.cellsOf 73 = 2 := by kernel_rfl
  rcases open_slice Try.underlying69 hf with ⟨h1, _⟩ | ⟨a, len, cap, m, n, D, Pl, h1, hb, hl, hm, hmm, _, hx⟩
  · obtain rfl := (List.cons.inj h1).1
    exact ⟨none, 0, 0, fun _ => ⟨0, 0⟩, rfl, by omega, ⟨fun _ => none, .inl ⟨rfl, rfl, rfl, rfl⟩, fun k x h => by cases h⟩⟩
  · obtain rfl := (List.cons.inj h1).1
    simp only [if_true] at hmm
    subst m
    rw [k51] at hx
    have hQ0 : ∀ i, ∃ q : Int × Nat, i < cap → W.cells? 0 (a.add (i * 2)) 2 = some [.int .i64 (q.1 : Int), .int .u32 (q.2 : Nat)] ∧ q.2 < 4294967296 := fun i => by
      by_cases hi : i < cap
      · obtain ⟨cs', h2, h3⟩ := hx i hi
        obtain ⟨q, e, h4⟩ := row1_open h3
        exact ⟨q, fun _ => ⟨by rw [h2, e], h4⟩⟩
      · exact ⟨⟨0, 0⟩, fun h => absurd h hi⟩
    have hQ := fun i => Classical.choose_spec (hQ0 i)
    refine ⟨some a, len, cap, fun i => Classical.choose (hQ0 i), rfl, fun i hi => (hQ i (by omega)).2, bears_rows (by decide) (fun _ => rfl) hl fun i hi => (hQ i hi).1⟩
end
theorem arcHolds_ok : LawOk Try.prog Try.f9 Rows.arcHoldsSpec := ⟨laid, by kernel_rfl, rfl, ⟨4, rfl, Try.underlying4⟩, fun H ds h => by
  match ds, h with
  | [_, _], _ => exact ⟨rfl, rfl, rfl⟩⟩
set_option maxRecDepth 100000 in
theorem arcHolds_lifted (os : Os) (started : os.Started) (H : Type) (enc : TypeId × Value → H) :
    ReturnsInHanded {} Try.checked os 9 .any (Rows.arcHoldsSpec.pre6 enc Try.prog Try.f9 Rows.arcHoldsRow.domain false) (Rows.arcHoldsSpec.post enc Try.prog Try.f9 false true false false) := by
  refine returnsInHanded_of_change (C := Try.checked) own started (by kernel_rfl) Try.func9
    (ChangeSpec.witness6 (enc := enc) (C := Try.checked) false ⟨#[], #[.int .i64 0, .slice none 0 0], []⟩ 8 (by kernel_rfl) (by kernel_rfl) (by kernel_rfl) (by kernel_rfl)) ?_
  intro W base args ds gs before hval0 hW hcnd _
  have hval : ∀ (j : Nat) t v, Try.f9.params[j]? = some t → args[j]? = some v → Value.okWide Try.prog W .any base t v := hval0
  have hW' := hW
  obtain ⟨p, q, hA0, hV, rfl, hfz, hnd⟩ := hW
  have hA : DataW.TrodAll enc Try.prog W 0 (fun _ => true) true Try.f9.params.toList args.toList ds p := hA0
  rw [Try.params9] at hA hval
  obtain ⟨v0, vs0, d0, ds0, p0, q0, hargs, rfl, rfl, h0, r0⟩ := trodAll_cons hA
  obtain ⟨v1, vs1, d1, ds1, p1, q1, rfl, rfl, rfl, h1, r1⟩ := trodAll_cons r0
  obtain ⟨rfl, rfl, rfl⟩ := trodAll_nil r1
  obtain rfl : args = #[v0, v1] := by cases args; simp_all
  obtain ⟨a0, rfl, _, _, w0⟩ := open_int Try.underlying3 (hval 0 3 v0 rfl rfl) h0
  obtain ⟨a1, n1, c1, Q1, rfl, b1, B1⟩ := row1_bears (okWide_slice Try.underlying69 (hval 1 69 v1 rfl rfl)) h1
  exact law_calls arcHolds_ok hW' (arl_holds a0 a1 n1 c1 Q1 b1) (fun x hx => by
    simp only [List.mem_cons, List.not_mem_nil, or_false] at hx
    subst hx
    exact B1)
theorem arcHolds_proved : Rows.ArcHoldsSaid :=
  OpenClaim.holds_of_wide 9 Try.f9 rfl rfl rfl rfl rfl rfl rfl ⟨rfl, rfl, rfl, rfl, rfl⟩ rfl rfl rfl rfl rfl (by kernel_rfl) Try.func9 (by kernel_rfl)
    (of_decide_eq_true (by kernel_rfl)) (by unfold Func.isWrapper; first | (rw [if_pos (by decide +kernel)]; kernel_rfl) | (rw [if_neg (by decide +kernel)]; exact ⟨rfl, rfl⟩))
    (fun os started H enc _ => arcHolds_lifted os started H enc)
#print axioms arcHolds_proved
end Go.Proofs.Ytcgdkcdlglbigaa
