/- cubbyholelaw16.SegmentPlain returns true for every input, and leaves its arguments as they were. No condition. -/
import Derived.Test.YtbkpojlbclehaaaSgP
import Derived.Test.YtbkpojlbclehaaaSlE
namespace Go.Proofs.Ytbkpojlbclehaaa
open Go.ChangeShapes Go.WideShapes Go.ChangeAt Go.RowKit Go.Sl Go.Deep
theorem own : ownKnob Try.prog.godebug = none := by kernel_rfl
theorem laid : laidOutB Try.prog = true := by kernel_rfl
theorem nat_u16 {z : Int} (h : (Lit.int .u16 z).wf = true) : ∃ n : Nat, z = n ∧ n < 65536 := by
  have k1 : IntKind.min .u16 = 0 := rfl
  have k2 : IntKind.max .u16 = 65535 := rfl
  simp only [Lit.wf, Bool.and_eq_true, decide_eq_true_iff, k1, k2] at h
  exact ⟨z.toNat, by omega, by omega⟩
theorem nat_u32 {z : Int} (h : (Lit.int .u32 z).wf = true) : ∃ n : Nat, z = n ∧ n < 4294967296 := by
  have k1 : IntKind.min .u32 = 0 := rfl
  have k2 : IntKind.max .u32 = 4294967295 := rfl
  simp only [Lit.wf, Bool.and_eq_true, decide_eq_true_iff, k1, k2] at h
  exact ⟨z.toNat, by omega, by omega⟩
theorem in_u16 {z : Int} (h : (Lit.int .u16 z).wf = true) : 0 ≤ z ∧ z < 65536 := by
  have k1 : IntKind.min .u16 = 0 := rfl
  have k2 : IntKind.max .u16 = 65535 := rfl
  simp only [Lit.wf, Bool.and_eq_true, decide_eq_true_iff, k1, k2] at h
  omega
theorem nats (zs : List Int) (h : ∀ z ∈ zs, (Lit.int .u32 z).wf = true) : ∃ ns : List Nat, (∀ x ∈ ns, x < 4294967296) ∧ ns.length = zs.length ∧ zs.map (.int .u32) = Lk.u32s ns := by
  refine ⟨zs.map Int.toNat, fun x hx => ?_, by simp, ?_⟩
  · obtain ⟨z, hz, rfl⟩ := List.mem_map.1 hx
    obtain ⟨n, rfl, hn⟩ := nat_u32 (h z hz); simpa using hn
  · unfold Lk.u32s
    rw [List.map_map]
    refine List.map_congr_left fun z hz => ?_
    obtain ⟨n, rfl, hn⟩ := nat_u32 (h z hz); rfl
theorem segmentPlain_ok : LawOk Try.prog Try.f5 Rows.segmentPlainSpec := ⟨laid, by kernel_rfl, rfl, ⟨4, rfl, Try.underlying4⟩, fun H ds h => by
  match ds, h with
  | [_, _, _], _ => exact ⟨rfl, rfl, rfl⟩⟩
set_option maxRecDepth 100000 in
theorem segmentPlain_lifted (os : Os) (started : os.Started) (H : Type) (enc : TypeId × Value → H) :
    ReturnsInHanded {} Try.checked os 5 .any (Rows.segmentPlainSpec.pre6 enc Try.prog Try.f5 Rows.segmentPlainRow.domain false) (Rows.segmentPlainSpec.post enc Try.prog Try.f5 false true false false) := by
  refine returnsInHanded_of_change (C := Try.checked) own started (by kernel_rfl) Try.func5
    (ChangeSpec.witness6 (enc := enc) (C := Try.checked) false ⟨#[], #[.slice none 0 0, .slice none 0 0, .bool false], []⟩ 8 (by kernel_rfl) (by kernel_rfl) (by kernel_rfl) (by kernel_rfl)) ?_
  intro W base args ds gs before hval0 hW hcnd _
  have hval : ∀ (j : Nat) t v, Try.f5.params[j]? = some t → args[j]? = some v → Value.okWide Try.prog W .any base t v := hval0
  have hW' := hW
  obtain ⟨p, q, hA0, hV, rfl, hfz, hnd⟩ := hW
  have hA : DataW.TrodAll enc Try.prog W 0 (fun _ => true) true Try.f5.params.toList args.toList ds p := hA0
  rw [Try.params5] at hA hval
  obtain ⟨v0, vs0, d0, ds0, p0, q0, hargs, rfl, rfl, h0, r0⟩ := trodAll_cons hA
  obtain ⟨v1, vs1, d1, ds1, p1, q1, rfl, rfl, rfl, h1, r1⟩ := trodAll_cons r0
  obtain ⟨v2, vs2, d2, ds2, p2, q2, rfl, rfl, rfl, h2, r2⟩ := trodAll_cons r1
  obtain ⟨rfl, rfl, rfl⟩ := trodAll_nil r2
  obtain rfl : args = #[v0, v1, v2] := by cases args; simp_all
  obtain ⟨a0, c0, zs0, rfl, w0, B0⟩ := bears_ints Try.underlying38 Try.underlying34 (by kernel_rfl) (okWide_slice Try.underlying38 (hval 0 38 v0 rfl rfl)) h0
  obtain ⟨ns0, n0, e0, f0⟩ := nats zs0 w0
  rw [f0] at B0
  rw [← e0] at B0 hW' ⊢
  obtain ⟨a1, c1, zs1, rfl, w1, B1⟩ := bears_ints Try.underlying52 Try.underlying55 (by kernel_rfl) (okWide_slice Try.underlying52 (hval 1 52 v1 rfl rfl)) h1
  obtain ⟨a2, rfl, _, _⟩ := open_bool Try.underlying4 (hval 2 4 v2 rfl rfl) h2
  exact law_calls segmentPlain_ok hW' (sgl_plain a0 c0 ns0 a1 c1 zs1 a2 n0 (fun z h => in_u16 (w1 z h))) (fun x hx => by
    simp only [List.mem_cons, List.not_mem_nil, or_false] at hx
    rcases hx with rfl | rfl
    · exact B0
    · exact B1)
theorem segmentPlain_proved : Rows.SegmentPlainSaid :=
  OpenClaim.holds_of_wide 5 Try.f5 rfl rfl rfl rfl rfl rfl rfl ⟨rfl, rfl, rfl, rfl, rfl⟩ rfl rfl rfl rfl rfl (by kernel_rfl) Try.func5 (by kernel_rfl)
    (of_decide_eq_true (by kernel_rfl)) (by unfold Func.isWrapper; first | (rw [if_pos (by decide +kernel)]; kernel_rfl) | (rw [if_neg (by decide +kernel)]; exact ⟨rfl, rfl⟩))
    (fun os started H enc _ => segmentPlain_lifted os started H enc)
#print axioms segmentPlain_proved
end Go.Proofs.Ytbkpojlbclehaaa
