/- cubbyholelaw14.LinksIterates returns true for every input, and leaves its arguments as they were. No condition. -/
import Derived.Test.YtgmccdicncocdaaLkL4
import Derived.Test.YtgmccdicncocdaaSlRow2
namespace Go.Proofs.Ytgmccdicncocdaa
open Go.ChangeShapes Go.WideShapes Go.ChangeAt Go.RowKit Go.Sl
theorem own : ownKnob Try.prog.godebug = none := by kernel_rfl
theorem laid : laidOutB Try.prog = true := by kernel_rfl
theorem nats (zs : List Int) (h : ∀ z ∈ zs, (Lit.int .u32 z).wf = true) : ∃ ns : List Nat, (∀ x ∈ ns, x < 4294967296) ∧ ns.length = zs.length ∧ zs.map (.int .u32) = Lk.u32s ns := by
  have hb : ∀ z ∈ zs, 0 ≤ z ∧ z ≤ 4294967295 := fun z hz => by
    have w0 := h z hz
    have k1 : IntKind.min .u32 = 0 := rfl
    have k2 : IntKind.max .u32 = 4294967295 := rfl
    simp only [Lit.wf, Bool.and_eq_true, decide_eq_true_iff, k1, k2] at w0
    exact w0
  refine ⟨zs.map Int.toNat, fun x hx => ?_, by simp, ?_⟩
  · obtain ⟨z, hz, rfl⟩ := List.mem_map.1 hx
    have := hb z hz; omega
  · unfold Lk.u32s
    rw [List.map_map]
    refine List.map_congr_left fun z hz => ?_
    have := hb z hz
    show Value.int .u32 z = .int .u32 ((z.toNat : Nat) : Int)
    rw [Int.toNat_of_nonneg this.1]
theorem iterates_ok : LawOk Try.prog Try.f3 Rows.linksIteratesSpec := ⟨laid, by kernel_rfl, rfl, ⟨4, rfl, Try.underlying4⟩, fun H ds h => by
  match ds, h with
  | [_, _, _], _ => exact ⟨rfl, rfl, rfl⟩⟩
set_option maxRecDepth 100000 in
theorem iterates_lifted (os : Os) (started : os.Started) (H : Type) (enc : TypeId × Value → H) :
    ReturnsInHanded {} Try.checked os 3 .any (Rows.linksIteratesSpec.pre6 enc Try.prog Try.f3 Rows.linksIteratesRow.domain false) (Rows.linksIteratesSpec.post enc Try.prog Try.f3 false true false false) := by
  refine returnsInHanded_of_change (C := Try.checked) own started (by kernel_rfl) Try.func3
    (ChangeSpec.witness6 (enc := enc) (C := Try.checked) false ⟨#[], #[.int .i64 0, .slice none 0 0, .int .u8 0], []⟩ 8 (by kernel_rfl) (by kernel_rfl) (by kernel_rfl) (by kernel_rfl)) ?_
  intro W base args ds gs before hval0 hW hcnd _
  have hval : ∀ (j : Nat) t v, Try.f3.params[j]? = some t → args[j]? = some v → Value.okWide Try.prog W .any base t v := hval0
  have hW' := hW
  obtain ⟨p, q, hA0, hV, rfl, hfz, hnd⟩ := hW
  have hA : DataW.TrodAll enc Try.prog W 0 (fun _ => true) true Try.f3.params.toList args.toList ds p := hA0
  rw [Try.params3] at hA hval
  obtain ⟨v0, vs0, d0, ds0, p0, q0, hargs, rfl, rfl, h0, r0⟩ := trodAll_cons hA
  obtain ⟨v1, vs1, d1, ds1, p1, q1, rfl, rfl, rfl, h1, r1⟩ := trodAll_cons r0
  obtain ⟨v2, vs2, d2, ds2, p2, q2, rfl, rfl, rfl, h2, r2⟩ := trodAll_cons r1
  obtain ⟨rfl, rfl, rfl⟩ := trodAll_nil r2
  obtain rfl : args = #[v0, v1, v2] := by cases args; simp_all
  obtain ⟨a0, rfl, _, _, w0⟩ := open_int Try.underlying3 (hval 0 3 v0 rfl rfl) h0
  obtain ⟨a, cap, zs, rfl, w1, b1⟩ := bears_ints Try.underlying22 Try.underlying35 (by kernel_rfl) (okWide_slice Try.underlying22 (hval 1 22 v1 rfl rfl)) h1
  obtain ⟨a2, rfl, _, _, w2⟩ := open_int Try.underlying5 (hval 2 5 v2 rfl rfl) h2
  have hb : 0 ≤ a2 ∧ a2 ≤ 255 := by
    have k1 : IntKind.min .u8 = 0 := rfl
    have k2 : IntKind.max .u8 = 255 := rfl
    simp only [Lit.wf, Bool.and_eq_true, decide_eq_true_iff, k1, k2] at w2
    exact w2
  obtain ⟨k, rfl⟩ : ∃ k : Nat, a2 = k := ⟨a2.toNat, by omega⟩
  obtain ⟨ns, hns, hlen, e⟩ := nats zs w1
  rw [e, ← hlen] at b1
  have hs := iterates_spec a0 a cap ns k hns (by omega)
  rw [hlen] at hs b1
  exact law_calls iterates_ok hW' hs (fun x hx => by
    obtain rfl : x = RoS 1 a zs.length cap (Lk.u32s ns) := by simpa using hx
    exact b1)
theorem linksIterates_proved : Rows.LinksIteratesSaid :=
  OpenClaim.holds_of_wide 3 Try.f3 rfl rfl rfl rfl rfl rfl rfl ⟨rfl, rfl, rfl, rfl, rfl⟩ rfl rfl rfl rfl rfl (by kernel_rfl) Try.func3 (by kernel_rfl)
    (of_decide_eq_true (by kernel_rfl)) (by unfold Func.isWrapper; first | (rw [if_pos (by decide +kernel)]; kernel_rfl) | (rw [if_neg (by decide +kernel)]; exact ⟨rfl, rfl⟩))
    (fun os started H enc _ => iterates_lifted os started H enc)
#print axioms linksIterates_proved
end Go.Proofs.Ytgmccdicncocdaa
