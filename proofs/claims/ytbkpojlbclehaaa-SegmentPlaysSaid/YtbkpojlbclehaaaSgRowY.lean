/- cubbyholelaw16.SegmentPlays returns true for every input, and leaves its arguments as they were. No condition. -/
import Derived.Test.YtbkpojlbclehaaaSgL7
import Derived.Test.YtbkpojlbclehaaaSlE
namespace Go.Proofs.Ytbkpojlbclehaaa
open Go.ChangeShapes Go.WideShapes Go.ChangeAt Go.RowKit Go.Sl Go.Deep
theorem own : ownKnob Try.prog.godebug = none := by kernel_rfl
theorem laid : laidOutB Try.prog = true := by kernel_rfl
theorem nat_u32 {z : Int} (h : (Lit.int .u32 z).wf = true) : ∃ n : Nat, z = n ∧ n < 4294967296 := by
  have k1 : IntKind.min .u32 = 0 := rfl
  have k2 : IntKind.max .u32 = 4294967295 := rfl
  simp only [Lit.wf, Bool.and_eq_true, decide_eq_true_iff, k1, k2] at h
  exact ⟨z.toNat, by omega, by omega⟩
theorem nats (zs : List Int) (h : ∀ z ∈ zs, (Lit.int .u32 z).wf = true) : ∃ ns : List Nat, (∀ x ∈ ns, x < 4294967296) ∧ ns.length = zs.length ∧ zs.map (.int .u32) = Lk.u32s ns := by
  refine ⟨zs.map Int.toNat, fun x hx => ?_, by simp, ?_⟩
  · obtain ⟨z, hz, rfl⟩ := List.mem_map.1 hx
    obtain ⟨n, rfl, hn⟩ := nat_u32 (h z hz); simpa using hn
  · unfold Lk.u32s
    rw [List.map_map]
    refine List.map_congr_left fun z hz => ?_
    obtain ⟨n, rfl, hn⟩ := nat_u32 (h z hz); rfl
section
variable {H : Type} {enc : TypeId × Value → H} {W : World}
theorem bears_RU {a : Option Addr} {l : List Nat} {c : Nat} (h : Bears W (RoS 1 a l.length c (Lk.u32s l))) : Bears W (Lk.RU (.slice a l.length c) l) := by
  obtain ⟨h', h1, h2⟩ := h
  refine ⟨h', ?_, h2⟩
  unfold Lk.RU
  exact ⟨(a, c), fun _ => none, h', fun _ => .inl rfl, by funext k; rfl, ⟨rfl, rfl⟩, h', fun _ => none, fun _ => .inr (.inl rfl), by funext k; unfold joinH; cases h' k <;> rfl, h1, rfl⟩
set_option maxRecDepth 100000 in
theorem row1_open {fuel : Nat} {cs : List Value} {x : DataW H × List MemPlace} (h : DataW.trod enc Try.prog W 0 (fun _ => true) true fuel 40 cs = some x) :
    ∃ q : Int × Nat × Int × (List Nat × Option Addr × Nat), cs = [.int .i64 (q.1 : Int), .int .u32 (q.2.1 : Nat), .int .i64 (q.2.2.1 : Int), .slice q.2.2.2.2.1 q.2.2.2.1.length q.2.2.2.2.2] ∧ q.2.1 < 4294967296 ∧ (∀ x ∈ q.2.2.2.1, x < 4294967296) ∧ Bears W (Lk.RU (.slice q.2.2.2.2.1 q.2.2.2.1.length q.2.2.2.2.2) q.2.2.2.1) := by
  obtain ⟨xs, n, _, _, hl, hxl, hf⟩ := DataW.trod_struct Try.underlying40 h
  have hl6 : cs.length = 4 := hl.trans (by kernel_rfl)
  have hx6 : xs.length = 4 := hxl
  have k_s32 : Try.prog.cellsOf 38 = 1 := by kernel_rfl
  have k_int : Try.prog.cellsOf 3 = 1 := by kernel_rfl
  have k_u32 : Try.prog.cellsOf 34 = 1 := by kernel_rfl
  match cs, hl6 with
  | [c0, c1, c2, c3], _ =>
    have f0 : DataW.trod enc Try.prog W 0 (fun _ => true) true n 3 (([c0, c1, c2, c3].drop 0).take (Try.prog.cellsOf 3)) = xs[0]? := hf 0 _ rfl
    have f1 : DataW.trod enc Try.prog W 0 (fun _ => true) true n 34 (([c0, c1, c2, c3].drop 1).take (Try.prog.cellsOf 34)) = xs[1]? := hf 1 _ rfl
    have f2 : DataW.trod enc Try.prog W 0 (fun _ => true) true n 3 (([c0, c1, c2, c3].drop 2).take (Try.prog.cellsOf 3)) = xs[2]? := hf 2 _ rfl
    have f3 : DataW.trod enc Try.prog W 0 (fun _ => true) true n 38 (([c0, c1, c2, c3].drop 3).take (Try.prog.cellsOf 38)) = xs[3]? := hf 3 _ rfl
    simp only [k_s32, k_int, k_u32, List.drop_zero, List.drop_succ_cons, List.take_succ_cons, List.take_zero] at f0 f1 f2 f3
    rw [List.getElem?_eq_getElem (by omega)] at f0 f1 f2 f3
    obtain ⟨z0, e0, _, w0⟩ := DataW.trod_int Try.underlying3 f0
    obtain ⟨z1, e1, _, w1⟩ := DataW.trod_int Try.underlying34 f1
    obtain ⟨n1, rfl, h1⟩ := nat_u32 w1
    obtain ⟨z2, e2, _, w2⟩ := DataW.trod_int Try.underlying3 f2
    obtain ⟨a3, cap3, zs3, e3, w3, b3⟩ := bears_ints1 Try.underlying38 Try.underlying34 k_u32 f3
    obtain ⟨ns3, hns3, hlen3, g3⟩ := nats zs3 w3
    rw [g3, ← hlen3] at b3
    simp only [List.cons.injEq, and_true] at e0 e1 e2
    subst e3
    exact ⟨⟨z0, n1, z2, (ns3, a3, cap3)⟩, by rw [e0, e1, e2, hlen3], h1, hns3, bears_RU b3⟩
theorem row1_bears {v : Value} {d : DataW H} {ps : List MemPlace} (hval : ∀ cs, v ≠ .agg cs) (h : DataW.Trod enc Try.prog W 0 (fun _ => true) true 36 v d ps) :
    ∃ (a : Option Addr) (n cap : Nat) (Q : Nat → Int × Nat × Int × (List Nat × Option Addr × Nat)), v = .slice a n cap ∧ (∀ i, i < n → (Q i).2.1 < 4294967296 ∧ (∀ x ∈ (Q i).2.2.2.1, x < 4294967296)) ∧ Bears W (RoS 4 a n cap (rows n fun i => [.int .i64 ((Q i).1 : Int), .int .u32 ((Q i).2.1 : Nat), .int .i64 ((Q i).2.2.1 : Int), .slice (Q i).2.2.2.2.1 (Q i).2.2.2.1.length (Q i).2.2.2.2.2])) ∧ Bears W (AllR Lk.RU ((List.range n).map fun i => .slice (Q i).2.2.2.2.1 (Q i).2.2.2.1.length (Q i).2.2.2.2.2) ((List.range n).map fun i => (Q i).2.2.2.1)) := by
  obtain ⟨fuel, hf⟩ := h
  have hv : v.cells.toList = [v] := by cases v <;> first | rfl | exact absurd rfl (hval _)
  rw [hv] at hf
  have k51 : Try.prog.cellsOf 40 = 4 := by kernel_rfl
  rcases open_slice Try.underlying36 hf with ⟨h1, _⟩ | ⟨a, len, cap, m, n, D, Pl, h1, hb, hl, hm, hmm, _, hx⟩
  · obtain rfl := (List.cons.inj h1).1
    exact ⟨none, 0, 0, fun _ => ⟨0, 0, 0, ([], none, 0)⟩, rfl, by omega, ⟨fun _ => none, .inl ⟨rfl, rfl, rfl, rfl⟩, fun k x h => by cases h⟩, bears_allR rfl fun i v x h => by simp at h⟩
  · obtain rfl := (List.cons.inj h1).1
    simp only [if_true] at hmm
    subst m
    rw [k51] at hx
    have hQ0 : ∀ i, ∃ q : Int × Nat × Int × (List Nat × Option Addr × Nat), i < cap → W.cells? 0 (a.add (i * 4)) 4 = some [.int .i64 (q.1 : Int), .int .u32 (q.2.1 : Nat), .int .i64 (q.2.2.1 : Int), .slice q.2.2.2.2.1 q.2.2.2.1.length q.2.2.2.2.2] ∧ q.2.1 < 4294967296 ∧ (∀ x ∈ q.2.2.2.1, x < 4294967296) ∧ Bears W (Lk.RU (.slice q.2.2.2.2.1 q.2.2.2.1.length q.2.2.2.2.2) q.2.2.2.1) := fun i => by
      by_cases hi : i < cap
      · obtain ⟨cs', h2, h3⟩ := hx i hi
        obtain ⟨q, e, h4⟩ := row1_open h3
        exact ⟨q, fun _ => ⟨by rw [h2, e], h4⟩⟩
      · exact ⟨⟨0, 0, 0, ([], none, 0)⟩, fun h => absurd h hi⟩
    have hQ := fun i => Classical.choose_spec (hQ0 i)
    refine ⟨some a, len, cap, fun i => Classical.choose (hQ0 i), rfl, fun i hi => ?_, bears_rows (by decide) (fun _ => rfl) hl fun i hi => (hQ i hi).1, ?_⟩
    · obtain ⟨_, hB1, hB3, hR3⟩ := hQ i (by omega)
      exact ⟨hB1, hB3⟩
    · refine bears_allR (by simp) fun i v x h2 h3 => ?_
      have hi : i < len := by have := (List.getElem?_eq_some_iff.1 h2).1; simpa using this
      simp only [List.getElem?_map, List.getElem?_range hi, Option.map_some, Option.some.injEq] at h2 h3
      subst h2; subst h3
      obtain ⟨_, hB1, hB3, hR3⟩ := hQ i (by omega)
      exact hR3
end
theorem segmentPlays_ok : LawOk Try.prog Try.f6 Rows.segmentPlaysSpec := ⟨laid, by kernel_rfl, rfl, ⟨4, rfl, Try.underlying4⟩, fun H ds h => by
  match ds, h with
  | [_, _], _ => exact ⟨rfl, rfl, rfl⟩⟩
set_option maxRecDepth 100000 in
theorem segmentPlays_lifted (os : Os) (started : os.Started) (H : Type) (enc : TypeId × Value → H) :
    ReturnsInHanded {} Try.checked os 6 .any (Rows.segmentPlaysSpec.pre6 enc Try.prog Try.f6 Rows.segmentPlaysRow.domain false) (Rows.segmentPlaysSpec.post enc Try.prog Try.f6 false true false false) := by
  refine returnsInHanded_of_change (C := Try.checked) own started (by kernel_rfl) Try.func6
    (ChangeSpec.witness6 (enc := enc) (C := Try.checked) false ⟨#[], #[.int .i64 0, .slice none 0 0], []⟩ 8 (by kernel_rfl) (by kernel_rfl) (by kernel_rfl) (by kernel_rfl)) ?_
  intro W base args ds gs before hval0 hW hcnd _
  have hval : ∀ (j : Nat) t v, Try.f6.params[j]? = some t → args[j]? = some v → Value.okWide Try.prog W .any base t v := hval0
  have hW' := hW
  obtain ⟨p, q, hA0, hV, rfl, hfz, hnd⟩ := hW
  have hA : DataW.TrodAll enc Try.prog W 0 (fun _ => true) true Try.f6.params.toList args.toList ds p := hA0
  rw [Try.params6] at hA hval
  obtain ⟨v0, vs0, d0, ds0, p0, q0, hargs, rfl, rfl, h0, r0⟩ := trodAll_cons hA
  obtain ⟨v1, vs1, d1, ds1, p1, q1, rfl, rfl, rfl, h1, r1⟩ := trodAll_cons r0
  obtain ⟨rfl, rfl, rfl⟩ := trodAll_nil r1
  obtain rfl : args = #[v0, v1] := by cases args; simp_all
  obtain ⟨a0, rfl, _, _, w0⟩ := open_int Try.underlying3 (hval 0 3 v0 rfl rfl) h0
  obtain ⟨a1, n1, c1, Q1, rfl, b1, B1, B1_0⟩ := row1_bears (okWide_slice Try.underlying36 (hval 1 36 v1 rfl rfl)) h1
  exact law_calls segmentPlays_ok hW' (sgl_plays a0 a1 n1 c1 (fun i => ⟨(Q1 i).1, (Q1 i).2.1, (Q1 i).2.2.1, (Q1 i).2.2.2.1⟩) (fun i => (Q1 i).2.2.2.2.1) (fun i => (Q1 i).2.2.2.2.2) b1) (fun x hx => by
    simp only [List.mem_cons, List.not_mem_nil, or_false] at hx
    rcases hx with rfl | rfl
    · exact B1
    · exact B1_0)
theorem segmentPlays_proved : Rows.SegmentPlaysSaid :=
  OpenClaim.holds_of_wide 6 Try.f6 rfl rfl rfl rfl rfl rfl rfl ⟨rfl, rfl, rfl, rfl, rfl⟩ rfl rfl rfl rfl rfl (by kernel_rfl) Try.func6 (by kernel_rfl)
    (of_decide_eq_true (by kernel_rfl)) (by unfold Func.isWrapper; first | (rw [if_pos (by decide +kernel)]; kernel_rfl) | (rw [if_neg (by decide +kernel)]; exact ⟨rfl, rfl⟩))
    (fun os started H enc _ => segmentPlays_lifted os started H enc)
#print axioms segmentPlays_proved
end Go.Proofs.Ytbkpojlbclehaaa
