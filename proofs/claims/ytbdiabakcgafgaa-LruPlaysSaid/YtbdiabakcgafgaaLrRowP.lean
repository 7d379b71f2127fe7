/- cubbyholelaw15.LruPlays returns true for every input, and leaves its arguments as they were. No condition. -/
import Derived.Test.YtbdiabakcgafgaaLrL4
import Derived.Test.YtbdiabakcgafgaaSlE
namespace Go.Proofs.Ytbdiabakcgafgaa
open Go.ChangeShapes Go.WideShapes Go.ChangeAt Go.RowKit Go.Sl Go.Deep
theorem own : ownKnob Try.prog.godebug = none := by kernel_rfl
theorem laid : laidOutB Try.prog = true := by kernel_rfl
theorem nat_u32 {z : Int} (h : (Lit.int .u32 z).wf = true) : ∃ n : Nat, z = n ∧ n < 4294967296 := by
  have k1 : IntKind.min .u32 = 0 := rfl
  have k2 : IntKind.max .u32 = 4294967295 := rfl
  simp only [Lit.wf, Bool.and_eq_true, decide_eq_true_iff, k1, k2] at h
  exact ⟨z.toNat, by omega, by omega⟩
theorem nats (zs : List Int) (h : ∀ z ∈ zs, (Lit.int .u32 z).wf = true) : ∃ ns : List Nat, (∀ x ∈ ns, x < 4294967296) ∧ ns.length = zs.length ∧ zs.map (.int .u32) = Lk.u32s ns := by
  refine ⟨zs.map Int.toNat, fun x hx => ?_, by simp, ?_⟩
  · obtain ⟨z, hz, rfl⟩ := List.mem_map.1 hx
    obtain ⟨n, rfl, hn⟩ := nat_u32 (h z hz); simpa using hn
  · unfold Lk.u32s
    rw [List.map_map]
    refine List.map_congr_left fun z hz => ?_
    obtain ⟨n, rfl, hn⟩ := nat_u32 (h z hz); rfl
section
variable {H : Type} {enc : TypeId × Value → H} {W : World}
theorem bears_RU {a : Option Addr} {l : List Nat} {c : Nat} (h : Bears W (RoS 1 a l.length c (Lk.u32s l))) : Bears W (Lk.RU (.slice a l.length c) l) := by
  obtain ⟨h', h1, h2⟩ := h
  refine ⟨h', ?_, h2⟩
  unfold Lk.RU
  exact ⟨(a, c), fun _ => none, h', fun _ => .inl rfl, by funext k; rfl, ⟨rfl, rfl⟩, h', fun _ => none, fun _ => .inr (.inl rfl), by funext k; unfold joinH; cases h' k <;> rfl, h1, rfl⟩
set_option maxRecDepth 100000 in
theorem row0_open {fuel : Nat} {cs : List Value} {x : DataW H × List MemPlace} (h : DataW.trod enc Try.prog W 0 (fun _ => true) true fuel 83 cs = some x) :
    ∃ q : Int × Nat × (List Nat × Option Addr × Nat), cs = [.int .i64 (q.1 : Int), .int .u32 (q.2.1 : Nat), .slice q.2.2.2.1 q.2.2.1.length q.2.2.2.2] ∧ q.2.1 < 4294967296 ∧ (∀ x ∈ q.2.2.1, x < 4294967296) ∧ Bears W (Lk.RU (.slice q.2.2.2.1 q.2.2.1.length q.2.2.2.2) q.2.2.1) := by
  obtain ⟨xs, n, _, _, hl, hxl, hf⟩ := DataW.trod_struct Try.underlying83 h
  have hl6 : cs.length = 3 := hl.trans (by kernel_rfl)
  have hx6 : xs.length = 3 := hxl
  have k_s32 : Try.prog.cellsOf 33 = 1 := by kernel_rfl
  have k_int : Try.prog.cellsOf 3 = 1 := by kernel_rfl
  have k_u32 : Try.prog.cellsOf 28 = 1 := by kernel_rfl
  match cs, hl6 with
  | [c0, c1, c2], _ =>
    have f0 : DataW.trod enc Try.prog W 0 (fun _ => true) true n 3 (([c0, c1, c2].drop 0).take (Try.prog.cellsOf 3)) = xs[0]? := hf 0 _ rfl
    have f1 : DataW.trod enc Try.prog W 0 (fun _ => true) true n 28 (([c0, c1, c2].drop 1).take (Try.prog.cellsOf 28)) = xs[1]? := hf 1 _ rfl
    have f2 : DataW.trod enc Try.prog W 0 (fun _ => true) true n 33 (([c0, c1, c2].drop 2).take (Try.prog.cellsOf 33)) = xs[2]? := hf 2 _ rfl
    simp only [k_s32, k_int, k_u32, List.drop_zero, List.drop_succ_cons, List.take_succ_cons, List.take_zero] at f0 f1 f2
    rw [List.getElem?_eq_getElem (by omega)] at f0 f1 f2
    obtain ⟨z0, e0, _, w0⟩ := DataW.trod_int Try.underlying3 f0
    obtain ⟨z1, e1, _, w1⟩ := DataW.trod_int Try.underlying28 f1
    obtain ⟨n1, rfl, h1⟩ := nat_u32 w1
    obtain ⟨a2, cap2, zs2, e2, w2, b2⟩ := bears_ints1 Try.underlying33 Try.underlying28 k_u32 f2
    obtain ⟨ns2, hns2, hlen2, g2⟩ := nats zs2 w2
    rw [g2, ← hlen2] at b2
    simp only [List.cons.injEq, and_true] at e0 e1
    subst e2
    exact ⟨⟨z0, n1, (ns2, a2, cap2)⟩, by rw [e0, e1, hlen2], h1, hns2, bears_RU b2⟩
theorem row0_bears {v : Value} {d : DataW H} {ps : List MemPlace} (hval : ∀ cs, v ≠ .agg cs) (h : DataW.Trod enc Try.prog W 0 (fun _ => true) true 78 v d ps) :
    ∃ (a : Option Addr) (n cap : Nat) (Q : Nat → Int × Nat × (List Nat × Option Addr × Nat)), v = .slice a n cap ∧ (∀ i, i < n → (Q i).2.1 < 4294967296 ∧ (∀ x ∈ (Q i).2.2.1, x < 4294967296)) ∧ Bears W (RoS 3 a n cap (rows n fun i => [.int .i64 ((Q i).1 : Int), .int .u32 ((Q i).2.1 : Nat), .slice (Q i).2.2.2.1 (Q i).2.2.1.length (Q i).2.2.2.2])) ∧ Bears W (AllR Lk.RU ((List.range n).map fun i => .slice (Q i).2.2.2.1 (Q i).2.2.1.length (Q i).2.2.2.2) ((List.range n).map fun i => (Q i).2.2.1)) := by
  obtain ⟨fuel, hf⟩ := h
  have hv : v.cells.toList = [v] := by cases v <;> first | rfl | exact absurd rfl (hval _)
  rw [hv] at hf
  have k51 : Try.prog.cellsOf 83 = 3 := by kernel_rfl
  rcases open_slice Try.underlying78 hf with ⟨h1, _⟩ | ⟨a, len, cap, m, n, D, Pl, h1, hb, hl, hm, hmm, _, hx⟩
  · obtain rfl := (List.cons.inj h1).1
    exact ⟨none, 0, 0, fun _ => ⟨0, 0, ([], none, 0)⟩, rfl, by omega, ⟨fun _ => none, .inl ⟨rfl, rfl, rfl, rfl⟩, fun k x h => by cases h⟩, bears_allR rfl fun i v x h => by simp at h⟩
  · obtain rfl := (List.cons.inj h1).1
    simp only [if_true] at hmm
    subst m
    rw [k51] at hx
    have hQ0 : ∀ i, ∃ q : Int × Nat × (List Nat × Option Addr × Nat), i < cap → W.cells? 0 (a.add (i * 3)) 3 = some [.int .i64 (q.1 : Int), .int .u32 (q.2.1 : Nat), .slice q.2.2.2.1 q.2.2.1.length q.2.2.2.2] ∧ q.2.1 < 4294967296 ∧ (∀ x ∈ q.2.2.1, x < 4294967296) ∧ Bears W (Lk.RU (.slice q.2.2.2.1 q.2.2.1.length q.2.2.2.2) q.2.2.1) := fun i => by
      by_cases hi : i < cap
      · obtain ⟨cs', h2, h3⟩ := hx i hi
        obtain ⟨q, e, h4⟩ := row0_open h3
        exact ⟨q, fun _ => ⟨by rw [h2, e], h4⟩⟩
      · exact ⟨⟨0, 0, ([], none, 0)⟩, fun h => absurd h hi⟩
    have hQ := fun i => Classical.choose_spec (hQ0 i)
    refine ⟨some a, len, cap, fun i => Classical.choose (hQ0 i), rfl, fun i hi => ?_, bears_rows (by decide) (fun _ => rfl) hl fun i hi => (hQ i hi).1, ?_⟩
    · obtain ⟨_, hB1, hB2, hR2⟩ := hQ i (by omega)
      exact ⟨hB1, hB2⟩
    · refine bears_allR (by simp) fun i v x h2 h3 => ?_
      have hi : i < len := by have := (List.getElem?_eq_some_iff.1 h2).1; simpa using this
      simp only [List.getElem?_map, List.getElem?_range hi, Option.map_some, Option.some.injEq] at h2 h3
      subst h2; subst h3
      obtain ⟨_, hB1, hB2, hR2⟩ := hQ i (by omega)
      exact hR2
end
theorem lruPlays_ok : LawOk Try.prog Try.f11 Rows.lruPlaysSpec := ⟨laid, by kernel_rfl, rfl, ⟨4, rfl, Try.underlying4⟩, fun H ds h => by
  match ds, h with
  | [_], _ => exact ⟨rfl, rfl, rfl⟩⟩
set_option maxRecDepth 100000 in
theorem lruPlays_lifted (os : Os) (started : os.Started) (H : Type) (enc : TypeId × Value → H) :
    ReturnsInHanded {} Try.checked os 11 .any (Rows.lruPlaysSpec.pre6 enc Try.prog Try.f11 Rows.lruPlaysRow.domain false) (Rows.lruPlaysSpec.post enc Try.prog Try.f11 false true false false) := by
  refine returnsInHanded_of_change (C := Try.checked) own started (by kernel_rfl) Try.func11
    (ChangeSpec.witness6 (enc := enc) (C := Try.checked) false ⟨#[], #[.slice none 0 0], []⟩ 8 (by kernel_rfl) (by kernel_rfl) (by kernel_rfl) (by kernel_rfl)) ?_
  intro W base args ds gs before hval0 hW hcnd _
  have hval : ∀ (j : Nat) t v, Try.f11.params[j]? = some t → args[j]? = some v → Value.okWide Try.prog W .any base t v := hval0
  have hW' := hW
  obtain ⟨p, q, hA0, hV, rfl, hfz, hnd⟩ := hW
  have hA : DataW.TrodAll enc Try.prog W 0 (fun _ => true) true Try.f11.params.toList args.toList ds p := hA0
  rw [Try.params11] at hA hval
  obtain ⟨v0, vs0, d0, ds0, p0, q0, hargs, rfl, rfl, h0, r0⟩ := trodAll_cons hA
  obtain ⟨rfl, rfl, rfl⟩ := trodAll_nil r0
  obtain rfl : args = #[v0] := by cases args; simp_all
  obtain ⟨a0, n0, c0, Q0, rfl, b0, B0, B0_0⟩ := row0_bears (okWide_slice Try.underlying78 (hval 0 78 v0 rfl rfl)) h0
  exact law_calls lruPlays_ok hW' (lplays_spec a0 n0 c0 (fun i => ⟨(Q0 i).1, (Q0 i).2.1, (Q0 i).2.2.1⟩) (fun i => (Q0 i).2.2.2.1) (fun i => (Q0 i).2.2.2.2) b0) (fun x hx => by
    simp only [List.mem_cons, List.not_mem_nil, or_false] at hx
    rcases hx with rfl | rfl
    · exact B0
    · exact B0_0)
theorem lruPlays_proved : Rows.LruPlaysSaid :=
  OpenClaim.holds_of_wide 11 Try.f11 rfl rfl rfl rfl rfl rfl rfl ⟨rfl, rfl, rfl, rfl, rfl⟩ rfl rfl rfl rfl rfl (by kernel_rfl) Try.func11 (by kernel_rfl)
    (of_decide_eq_true (by kernel_rfl)) (by unfold Func.isWrapper; first | (rw [if_pos (by decide +kernel)]; kernel_rfl) | (rw [if_neg (by decide +kernel)]; exact ⟨rfl, rfl⟩))
    (fun os started H enc _ => lruPlays_lifted os started H enc)
#print axioms lruPlays_proved
end Go.Proofs.Ytbdiabakcgafgaa
