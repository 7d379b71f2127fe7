/- cubbyholelaw14.LinksHolds returns true for every input, and leaves its arguments as they were. No condition. -/
import Derived.Test.YtgmccdicncocdaaLkL11
import Derived.Test.YtgmccdicncocdaaSlRow2
namespace Go.Proofs.Ytgmccdicncocdaa
open Go.ChangeShapes Go.WideShapes Go.ChangeAt Go.RowKit Go.Sl Go.Deep
theorem own : ownKnob Try.prog.godebug = none := by kernel_rfl
theorem laid : laidOutB Try.prog = true := by kernel_rfl
theorem nat32 {z : Int} (h : (Lit.int .u32 z).wf = true) : ∃ n : Nat, z = n ∧ n < 4294967296 := by
  have k1 : IntKind.min .u32 = 0 := rfl
  have k2 : IntKind.max .u32 = 4294967295 := rfl
  simp only [Lit.wf, Bool.and_eq_true, decide_eq_true_iff, k1, k2] at h
  exact ⟨z.toNat, by omega, by omega⟩
theorem nats (zs : List Int) (h : ∀ z ∈ zs, (Lit.int .u32 z).wf = true) : ∃ ns : List Nat, (∀ x ∈ ns, x < 4294967296) ∧ ns.length = zs.length ∧ zs.map (.int .u32) = Lk.u32s ns := by
  refine ⟨zs.map Int.toNat, fun x hx => ?_, by simp, ?_⟩
  · obtain ⟨z, hz, rfl⟩ := List.mem_map.1 hx
    obtain ⟨n, rfl, hn⟩ := nat32 (h z hz); simpa using hn
  · unfold Lk.u32s
    rw [List.map_map]
    refine List.map_congr_left fun z hz => ?_
    obtain ⟨n, rfl, hn⟩ := nat32 (h z hz); rfl
instance : Inhabited Lk.LAct := ⟨⟨0, 0, 0, 0, 0, []⟩⟩
section
variable {H : Type} {enc : TypeId × Value → H} {W : World}
theorem bears_RU {a : Option Addr} {l : List Nat} {c : Nat} (h : Bears W (RoS 1 a l.length c (Lk.u32s l))) : Bears W (Lk.RU (.slice a l.length c) l) := by
  obtain ⟨h', h1, h2⟩ := h
  refine ⟨h', ?_, h2⟩
  unfold Lk.RU
  exact ⟨(a, c), fun _ => none, h', fun _ => .inl rfl, by funext k; rfl, ⟨rfl, rfl⟩, h', fun _ => none, fun _ => .inr (.inl rfl), by funext k; unfold joinH; cases h' k <;> rfl, h1, rfl⟩
theorem act_open {fuel : Nat} {cs : List Value} {x : DataW H × List MemPlace} (h : DataW.trod enc Try.prog W 0 (fun _ => true) true fuel 51 cs = some x) :
    ∃ q : Lk.LAct × Option Addr × Nat, cs = [.int .i64 q.1.what, .int .i64 q.1.head, .int .i64 q.1.other, .int .u32 q.1.node, .int .u32 q.1.beside, .slice q.2.1 q.1.to.length q.2.2] ∧ q.1.node < 4294967296 ∧ q.1.beside < 4294967296 ∧ (∀ x ∈ q.1.to, x < 4294967296) ∧ Bears W (Lk.RU (.slice q.2.1 q.1.to.length q.2.2) q.1.to) := by
  obtain ⟨xs, n, _, _, hl, hxl, hf⟩ := DataW.trod_struct Try.underlying51 h
  have hl6 : cs.length = 6 := hl.trans (by kernel_rfl)
  have hx6 : xs.length = 6 := hxl
  have k3 : Try.prog.cellsOf 3 = 1 := by kernel_rfl
  have k35 : Try.prog.cellsOf 35 = 1 := by kernel_rfl
  have k22 : Try.prog.cellsOf 22 = 1 := by kernel_rfl
  match cs, hl6 with
  | [c0, c1, c2, c3, c4, c5], _ =>
    have f0 : DataW.trod enc Try.prog W 0 (fun _ => true) true n 3 (([c0, c1, c2, c3, c4, c5].drop 0).take (Try.prog.cellsOf 3)) = xs[0]? := hf 0 _ rfl
    have f1 : DataW.trod enc Try.prog W 0 (fun _ => true) true n 3 (([c0, c1, c2, c3, c4, c5].drop 1).take (Try.prog.cellsOf 3)) = xs[1]? := hf 1 _ rfl
    have f2 : DataW.trod enc Try.prog W 0 (fun _ => true) true n 3 (([c0, c1, c2, c3, c4, c5].drop 2).take (Try.prog.cellsOf 3)) = xs[2]? := hf 2 _ rfl
    have f3 : DataW.trod enc Try.prog W 0 (fun _ => true) true n 35 (([c0, c1, c2, c3, c4, c5].drop 3).take (Try.prog.cellsOf 35)) = xs[3]? := hf 3 _ rfl
    have f4 : DataW.trod enc Try.prog W 0 (fun _ => true) true n 35 (([c0, c1, c2, c3, c4, c5].drop 4).take (Try.prog.cellsOf 35)) = xs[4]? := hf 4 _ rfl
    have f5 : DataW.trod enc Try.prog W 0 (fun _ => true) true n 22 (([c0, c1, c2, c3, c4, c5].drop 5).take (Try.prog.cellsOf 22)) = xs[5]? := hf 5 _ rfl
    simp only [k3, k35, k22, List.drop_zero, List.drop_succ_cons, List.take_succ_cons, List.take_zero] at f0 f1 f2 f3 f4 f5
    rw [List.getElem?_eq_getElem (by omega)] at f0 f1 f2 f3 f4 f5
    obtain ⟨z0, e0, _, w0⟩ := DataW.trod_int Try.underlying3 f0
    obtain ⟨z1, e1, _, w1⟩ := DataW.trod_int Try.underlying3 f1
    obtain ⟨z2, e2, _, w2⟩ := DataW.trod_int Try.underlying3 f2
    obtain ⟨z3, e3, _, w3⟩ := DataW.trod_int Try.underlying35 f3
    obtain ⟨z4, e4, _, w4⟩ := DataW.trod_int Try.underlying35 f4
    obtain ⟨a, cap, zs, e5, w5, b5⟩ := bears_ints1 Try.underlying22 Try.underlying35 k35 f5
    obtain ⟨n3, rfl, h3⟩ := nat32 w3
    obtain ⟨n4, rfl, h4⟩ := nat32 w4
    obtain ⟨ns, hns, hlen, e⟩ := nats zs w5
    rw [e, ← hlen] at b5
    refine ⟨(⟨z0, z1, z2, n3, n4, ns⟩, a, cap), ?_, h3, h4, hns, bears_RU b5⟩
    simp only [List.cons.injEq, and_true] at e0 e1 e2 e3 e4
    subst e5
    rw [e0, e1, e2, e3, e4, hlen]
theorem bears_acts {v : Value} {d : DataW H} {ps : List MemPlace} (hval : ∀ cs, v ≠ .agg cs) (h : DataW.Trod enc Try.prog W 0 (fun _ => true) true 49 v d ps) :
    ∃ (a : Option Addr) (n cap : Nat) (As : Nat → Lk.LAct) (ta : Nat → Option Addr) (tc : Nat → Nat), v = .slice a n cap ∧ (∀ i, i < n → (As i).node < 4294967296 ∧ (As i).beside < 4294967296 ∧ ∀ x ∈ (As i).to, x < 4294967296) ∧
      Bears W (RoS 6 a n cap (rows n fun i => [.int .i64 (As i).what, .int .i64 (As i).head, .int .i64 (As i).other, .int .u32 (As i).node, .int .u32 (As i).beside, .slice (ta i) (As i).to.length (tc i)])) ∧ Bears W (AllR Lk.RU ((List.range n).map fun i => .slice (ta i) (As i).to.length (tc i)) ((List.range n).map fun i => (As i).to)) := by
  obtain ⟨fuel, hf⟩ := h
  have hv : v.cells.toList = [v] := by cases v <;> first | rfl | exact absurd rfl (hval _)
  rw [hv] at hf
  have k51 : Try.prog.cellsOf 51 = 6 := by kernel_rfl
  rcases open_slice Try.underlying49 hf with ⟨h1, _⟩ | ⟨a, len, cap, m, n, D, Pl, h1, hb, hl, hm, hmm, _, hx⟩
  · obtain rfl := (List.cons.inj h1).1
    exact ⟨none, 0, 0, fun _ => default, fun _ => none, fun _ => 0, rfl, by omega, ⟨fun _ => none, .inl ⟨rfl, rfl, rfl, rfl⟩, fun k x h => by cases h⟩, bears_allR rfl fun i v x h => by simp at h⟩
  · obtain rfl := (List.cons.inj h1).1
    simp only [if_true] at hmm
    subst m
    rw [k51] at hx
    obtain ⟨Q, hQ⟩ := choose_lt (n := cap) (α := Lk.LAct × Option Addr × Nat) (p := fun i q => W.cells? 0 (a.add (i * 6)) 6 = some [.int .i64 q.1.what, .int .i64 q.1.head, .int .i64 q.1.other, .int .u32 q.1.node, .int .u32 q.1.beside, .slice q.2.1 q.1.to.length q.2.2] ∧ q.1.node < 4294967296 ∧ q.1.beside < 4294967296 ∧ (∀ x ∈ q.1.to, x < 4294967296) ∧ Bears W (Lk.RU (.slice q.2.1 q.1.to.length q.2.2) q.1.to)) (fun i hi => by
      obtain ⟨cs', h2, h3⟩ := hx i hi
      obtain ⟨q, e, h4⟩ := act_open h3
      exact ⟨q, by rw [h2, e], h4⟩)
    refine ⟨some a, len, cap, fun i => (Q i).1, fun i => (Q i).2.1, fun i => (Q i).2.2, rfl, fun i hi => ?_, ?_, ?_⟩
    · obtain ⟨_, h2, h3, h4, _⟩ := hQ i (by omega)
      exact ⟨h2, h3, h4⟩
    · exact bears_rows (by decide) (fun _ => rfl) hl fun i hi => (hQ i hi).1
    · refine bears_allR (by simp) fun i v x h2 h3 => ?_
      have hi : i < len := by have := (List.getElem?_eq_some_iff.1 h2).1; simpa using this
      simp [hi] at h2 h3
      subst h2; subst h3
      exact (hQ i (by omega)).2.2.2.2
end
theorem holds_ok : LawOk Try.prog Try.f5 Rows.linksHoldsSpec := ⟨laid, by kernel_rfl, rfl, ⟨4, rfl, Try.underlying4⟩, fun H ds h => by
  match ds, h with
  | [_, _, _, _], _ => exact ⟨rfl, rfl, rfl⟩⟩
set_option maxRecDepth 100000 in
theorem holds_lifted (os : Os) (started : os.Started) (H : Type) (enc : TypeId × Value → H) :
    ReturnsInHanded {} Try.checked os 5 .any (Rows.linksHoldsSpec.pre6 enc Try.prog Try.f5 Rows.linksHoldsRow.domain false) (Rows.linksHoldsSpec.post enc Try.prog Try.f5 false true false false) := by
  refine returnsInHanded_of_change (C := Try.checked) own started (by kernel_rfl) Try.func5
    (ChangeSpec.witness6 (enc := enc) (C := Try.checked) false ⟨#[], #[.int .i64 0, .int .i64 0, .slice none 0 0, .int .u8 0], []⟩ 8 (by kernel_rfl) (by kernel_rfl) (by kernel_rfl) (by kernel_rfl)) ?_
  intro W base args ds gs before hval0 hW hcnd _
  have hval : ∀ (j : Nat) t v, Try.f5.params[j]? = some t → args[j]? = some v → Value.okWide Try.prog W .any base t v := hval0
  have hW' := hW
  obtain ⟨p, q, hA0, hV, rfl, hfz, hnd⟩ := hW
  have hA : DataW.TrodAll enc Try.prog W 0 (fun _ => true) true Try.f5.params.toList args.toList ds p := hA0
  rw [Try.params5] at hA hval
  obtain ⟨v0, vs0, d0, ds0, p0, q0, hargs, rfl, rfl, h0, r0⟩ := trodAll_cons hA
  obtain ⟨v1, vs1, d1, ds1, p1, q1, rfl, rfl, rfl, h1, r1⟩ := trodAll_cons r0
  obtain ⟨v2, vs2, d2, ds2, p2, q2, rfl, rfl, rfl, h2, r2⟩ := trodAll_cons r1
  obtain ⟨v3, vs3, d3, ds3, p3, q3, rfl, rfl, rfl, h3, r3⟩ := trodAll_cons r2
  obtain ⟨rfl, rfl, rfl⟩ := trodAll_nil r3
  obtain rfl : args = #[v0, v1, v2, v3] := by cases args; simp_all
  obtain ⟨a0, rfl, _, _, w0⟩ := open_int Try.underlying3 (hval 0 3 v0 rfl rfl) h0
  obtain ⟨a1, rfl, _, _, w1⟩ := open_int Try.underlying3 (hval 1 3 v1 rfl rfl) h1
  obtain ⟨a, n, cap, As, ta, tc, rfl, hA', b1, b2⟩ := bears_acts (okWide_slice Try.underlying49 (hval 2 49 v2 rfl rfl)) h2
  obtain ⟨a3, rfl, _, _, w3⟩ := open_int Try.underlying5 (hval 3 5 v3 rfl rfl) h3
  have hb3 : 0 ≤ a3 ∧ a3 ≤ 255 := by
    have k1 : IntKind.min .u8 = 0 := rfl
    have k2 : IntKind.max .u8 = 255 := rfl
    simp only [Lit.wf, Bool.and_eq_true, decide_eq_true_iff, k1, k2] at w3
    exact w3
  obtain ⟨t, rfl⟩ : ∃ t : Nat, a3 = t := ⟨a3.toNat, by omega⟩
  exact law_calls holds_ok hW' (holds_spec a0 a1 a n cap As ta tc t (by omega) fun i hi => ⟨(hA' i hi).1, (hA' i hi).2.1⟩) (fun x hx => by
    simp only [List.mem_cons, List.not_mem_nil, or_false] at hx
    subst hx
    exact b1)
theorem linksHolds_proved : Rows.LinksHoldsSaid :=
  OpenClaim.holds_of_wide 5 Try.f5 rfl rfl rfl rfl rfl rfl rfl ⟨rfl, rfl, rfl, rfl, rfl⟩ rfl rfl rfl rfl rfl (by kernel_rfl) Try.func5 (by kernel_rfl)
    (of_decide_eq_true (by kernel_rfl)) (by unfold Func.isWrapper; first | (rw [if_pos (by decide +kernel)]; kernel_rfl) | (rw [if_neg (by decide +kernel)]; exact ⟨rfl, rfl⟩))
    (fun os started H enc _ => holds_lifted os started H enc)
#print axioms linksHolds_proved
end Go.Proofs.Ytgmccdicncocdaa
