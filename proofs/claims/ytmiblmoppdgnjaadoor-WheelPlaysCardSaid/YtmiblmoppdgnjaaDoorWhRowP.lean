/- cubbyholelaw19.WheelPlays returns true for every input, and leaves its arguments as they were. No condition. -/
import Derived.Test.YtmiblmoppdgnjaaDoorWhL5
import Derived.Test.YtmiblmoppdgnjaaDoorSlE
import Derived.Test.YtmiblmoppdgnjaaDoorWhTab
import Derived.Test.YtmiblmoppdgnjaaDoorCards
import Derived.Test.YtmiblmoppdgnjaaDoorTie
import Derived.SevenTiedAt
namespace Go.Proofs.YtmiblmoppdgnjaaDoor
open Go.ChangeShapes Go.WideShapes Go.ChangeAt Go.RowKit Go.Sl Go.Deep
theorem own : ownKnob Tryd.prog.godebug = none := by kernel_rfl
theorem laid : laidOutB Tryd.prog = true := by kernel_rfl
theorem nat_u32 {z : Int} (h : (Lit.int .u32 z).wf = true) : ∃ n : Nat, z = n ∧ n < 4294967296 := by
  have k1 : IntKind.min .u32 = 0 := rfl
  have k2 : IntKind.max .u32 = 4294967295 := rfl
  simp only [Lit.wf, Bool.and_eq_true, decide_eq_true_iff, k1, k2] at h
  exact ⟨z.toNat, by omega, by omega⟩
section
variable {H : Type} {enc : TypeId × Value → H} {W : World}
set_option maxRecDepth 100000 in
theorem row0_open {fuel : Nat} {cs : List Value} {x : DataW H × List MemPlace} (h : DataW.trod enc Tryd.prog W 0 (fun _ => true) true fuel 42 cs = some x) :
    ∃ q : Int × Nat × Int, cs = [.int .i64 (q.1 : Int), .int .u32 (q.2.1 : Nat), .int .i64 (q.2.2 : Int)] ∧ q.2.1 < 4294967296 := by
  obtain ⟨xs, n, _, _, hl, hxl, hf⟩ := DataW.trod_struct Tryd.underlying42 h
  have hl6 : cs.length = 3 := hl.trans (by kernel_rfl)
  have hx6 : xs.length = 3 := hxl
  have k_int : Tryd.prog.cellsOf 3 = 1 := by kernel_rfl
  have k_u32 : Tryd.prog.cellsOf 31 = 1 := by kernel_rfl
  match cs, hl6 with
  | [c0, c1, c2], _ =>
    have f0 : DataW.trod enc Tryd.prog W 0 (fun _ => true) true n 3 (([c0, c1, c2].drop 0).take (Tryd.prog.cellsOf 3)) = xs[0]? := hf 0 _ rfl
    have f1 : DataW.trod enc Tryd.prog W 0 (fun _ => true) true n 31 (([c0, c1, c2].drop 1).take (Tryd.prog.cellsOf 31)) = xs[1]? := hf 1 _ rfl
    have f2 : DataW.trod enc Tryd.prog W 0 (fun _ => true) true n 3 (([c0, c1, c2].drop 2).take (Tryd.prog.cellsOf 3)) = xs[2]? := hf 2 _ rfl
    simp only [k_int, k_u32, List.drop_zero, List.drop_succ_cons, List.take_succ_cons, List.take_zero] at f0 f1 f2
    rw [List.getElem?_eq_getElem (by omega)] at f0 f1 f2
    obtain ⟨z0, e0, _, w0⟩ := DataW.trod_int Tryd.underlying3 f0
    obtain ⟨z1, e1, _, w1⟩ := DataW.trod_int Tryd.underlying31 f1
    obtain ⟨n1, rfl, h1⟩ := nat_u32 w1
    obtain ⟨z2, e2, _, w2⟩ := DataW.trod_int Tryd.underlying3 f2
    simp only [List.cons.injEq, and_true] at e0 e1 e2
    exact ⟨⟨z0, n1, z2⟩, by rw [e0, e1, e2], h1⟩
theorem row0_bears {v : Value} {d : DataW H} {ps : List MemPlace} (hval : ∀ cs, v ≠ .agg cs) (h : DataW.Trod enc Tryd.prog W 0 (fun _ => true) true 56 v d ps) :
    ∃ (a : Option Addr) (n cap : Nat) (Q : Nat → Int × Nat × Int), v = .slice a n cap ∧ (∀ i, i < n → (Q i).2.1 < 4294967296) ∧ Bears W (RoS 3 a n cap (rows n fun i => [.int .i64 ((Q i).1 : Int), .int .u32 ((Q i).2.1 : Nat), .int .i64 ((Q i).2.2 : Int)])) := by
  obtain ⟨fuel, hf⟩ := h
  have hv : v.cells.toList = [v] := by cases v <;> first | rfl | exact absurd rfl (hval _)
  rw [hv] at hf
  have k51 : Tryd.prog.cellsOf 42 = 3 := by kernel_rfl
  rcases open_slice Tryd.underlying56 hf with ⟨h1, _⟩ | ⟨a, len, cap, m, n, D, Pl, h1, hb, hl, hm, hmm, _, hx⟩
  · obtain rfl := (List.cons.inj h1).1
    exact ⟨none, 0, 0, fun _ => ⟨0, 0, 0⟩, rfl, by omega, ⟨fun _ => none, .inl ⟨rfl, rfl, rfl, rfl⟩, fun k x h => by cases h⟩⟩
  · obtain rfl := (List.cons.inj h1).1
    simp only [if_true] at hmm
    subst m
    rw [k51] at hx
    have hQ0 : ∀ i, ∃ q : Int × Nat × Int, i < cap → W.cells? 0 (a.add (i * 3)) 3 = some [.int .i64 (q.1 : Int), .int .u32 (q.2.1 : Nat), .int .i64 (q.2.2 : Int)] ∧ q.2.1 < 4294967296 := fun i => by
      by_cases hi : i < cap
      · obtain ⟨cs', h2, h3⟩ := hx i hi
        obtain ⟨q, e, h4⟩ := row0_open h3
        exact ⟨q, fun _ => ⟨by rw [h2, e], h4⟩⟩
      · exact ⟨⟨0, 0, 0⟩, fun h => absurd h hi⟩
    have hQ := fun i => Classical.choose_spec (hQ0 i)
    refine ⟨some a, len, cap, fun i => Classical.choose (hQ0 i), rfl, fun i hi => (hQ i (by omega)).2, bears_rows (by decide) (fun _ => rfl) hl fun i hi => (hQ i hi).1⟩
end
theorem wheelPlays_ok : LawOk Tryd.prog Tryd.f6 Rows.wheelPlaysSpec := ⟨laid, by kernel_rfl, rfl, ⟨4, rfl, Tryd.underlying4⟩, fun H ds h => by
  match ds, h with
  | [_], _ => exact ⟨rfl, rfl, rfl⟩⟩
set_option maxRecDepth 100000 in
theorem wheelPlays_lifted (os : Os) (started : os.Started) (H : Type) (enc : TypeId × Value → H) :
    ReturnsInHanded {} Tryd.checked os 6 .any (fun w args => (Rows.wheelPlaysSpec.pre enc Tryd.prog Tryd.f6 [] false w args ∧ laidMetH Tryd.prog lay w) ∧ sizedMet enc Tryd.prog Tryd.f6 (OpenSpec.ofChange Rows.wheelPlaysSpec) false w args) (Rows.wheelPlaysSpec.post enc Tryd.prog Tryd.f6 false true false false) := by
  refine returnsInHanded_of_change_and (C := Tryd.checked) (X := fun w _ => laidMetH Tryd.prog lay w) (fun _ _ _ hh h => h.of_heap hh) own started (by kernel_rfl) Tryd.func6
    (ChangeSpec.witness_shaped (enc := enc) (C := Tryd.checked) (os := os) (X := fun w _ => laidMetH Tryd.prog lay w) false (World.doorLaid Tryd.prog 400 os) #[.slice none 0 0] 8 rfl (World.shaped_of_RefB (by kernel_rfl) (by kernel_rfl)) (by kernel_rfl) (by kernel_rfl) (by kernel_rfl) (door_met os _)) ?_
  intro W base args ds gs before hval0 hW hcnd _ hL _
  have hval : ∀ (j : Nat) t v, Tryd.f6.params[j]? = some t → args[j]? = some v → Value.okWide Tryd.prog W .any base t v := hval0
  have hW' := hW
  obtain ⟨p, q, hA0, hV, rfl, hfz, hnd⟩ := hW
  have hA : DataW.TrodAll enc Tryd.prog W 0 (fun _ => true) true Tryd.f6.params.toList args.toList ds p := hA0
  rw [Tryd.params6] at hA hval
  obtain ⟨v0, vs0, d0, ds0, p0, q0, hargs, rfl, rfl, h0, r0⟩ := trodAll_cons hA
  obtain ⟨rfl, rfl, rfl⟩ := trodAll_nil r0
  obtain rfl : args = #[v0] := by cases args; simp_all
  obtain ⟨a0, n0, c0, Q0, rfl, b0, B0⟩ := row0_bears (okWide_slice Tryd.underlying56 (hval 0 56 v0 rfl rfl)) h0
  exact law_calls wheelPlays_ok hW' (whl_plays a0 n0 c0 Q0 b0) (fun x hx => by
    simp only [List.mem_cons, List.not_mem_nil, or_false] at hx
    rcases hx with rfl | rfl
    · exact B0
    · exact bears_tab hL)
theorem wheelPlays_said : Rows.WheelPlaysSaid :=
  OpenClaim.holds_of_wide 6 Tryd.f6 rfl rfl rfl rfl rfl rfl rfl ⟨rfl, rfl, rfl, rfl, rfl⟩ rfl rfl rfl rfl rfl (by kernel_rfl) Tryd.func6 (by kernel_rfl)
    (of_decide_eq_true (by kernel_rfl)) (by unfold Func.isWrapper; first | (rw [if_pos (by decide +kernel)]; kernel_rfl) | (rw [if_neg (by decide +kernel)]; exact ⟨rfl, rfl⟩))
    (fun os started H enc _ => wheelPlays_lifted os started H enc)
theorem wheelPlays_proved : Rows.WheelPlaysCardSaid :=
  Claim7.holds_tied_plain_at .later [] [.data] true (true, "8fa4c2c70ab5c7273606da16c36c8986e4febd1863b679c00e38d2657cf6b6fc") false
    wheelPlays_said (fun _ h => by cases h) (by kernel_rfl) (fun _ h => by cases h) wheelPlays_row_tie rfl ⟨rfl, rfl⟩ (by kernel_rfl) rfl
    (fun f fn hf hfn => by
      obtain rfl : f = 6 := Option.some.inj ((show Tryd.prog.funcNamed "cubbyhole/cubbyholelaw19.WheelPlays" = some 6 by kernel_rfl).symm.trans hf) |>.symm
      obtain rfl : fn = Tryd.f6 := (Option.some.inj (Tryd.func6.symm.trans hfn)).symm
      exact ⟨by kernel_rfl, fun j t ht => by
        rw [Tryd.params6] at ht
        have hm : t ∈ [56] := by simpa using Array.mem_of_getElem? ht
        have hall : ([56].all fun u => !Tryd.prog.wantsStandIn u) = true := by kernel_rfl
        exact (show Tryd.prog.wantsStandIn t = false by simpa using List.all_eq_true.1 hall t hm)⟩)
    (by kernel_rfl)
#print axioms wheelPlays_proved
end Go.Proofs.YtmiblmoppdgnjaaDoor
