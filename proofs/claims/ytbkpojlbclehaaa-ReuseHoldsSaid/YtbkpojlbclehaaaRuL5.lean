/- The laws of reuse, walked: THE THEOREM OF STAGE 37. -/
import Derived.Test.YtbkpojlbclehaaaRuL4
namespace Go.Ru
/-- Another number for a key. -/
def oth (add x : Nat) : Nat := ((x ^^^ 5) + add) % 4294967296
theorem xor_lt {x : Nat} (h : x < 4294967296) : x ^^^ 5 < 4294967296 := Nat.xor_lt_two_pow (n := 32) h (by decide)
theorem xor_inj {x y : Nat} (h : x ^^^ 5 = y ^^^ 5) : x = y := by
  have := congrArg (· ^^^ 5) h
  simpa [Nat.xor_assoc] using this
theorem oth_inj {add : Nat} {tr : List Nat} (h : ∀ k ∈ tr, k < 4294967296) (_h2 : add < 4294967296) : Inj (oth add) tr := fun x hx y hy e => by
  have h1 := xor_lt (h x hx)
  have h2 := xor_lt (h y hy)
  unfold oth at e
  refine xor_inj ?_
  omega
theorem oth_lt {add x : Nat} : oth add x < 4294967296 := Nat.mod_lt _ (by decide)
theorem xor_bits {x : Nat} (h : x < 4294967296) : IntKind.u32.wrap ((BitVec.ofInt IntKind.u32.bits (x : Int) ^^^ BitVec.ofInt IntKind.u32.bits 5).toNat : Int) = ((x ^^^ 5 : Nat) : Int) := by
  have e : (BitVec.ofInt IntKind.u32.bits (x : Int) ^^^ BitVec.ofInt IntKind.u32.bits 5).toNat = x ^^^ 5 := by
    show (BitVec.ofInt 32 (x : Int) ^^^ BitVec.ofInt 32 5).toNat = _
    rw [BitVec.toNat_xor, BitVec.ofInt_natCast, BitVec.toNat_ofNat, Nat.mod_eq_of_lt h]; rfl
  rw [e]
  have := xor_lt h
  exact IntWalk.u32_in _ (by omega)
theorem oth_wrap {x add : Nat} : IntKind.u32.wrap (((x ^^^ 5 : Nat) : Int) + (add : Int)) = ((oth add x : Nat) : Int) := by
  unfold oth
  show (((x ^^^ 5 : Nat) : Int) + (add : Int)) % 4294967296 = _
  omega
section
variable {tr : List Nat} {add i : Nat}
/-- Other numbers, as far as they are written. -/
def otL (tr : List Nat) (add i : Nat) : List Nat := (List.range tr.length).map fun j => if j < i then oth add (tr.getD j 0) else 0
theorem otL_len : (otL tr add i).length = tr.length := by simp [otL]
theorem otL_zero : otL tr add 0 = List.replicate tr.length 0 := by
  unfold otL
  refine List.ext_getElem (by simp) fun j h1 h2 => ?_
  simp
theorem otL_all : otL tr add tr.length = tr.map (oth add) := by
  unfold otL
  refine List.ext_getElem (by simp) fun j h1 h2 => ?_
  simp only [List.length_map, List.length_range] at h1
  simp only [List.getElem_map, List.getElem_range]
  rw [if_pos h1, List.getD_eq_getElem?_getD, List.getElem?_eq_getElem h1]; rfl
theorem otL_step (_h : i < tr.length) : (otL tr add i).set i (oth add (tr.getD i 0)) = otL tr add (i + 1) := by
  refine List.ext_getElem (by simp [otL]) fun j h1 h2 => ?_
  simp only [List.length_set, otL_len] at h1
  rw [List.getElem_set]
  simp only [otL, List.getElem_map, List.getElem_range]
  by_cases e : i = j
  · subst e; rw [if_pos rfl, if_pos (by omega)]
  · rw [if_neg e]
    by_cases h3 : j < i
    · rw [if_pos h3, if_pos (by omega)]
    · rw [if_neg h3, if_neg (by omega)]
end
end Go.Ru
namespace Go.Proofs.Ytbkpojlbclehaaa
open Go.Lk Go.Sl Go.Ru
attribute [local irreducible] TK TL TC Th Bk Nx fnPost WA TQ OpQ OpN SpecH Rd Ent IterH RoundH Rb Rp fnPostM
attribute [local irreducible] Ru.S Ru.D Ru.lb Ru.upd Ru.cnt Ru.cat Ru.dd Ru.stk Ru.rv Ru.hitsL Ru.ks Ru.ix Ru.LI Ru.G9 Ru.dL Ru.oth Ru.otL
set_option maxHeartbeats 16000000 in
theorem rul_holds (a : Option Addr) (c : Nat) (tr : List Nat) (hlt : ∀ k ∈ tr, k < 4294967296) (add : Nat) (hadd : add < 4294967296) : SpecH Try.prog 11 #[.slice a tr.length c, .int .u32 (add : Nat)] [RoS 1 a tr.length c (u32s tr)] (fun _ : Unit => .bool true) (fun _ => []) := by
  haveI := ru_dists
  haveI := ru_hits
  haveI := ru_stack
  haveI := rr_intsB
  by_cases hn : tr.length ≤ 200
  · have hKl := stk_len_le (tr := tr) (i := tr.length)
    have hhl := hitsL_len (tr := tr) (K := (stk tr tr.length).length)
    have hdl := dL_len (tr := tr) (i := tr.length)
    have h0 := hitsL_at (tr := tr) (K := (stk tr tr.length).length) (s := 0) (by omega)
    rw [cnt_zero] at h0
    have hK := hitsL_at (tr := tr) (K := (stk tr tr.length).length) (s := (stk tr tr.length).length) (Nat.le_refl _)
    have hall := cnt_all (tr := tr) (i := tr.length) (Nat.le_refl (stk tr tr.length).length) (Nat.le_refl _)
    refine spec_of Try.func11 rfl Try.ntmps11 rfl [(0, _), (1, _)] rfl ?_; intro base F l0 hl0; (try simp only [List.cons_append] at hl0); (try simp only [List.nil_append] at hl0); subst hl0
    repeat' (first | refine stw ?_ | refine And.intro ?_ ?_ | (intro e; exfalso; omega) | (intro e; subst e) | intro _)
    rename_i da dc ha hc2 sa sc
    refine TC.weak (env' := [(11, .int .i64 (0 : Nat)), (5, .slice da tr.length dc), (7, .slice ha ((stk tr tr.length).length + 1) hc2), (4, .bool false), (0, .slice a tr.length c), (1, .int .u32 (add : Nat)), (6, .int .i64 0)]) ?_ (by (repeat (first | exact Sub.nil | (apply Sub.cons; exact rfl))); done)
    refine tc_lp (ι := {x : Nat // x ≤ (stk tr tr.length).length + 1}) [11] (fun e x => (11, .int .i64 (x.1 : Nat)) :: e) (fun _ => _) (fun x => (stk tr tr.length).length + 1 - x.1) ⟨0, by omega⟩ ?_ (hl := Ent.refl _)
    rintro K ⟨z, hz⟩ hK2
    dsimp only
    by_cases hc : z < (stk tr tr.length).length + 1
    · have hat := hitsL_at (tr := tr) (K := (stk tr tr.length).length) (s := z) (by omega)
      repeat' (first | refine stw ?_ | refine And.intro ?_ ?_ | (intro e; exfalso; omega) | (intro e; subst e) | intro _)
      refine tc_lp (ι := {x : Nat × Nat // x.1 ≤ tr.length ∧ x.2 = cnt tr z x.1}) [12, 13] (fun e x => (12, .int .i64 (x.1.2 : Nat)) :: (13, .int .i64 (x.1.1 : Nat)) :: e) (fun _ => _) (fun x => tr.length - x.1.1) ⟨(0, 0), by omega, by unfold cnt; rfl⟩ ?_ (hl := Ent.refl _)
      rintro K3 ⟨⟨i, w⟩, hi, hw⟩ hK3
      dsimp only at hi hw ⊢
      have hcl := cnt_le (tr := tr) (s := z) (i := i)
      by_cases hci : i < tr.length
      · have hdi := dL_at (tr := tr) hci
        have hcs := cnt_step (tr := tr) (s := z) (i := i)
        by_cases hd : 0 ≤ D tr i ∧ D tr i < (z : Int)
        · rw [if_pos hd] at hcs
          obtain ⟨hd1, hd2⟩ := hd
          repeat' (first | refine stw ?_ | refine And.intro ?_ ?_ | (intro e; exfalso; omega) | (intro e; subst e) | intro _)
          exact again hK3 ⟨(i + 1, w + 1), by dsimp only; omega, by dsimp only; omega⟩ (by dsimp only; omega)
        · rw [if_neg hd] at hcs
          by_cases hd1 : 0 ≤ D tr i
          · have hd2 : ¬ D tr i < (z : Int) := fun h => hd ⟨hd1, h⟩
            clear hd
            repeat' (first | refine stw ?_ | refine And.intro ?_ ?_ | (intro e; exfalso; omega) | (intro e; subst e) | intro _)
            exact again hK3 ⟨(i + 1, w), by dsimp only; omega, by dsimp only; omega⟩ (by dsimp only; omega)
          · clear hd
            repeat' (first | refine stw ?_ | refine And.intro ?_ ?_ | (intro e; exfalso; omega) | (intro e; subst e) | intro _)
            exact again hK3 ⟨(i + 1, w), by dsimp only; omega, by dsimp only; omega⟩ (by dsimp only; omega)
      · obtain rfl : i = tr.length := by omega
        by_cases hz0 : z = 0
        · subst hz0
          repeat' (first | refine stw ?_ | refine And.intro ?_ ?_ | (intro e; exfalso; omega) | (intro e; subst e) | intro _)
          exact again hK2 ⟨0 + 1, by omega⟩
        · have hmo := hitsL_mono (tr := tr) (K := (stk tr tr.length).length) (a := z - 1) (b := z) (by omega) (by omega)
          repeat' (first | refine stw ?_ | refine And.intro ?_ ?_ | (intro e; exfalso; omega) | (intro e; subst e) | intro _)
          exact again hK2 ⟨z + 1, by omega⟩
    · obtain rfl : z = (stk tr tr.length).length + 1 := by omega
      repeat' (first | refine stw ?_ | refine And.intro ?_ ?_ | (intro e; exfalso; omega) | (intro e; subst e) | intro _)
      rename_i bo
      rw [rows_zeroU, ← otL_zero (add := add)]
      refine tc_lp (ι := {x : Nat // x ≤ tr.length}) [15] (fun e x => (15, .int .i64 (x.1 : Nat)) :: e) (fun x => [Vec 34 1 (some ⟨bo, 0, none⟩) tr.length tr.length (u32s (otL tr add x.1)), RoS 1 sa (stk tr tr.length).length sc (u32s (stk tr tr.length)), RoS 1 ha ((stk tr tr.length).length + 1) hc2 (intsV .i64 (hitsL tr (stk tr tr.length).length)), RoS 1 da tr.length dc (intsV .i64 (dL tr tr.length)), RoS 1 a tr.length c (u32s tr), F]) (fun x => tr.length - x.1) ⟨0, by omega⟩ ?_
      rintro K3 ⟨i, hi⟩ hK3
      dsimp only
      have hol := otL_len (tr := tr) (add := add) (i := i)
      by_cases hci : i < tr.length
      · have hx := hlt _ (mem_getD hci)
        have hst := otL_step (add := add) hci
        have hxb := xor_bits hx
        repeat' (first | refine stw ?_ | refine And.intro ?_ ?_ | (intro e; exfalso; omega) | (intro e; subst e) | intro _)
        refine tl_q (opq_xorK (by (first | exact want_none rfl | exact want_yes rfl rfl rfl rfl rfl | fail)) rfl rfl hxb) rfl (Nat.lt_of_ble_eq rfl) ?_
        repeat' (first | refine stw ?_ | refine And.intro ?_ ?_ | (intro e; exfalso; omega) | (intro e; subst e) | intro _)
        rw [oth_wrap]
        repeat' (first | refine stw ?_ | refine And.intro ?_ ?_ | (intro e; exfalso; omega) | (intro e; subst e) | intro _)
        rw [hst]
        exact again hK3 ⟨i + 1, by omega⟩
      · obtain rfl : i = tr.length := by omega
        rw [otL_all]
        have hml : tr.length = (tr.map (oth add)).length := by simp
        have hlt2 : ∀ k ∈ tr.map (oth add), k < 4294967296 := fun k hk => by
          obtain ⟨x, _, rfl⟩ := List.mem_map.1 hk
          exact oth_lt
        have sb : SameBI (dL (tr.map (oth add)) tr.length) (dL tr tr.length) true := ⟨decide_eq_true (dL_map (oth_inj hlt hadd) (Nat.le_refl _))⟩
        have hdl2 := dL_len (tr := tr.map (oth add)) (i := tr.length)
        repeat' (first | refine stw ?_ | refine And.intro ?_ ?_ | (intro e; exfalso; omega) | (intro e; subst e) | intro _)
        exact rt1 () rfl
  · refine spec_of Try.func11 rfl Try.ntmps11 rfl [(0, _), (1, _)] rfl ?_; intro base F l0 hl0; (try simp only [List.cons_append] at hl0); (try simp only [List.nil_append] at hl0); subst hl0
    repeat' (first | refine stw ?_ | refine And.intro ?_ ?_ | (intro e; exfalso; omega) | (intro e; subst e) | intro _)
    exact rt1 () rfl
end Go.Proofs.Ytbkpojlbclehaaa
