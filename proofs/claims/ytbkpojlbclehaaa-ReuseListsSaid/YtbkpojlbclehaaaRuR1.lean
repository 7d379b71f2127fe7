/- The reference of reuse, walked. -/
import Derived.Test.YtbkpojlbclehaaaRuW1
import Derived.Test.YtbkpojlbclehaaaRuMore
import Derived.Test.YtbkpojlbclehaaaSlD
import Derived.Test.YtbkpojlbclehaaaSlEnd2
namespace Go.Ru
open Go.Sl
variable {tr : List Nat} {i m s : Nat}
theorem rv_at (h : m < i) (hi : i ≤ tr.length) : (rv tr i).getD m 0 = tr.getD (i - 1 - m) 0 := by
  unfold rv
  rw [List.getD_eq_getElem?_getD, List.getElem?_reverse (by rw [List.length_take]; omega), List.length_take, Nat.min_eq_left hi, List.getElem?_take, if_pos (by omega), List.getD_eq_getElem?_getD]
theorem filter_take {L : List Nat} {x k : Nat} (h : k < L.length) : (L.getD k 0 = x → (L.take (k + 1)).filter (fun y => y != x) = (L.take k).filter fun y => y != x) ∧ (L.getD k 0 ≠ x → (L.take (k + 1)).filter (fun y => y != x) = (L.take k).filter (fun y => y != x) ++ [L.getD k 0]) := by
  have e : L.take (k + 1) = L.take k ++ [L.getD k 0] := by
    rw [List.getD_eq_getElem?_getD, List.getElem?_eq_getElem h, ← List.take_append_getElem h]; rfl
  rw [e, List.filter_append]
  constructor
  · intro h; rw [h]; simp
  · intro h; rw [List.filter_cons_of_pos (by simpa only [bne_iff_ne, ne_eq] using h)]; rfl
theorem dd_nil : [] = dd ((rv tr i).take 0) := rfl
theorem dd_len_le {l : List Nat} : (dd l).length ≤ l.length := by
  induction l with
  | nil => exact Nat.le_refl _
  | cons x l ih =>
    show (x :: (dd l).filter _).length ≤ _
    have := List.length_filter_le (fun y => y != x) (dd l)
    simp only [List.length_cons]
    omega
/-- Whether a list has a key. -/
structure InB (L : List Nat) (k : Nat) (b : Bool) : Prop where
  out : decide (k ∈ L) = b
theorem u32s_snocR {A : List Nat} {x : Nat} : Lk.u32s (A ++ [x]) = Lk.u32s A ++ [.int .u32 (x : Nat)] := by simp [Lk.u32s]
end Go.Ru
namespace Go.Proofs.Ytbkpojlbclehaaa
open Go.Lk Go.Sl Go.Ru
attribute [local irreducible] TK TL TC Th Bk Nx fnPost WA TQ OpQ OpN SpecH Rd Ent IterH RoundH Rb Rp fnPostM
attribute [local irreducible] Ru.S Ru.D Ru.lb Ru.upd Ru.cnt Ru.dd Ru.stk Ru.rv
instance rr_has : Known Try.prog 81 (∀ (a : Option Addr) (n cap : Nat) (L : List Nat) (xk : Int) (k : Nat) [NatI xk k], n = L.length → n ≤ 5000 → SpecH Try.prog 81 #[.slice a n cap, .int .u32 xk] [RoS 1 a n cap (u32s L)] (fun _ : Unit => .bool (decide (k ∈ L))) (fun _ => [])) := ⟨fun a n cap L xk k _ hm hx => by
  obtain rfl : xk = (k : Int) := NatI.out
  subst hm
  refine spec_of Try.func81 rfl Try.ntmps81 rfl [(0, _), (1, _)] rfl ?_; intro base F l0 hl0; (try simp only [List.cons_append] at hl0); (try simp only [List.nil_append] at hl0); subst hl0
  repeat' (first | refine stw ?_ | refine And.intro ?_ ?_ | (intro e; exfalso; omega) | (intro e; subst e) | intro _)
  refine tc_lp (ι := {i : Nat // i ≤ L.length ∧ k ∉ L.take i}) [5] (fun e i => (5, .int .i64 i.1) :: e) (fun _ => _) (fun i => L.length - i.1) ⟨0, by omega, by simp⟩ ?_ (hl := Ent.refl _)
  rintro K ⟨i, hi, he⟩ hK
  dsimp only
  by_cases hlt : i < L.length
  · have e : L.take (i + 1) = L.take i ++ [L.getD i 0] := by
      rw [List.getD_eq_getElem?_getD, List.getElem?_eq_getElem hlt, ← List.take_append_getElem hlt]; rfl
    by_cases hk : L.getD i 0 = k
    · have hm : k ∈ L := hk ▸ mem_getD hlt
      rw [decide_eq_true hm]
      repeat' (first | refine stw ?_ | refine And.intro ?_ ?_ | (intro e; exfalso; omega) | (intro e; subst e) | intro _)
      exact rt1 () rfl
    · repeat' (first | refine stw ?_ | refine And.intro ?_ ?_ | (intro e; exfalso; omega) | (intro e; subst e) | intro _)
      exact again hK ⟨i + 1, by omega, by rw [e]; simp only [List.mem_append, List.mem_singleton, not_or]; exact ⟨he, fun h => hk h.symm⟩⟩
  · obtain rfl : i = L.length := by omega
    rw [List.take_length] at he
    rw [decide_eq_false he]
    repeat' (first | refine stw ?_ | refine And.intro ?_ ?_ | (intro e; exfalso; omega) | (intro e; subst e) | intro _)
    exact rt1 () rfl⟩
theorem rr_hasV : Known Try.prog 81 (∀ (a : Option Addr) (n cap : Nat) (L : List Nat) (xk : Int) (k : Nat) [NatI xk k] (b : Bool), InB L k b → n = L.length → n ≤ 5000 → SpecH Try.prog 81 #[.slice a n cap, .int .u32 xk] [Vec 34 1 a n cap (u32s L)] (fun _ : Unit => .bool b) (fun _ => [Vec 34 1 a n cap (u32s L)])) := ⟨fun a n cap L xk k _ b hb hm hx => by
  have h := rr_has.out a n cap L xk k hm hx
  rw [hb.out] at h
  exact spec_vecRo h⟩
theorem rr_hasB : Known Try.prog 81 (∀ (a : Option Addr) (n cap : Nat) (L : List Nat) (xk : Int) (k : Nat) [NatI xk k] (b : Bool), InB L k b → n = L.length → n ≤ 5000 → SpecH Try.prog 81 #[.slice a n cap, .int .u32 xk] [RoS 1 a n cap (u32s L)] (fun _ : Unit => .bool b) (fun _ => [])) := ⟨fun a n cap L xk k _ b hb hm hx => by
  have h := rr_has.out a n cap L xk k hm hx
  rwa [hb.out] at h⟩
set_option maxHeartbeats 4000000 in
instance rr_distance : Known Try.prog 80 (∀ (a : Option Addr) (n cap : Nat) (tr : List Nat) (xi : Int) (i : Nat) [NatI xi i], n = tr.length → n ≤ 4096 → i < n → SpecH Try.prog 80 #[.slice a n cap, .int .i64 xi] [RoS 1 a n cap (u32s tr)] (fun _ : Unit => .int .i64 (D tr i)) (fun _ => [])) := ⟨fun a n cap tr xi i _ hn hx hi => by
  obtain rfl : xi = (i : Int) := NatI.out
  subst hn
  refine spec_of Try.func80 rfl Try.ntmps80 rfl [(0, _), (1, _)] rfl ?_; intro base F l0 hl0; (try simp only [List.cons_append] at hl0); (try simp only [List.nil_append] at hl0); subst hl0
  haveI := rr_hasV
  repeat' (first | refine stw ?_ | refine And.intro ?_ ?_ | (intro e; exfalso; omega) | (intro e; subst e) | intro _)
  refine tc_lp (ι := {q : Nat × Int × (Option Addr × Nat) × List Nat // q.1 ≤ i ∧ q.2.1 = (i : Nat) - 1 - (q.1 : Nat) ∧ tr.getD i 0 ∉ (rv tr i).take q.1 ∧ q.2.2.2 = dd ((rv tr i).take q.1)}) [5, 6] (fun e q => (5, .slice q.1.2.2.1.1 q.1.2.2.2.length q.1.2.2.1.2) :: (6, .int .i64 q.1.2.1) :: e) (fun q => [Vec 34 1 q.1.2.2.1.1 q.1.2.2.2.length q.1.2.2.1.2 (u32s q.1.2.2.2), RoS 1 a tr.length cap (u32s tr), F]) (fun q => i - q.1.1) ⟨(0, (i : Nat) - 1, (none, 0), []), by omega, by dsimp only; omega, by simp, dd_nil⟩ ?_
    (hl := by show Ent _ [Vec 34 1 none 0 0 [], RoS 1 a tr.length cap (u32s tr), F]; exact en)
  rintro K ⟨⟨m, w, ⟨b, c⟩, ks⟩, hm, hw, hno, hks⟩ hK
  dsimp only at hm hw hno hks ⊢
  have hrl := rv_len (Nat.le_of_lt hi)
  have hdl : ks.length ≤ m := by rw [hks]; exact Nat.le_trans dd_len_le (by rw [List.length_take]; omega)
  by_cases hc : m < i
  · obtain rfl : w = ((i - 1 - m : Nat) : Int) := by omega
    have hat := rv_at hc (Nat.le_of_lt hi)
    have htk := dd_take (r := rv tr i) (i := m) (by omega)
    rw [hat, ← hks] at htk
    by_cases hk : tr.getD (i - 1 - m) 0 = tr.getD i 0
    · obtain ⟨d1, d2⟩ := dd_idx (r := rv tr i) (i := m) (by omega) (by rw [hat]; exact hk) hno
      have hD : D tr i = (ks.length : Nat) := by rw [D_in (by rw [stk_rv]; exact d1), stk_rv, d2, hks]
      rw [hD]
      repeat' (first | refine stw ?_ | refine And.intro ?_ ?_ | (intro e; exfalso; omega) | (intro e; subst e) | intro _)
      exact rt1 () rfl
    · have hno2 : tr.getD i 0 ∉ (rv tr i).take (m + 1) := by
        rw [List.take_succ_eq_append_getElem (by omega), List.mem_append, List.mem_singleton, not_or]
        refine ⟨hno, fun h => hk ?_⟩
        rw [h, ← hat, List.getD_eq_getElem?_getD, List.getElem?_eq_getElem (by omega)]; rfl
      by_cases hin : tr.getD (i - 1 - m) 0 ∈ ks
      · have hin' : tr.getD (i - 1 - m) 0 ∈ (rv tr i).take m := mem_dd.1 (hks ▸ hin)
        rw [if_pos hin'] at htk
        have hb : InB ks (tr.getD (i - 1 - m) 0) true := ⟨decide_eq_true hin⟩
        repeat' (first | refine stw ?_ | refine And.intro ?_ ?_ | (intro e; exfalso; omega) | (intro e; subst e) | intro _)
        exact again hK ⟨(m + 1, ((i - 1 - m : Nat) : Int) - 1, (b, c), ks), by omega, by dsimp only; omega, hno2, htk.symm⟩
      · have hin' : tr.getD (i - 1 - m) 0 ∉ (rv tr i).take m := fun h => hin (hks ▸ mem_dd.2 h)
        rw [if_neg hin'] at htk
        have hb : InB ks (tr.getD (i - 1 - m) 0) false := ⟨decide_eq_false hin⟩
        repeat' (first | refine stw ?_ | refine And.intro ?_ ?_ | (intro e; exfalso; omega) | (intro e; subst e) | intro _)
        rename_i _ b2 c2
        rw [← u32s_snocR, show ks.length + 1 = (ks ++ [tr.getD (i - 1 - m) 0]).length by simp]
        exact again hK ⟨(m + 1, ((i - 1 - m : Nat) : Int) - 1, (b2, c2), ks ++ [tr.getD (i - 1 - m) 0]), by omega, by dsimp only; omega, hno2, htk.symm⟩
  · obtain rfl : m = i := by omega
    rw [List.take_of_length_le (by omega)] at hno
    rw [D_no (fun h => hno (mem_stk_rv.1 h))]
    repeat' (first | refine stw ?_ | refine And.intro ?_ ?_ | (intro e; exfalso; omega) | (intro e; subst e) | intro _)
    exact rt1 () rfl⟩
set_option maxHeartbeats 4000000 in
instance rr_stack : Known Try.prog 43 (∀ (a : Option Addr) (n cap : Nat) (tr : List Nat), n = tr.length → n ≤ 4096 → SpecH Try.prog 43 #[.slice a n cap] [RoS 1 a n cap (u32s tr)] (fun q : Option Addr × Nat => .slice q.1 (stk tr n).length q.2) (fun q => [RoS 1 q.1 (stk tr n).length q.2 (u32s (stk tr n))])) := ⟨fun a n cap tr hn hx => by
  subst hn
  refine spec_of Try.func43 rfl Try.ntmps43 rfl [(0, _)] rfl ?_; intro base F l0 hl0; (try simp only [List.cons_append] at hl0); (try simp only [List.nil_append] at hl0); subst hl0
  haveI := rr_hasV
  repeat' (first | refine stw ?_ | refine And.intro ?_ ?_ | (intro e; exfalso; omega) | (intro e; subst e) | intro _)
  refine tc_lp (ι := {q : Nat × Int × (Option Addr × Nat) × List Nat // q.1 ≤ tr.length ∧ q.2.1 = (tr.length : Nat) - 1 - (q.1 : Nat) ∧ q.2.2.2 = dd ((rv tr tr.length).take q.1)}) [3, 4] (fun e q => (3, .slice q.1.2.2.1.1 q.1.2.2.2.length q.1.2.2.1.2) :: (4, .int .i64 q.1.2.1) :: e) (fun q => [Vec 34 1 q.1.2.2.1.1 q.1.2.2.2.length q.1.2.2.1.2 (u32s q.1.2.2.2), RoS 1 a tr.length cap (u32s tr), F]) (fun q => tr.length - q.1.1) ⟨(0, (tr.length : Nat) - 1, (none, 0), []), by omega, by dsimp only; omega, dd_nil⟩ ?_
    (hl := by show Ent _ [Vec 34 1 none 0 0 [], RoS 1 a tr.length cap (u32s tr), F]; exact en)
  rintro K ⟨⟨m, w, ⟨b, c⟩, ks⟩, hm, hw, hks⟩ hK
  dsimp only at hm hw hks ⊢
  have hrl := rv_len (Nat.le_refl tr.length)
  have hdl : ks.length ≤ m := by rw [hks]; exact Nat.le_trans dd_len_le (by rw [List.length_take]; omega)
  by_cases hc : m < tr.length
  · obtain rfl : w = ((tr.length - 1 - m : Nat) : Int) := by omega
    have hat := rv_at hc (Nat.le_refl _)
    have htk := dd_take (r := rv tr tr.length) (i := m) (by omega)
    rw [hat, ← hks] at htk
    by_cases hin : tr.getD (tr.length - 1 - m) 0 ∈ ks
    · have hin' : tr.getD (tr.length - 1 - m) 0 ∈ (rv tr tr.length).take m := mem_dd.1 (hks ▸ hin)
      rw [if_pos hin'] at htk
      have hb : InB ks (tr.getD (tr.length - 1 - m) 0) true := ⟨decide_eq_true hin⟩
      repeat' (first | refine stw ?_ | refine And.intro ?_ ?_ | (intro e; exfalso; omega) | (intro e; subst e) | intro _)
      exact again hK ⟨(m + 1, ((tr.length - 1 - m : Nat) : Int) - 1, (b, c), ks), by omega, by dsimp only; omega, htk.symm⟩
    · have hin' : tr.getD (tr.length - 1 - m) 0 ∉ (rv tr tr.length).take m := fun h => hin (hks ▸ mem_dd.2 h)
      rw [if_neg hin'] at htk
      have hb : InB ks (tr.getD (tr.length - 1 - m) 0) false := ⟨decide_eq_false hin⟩
      repeat' (first | refine stw ?_ | refine And.intro ?_ ?_ | (intro e; exfalso; omega) | (intro e; subst e) | intro _)
      rename_i _ b2 c2
      rw [← u32s_snocR, show ks.length + 1 = (ks ++ [tr.getD (tr.length - 1 - m) 0]).length by simp]
      exact again hK ⟨(m + 1, ((tr.length - 1 - m : Nat) : Int) - 1, (b2, c2), ks ++ [tr.getD (tr.length - 1 - m) 0]), by omega, by dsimp only; omega, htk.symm⟩
  · obtain rfl : m = tr.length := by omega
    rw [List.take_of_length_le (by omega), ← stk_rv] at hks
    subst hks
    repeat' (first | refine stw ?_ | refine And.intro ?_ ?_ | (intro e; exfalso; omega) | (intro e; subst e) | intro _)
    refine frz b ?_
    exact rt1 (b, c) rfl⟩
set_option maxHeartbeats 4000000 in
instance rr_dists : Known Try.prog 41 (∀ (a : Option Addr) (n cap : Nat) (tr : List Nat), n = tr.length → n ≤ 4096 → SpecH Try.prog 41 #[.slice a n cap] [RoS 1 a n cap (u32s tr)] (fun q : Option Addr × Nat => .slice q.1 n q.2) (fun q => [RoS 1 q.1 n q.2 (intsV .i64 (dL tr n))])) := ⟨fun a n cap tr hn hx => by
  subst hn
  refine spec_of Try.func41 rfl Try.ntmps41 rfl [(0, _)] rfl ?_; intro base F l0 hl0; (try simp only [List.cons_append] at hl0); (try simp only [List.nil_append] at hl0); subst hl0
  repeat' (first | refine stw ?_ | refine And.intro ?_ ?_ | (intro e; exfalso; omega) | (intro e; subst e) | intro _)
  refine tc_lp (ι := {q : Nat × Option Addr × Nat // q.1 ≤ tr.length}) [3, 4] (fun e q => (3, .slice q.1.2.1 q.1.1 q.1.2.2) :: (4, .int .i64 (q.1.1 : Nat)) :: e) (fun q => [Vec 3 1 q.1.2.1 q.1.1 q.1.2.2 (intsV .i64 (dL tr q.1.1)), RoS 1 a tr.length cap (u32s tr), F]) (fun q => tr.length - q.1.1) ⟨(0, none, 0), by omega⟩ ?_
    (hl := by show Ent _ [Vec 3 1 none 0 0 [], RoS 1 a tr.length cap (u32s tr), F]; exact en)
  rintro K ⟨⟨i, b, c⟩, hi⟩ hK
  dsimp only at hi ⊢
  by_cases hc : i < tr.length
  · have hd := D_lo (tr := tr) (i := i)
    repeat' (first | refine stw ?_ | refine And.intro ?_ ?_ | (intro e; exfalso; omega) | (intro e; subst e) | intro _)
    rename_i _ b2 c2
    rw [← intsV_snoc, ← dL_succ]
    exact again hK ⟨(i + 1, b2, c2), by omega⟩
  · obtain rfl : i = tr.length := by omega
    repeat' (first | refine stw ?_ | refine And.intro ?_ ?_ | (intro e; exfalso; omega) | (intro e; subst e) | intro _)
    refine frz b ?_
    exact rt1 (b, c) rfl⟩
end Go.Proofs.Ytbkpojlbclehaaa
