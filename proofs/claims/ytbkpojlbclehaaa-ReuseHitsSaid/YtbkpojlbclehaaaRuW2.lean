/- reuse, walked: distances. -/
import Derived.Test.YtbkpojlbclehaaaRuW1
import Derived.Test.YtbkpojlbclehaaaRuMore
import Derived.Test.YtbkpojlbclehaaaSlD
import Derived.Test.YtbkpojlbclehaaaSlEnd2
namespace Go.Ru
open Go.Sl
theorem fw_zero {n : Nat} {tr : List Nat} : Fw n (List.replicate (n + 1) 0) (S tr 0) := ⟨by simp, fun k h1 h2 => by
  rw [S_zero, S_zero, List.getD_eq_getElem?_getD, List.getElem?_replicate, if_pos (by omega)]; rfl, fun k => S_lo, fun k => S_hi (by omega)⟩
end Go.Ru
namespace Go.Proofs.Ytbkpojlbclehaaa
open Go.Lk Go.Sl Go.Ru
attribute [local irreducible] TK TL TC Th Bk Nx fnPost WA TQ OpQ OpN SpecH Rd Ent IterH RoundH Rb Rp fnPostM
attribute [local irreducible] Ru.S Ru.D Ru.lb Ru.upd Ru.cnt Ru.dd Ru.stk Ru.rv
theorem ru_sumZ : Known Try.prog 77 (∀ (a : Option Addr) (n cap : Nat) (m : List Int) (S : Nat → Int) (xa : Int) (k : Nat) [NatI xa k], Fw n m S → S 0 = 0 → n ≤ 4096 → k ≤ n → SpecH Try.prog 77 #[.slice a (n + 1) cap, .int .i64 xa] [Vec 3 1 a (n + 1) cap (intsV .i64 m)] (fun _ : Unit => .int .i64 (S k)) (fun _ => [Vec 3 1 a (n + 1) cap (intsV .i64 m)])) := ⟨fun a n cap m S xa k _ h h0 h1 h2 => by
  have := ru_sum.out a n cap m S xa k h h1 h2
  rwa [h0, Int.sub_zero] at this⟩
set_option maxHeartbeats 8000000 in
theorem ru_dists_bad (a : Option Addr) (n cap : Nat) (h : 4096 < n) (h2 : n ≤ 5000) : SpecH Try.prog 38 #[.slice a n cap] [] (fun _ : Unit => .tuple #[.slice none 0 0, .int .i64 5]) (fun _ => []) := by
  refine spec_of Try.func38 rfl Try.ntmps38 rfl [(0, _)] rfl ?_; intro base F l0 hl0; (try simp only [List.cons_append] at hl0); (try simp only [List.nil_append] at hl0); subst hl0
  repeat' (first | refine stw ?_ | refine And.intro ?_ ?_ | (intro e; exfalso; omega) | (intro e; subst e) | intro _)
  exact rt2 () rfl
set_option maxHeartbeats 8000000 in
instance ru_dists : Known Try.prog 38 (∀ (a : Option Addr) (n cap : Nat) (tr : List Nat), n = tr.length → n ≤ 4096 → (∀ k ∈ tr, k < 4294967296) → SpecH Try.prog 38 #[.slice a n cap] [RoS 1 a n cap (u32s tr)] (fun q : Option Addr × Nat => .tuple #[.slice q.1 n q.2, .int .i64 0]) (fun q => [RoS 1 q.1 n q.2 (intsV .i64 (dL tr n))])) := ⟨fun a n cap tr hn hx hlt => by
  subst hn
  haveI := ru_sumZ
  refine spec_of Try.func38 rfl Try.ntmps38 rfl [(0, _)] rfl ?_; intro base F l0 hl0; (try simp only [List.cons_append] at hl0); (try simp only [List.nil_append] at hl0); subst hl0
  repeat' (first | refine stw ?_ | refine And.intro ?_ ?_ | (intro e; exfalso; omega) | (intro e; subst e) | intro _)
  rename_i bo bm bf
  rw [rows_zeroI, rows_zeroI, ← dZ_zero (tr := tr) (n := tr.length)]
  refine tc_lp (ι := {x : Nat × List (Nat × Int) × List Int // x.1 ≤ tr.length ∧ LA tr x.1 x.2.1 ∧ Fw tr.length x.2.2 (S tr x.1)}) [24] (fun e x => (24, .int .i64 (x.1.1 : Nat)) :: e)
    (fun x => [Vec 3 1 (some ⟨bf, 0, none⟩) (tr.length + 1) (tr.length + 1) (intsV .i64 x.1.2.2), MapA .u32 (fun z : Int => .int .i64 z) bm x.1.2.1, Vec 3 1 (some ⟨bo, 0, none⟩) tr.length tr.length (intsV .i64 (dZ tr tr.length x.1.1)), RoS 1 a tr.length cap (u32s tr), F]) (fun x => tr.length - x.1.1) ⟨(0, [], List.replicate (tr.length + 1) 0), by omega, LA.zero, fw_zero⟩ ?_
  rintro K ⟨⟨i, kv, m⟩, hi, hla, hfw⟩ hK
  dsimp only at hi hla hfw ⊢
  by_cases hc : i < tr.length
  · have hk := hlt _ (mem_getD hc)
    have hzl := dZ_len (tr := tr) (i := i) (n := tr.length)
    have hml := hfw.len
    have hst := dZ_step (tr := tr) hc
    have s0 := S_start (tr := tr) (Nat.le_of_lt hc)
    have hla2 := hla.step hc
    rcases hla.case (x := tr.getD i 0) with hm | ⟨at_, hm⟩
    · have hd := D_no (hla.none_of hm)
      have hs2 := fun a => S_none (a := a) hc (hla.none_of hm)
      have hlo : ∀ j, 0 ≤ S tr i j + if i < j then 1 else 0 := fun j => by rw [← hs2]; exact S_lo
      have hhi : ∀ j, (S tr i j + if i < j then 1 else 0) ≤ 4096 := fun j => by rw [← hs2]; exact S_hi (by omega)
      rw [hd] at hst
      repeat' (first | refine stw ?_ | refine And.intro ?_ ?_ | (intro e; exfalso; omega) | (intro e; subst e) | intro _)
      rename_i m2 hm2
      rw [hst]
      exact again hK ⟨(i + 1, mput kv (tr.getD i 0) (i : Int), m2), by omega, hla2, hm2.congr hs2⟩
    · obtain ⟨w1, w2, w3⟩ := hla.some_of (Nat.le_of_lt hc) hm
      have hd := hla.dist hc hm
      have hs2 := fun a => S_some (a := a) hla hc hm
      have h1lo : ∀ j, 0 ≤ S tr i j + if at_ < j then -1 else 0 := fun j => S_mid hla hc hm
      have h1hi : ∀ j, (S tr i j + if at_ < j then -1 else 0) ≤ 4096 := fun j => by
        have := S_hi (tr := tr) (i := i) (a := j) (by omega)
        split <;> omega
      have hlo : ∀ j, 0 ≤ (S tr i j + if at_ < j then -1 else 0) + if i < j then 1 else 0 := fun j => by rw [← hs2]; exact S_lo
      have hhi : ∀ j, ((S tr i j + if at_ < j then -1 else 0) + if i < j then 1 else 0) ≤ 4096 := fun j => by rw [← hs2]; exact S_hi (by omega)
      have b1 := S_lo (tr := tr) (i := i) (a := i)
      have b2 := S_hi (tr := tr) (i := i) (a := i) (by omega)
      have b3 := S_lo (tr := tr) (i := i) (a := at_ + 1)
      have b4 := S_hi (tr := tr) (i := i) (a := at_ + 1) (by omega)
      have hzl2 : ((dZ tr tr.length i).set i (-1)).length = tr.length := by rw [List.length_set]; exact hzl
      repeat' (first | refine stw ?_ | refine And.intro ?_ ?_ | (intro e; exfalso; omega) | (intro e; subst e) | intro _)
      rename_i m2 hm2
      rw [hd, List.set_set, hst]
      exact again hK ⟨(i + 1, mput kv (tr.getD i 0) (i : Int), m2), by omega, hla2, hm2.congr hs2⟩
  · obtain rfl : i = tr.length := by omega
    rw [dZ_all (Nat.le_refl _)]
    repeat' (first | refine stw ?_ | refine And.intro ?_ ?_ | (intro e; exfalso; omega) | (intro e; subst e) | intro _)
    refine frz (some ⟨bo, 0, none⟩) ?_
    exact rt2 (some ⟨bo, 0, none⟩, tr.length) rfl⟩
end Go.Proofs.Ytbkpojlbclehaaa
