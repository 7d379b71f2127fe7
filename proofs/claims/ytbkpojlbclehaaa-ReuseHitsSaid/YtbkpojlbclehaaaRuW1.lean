/- reuse, walked: marks; distances. -/
import Derived.Test.YtbkpojlbclehaaaRuHits
import Derived.Test.YtbkpojlbclehaaaSlInt
import Derived.Test.YtbkpojlbclehaaaSlMapN
import Derived.Test.YtbkpojlbclehaaaLkA
import Derived.Test.YtbkpojlbclehaaaSlTypes
namespace Go.Proofs.Ytbkpojlbclehaaa
open Go.Lk Go.Sl Go.Ru
attribute [local irreducible] TK TL TC Th Bk Nx fnPost WA TQ OpQ OpN SpecH Rd Ent IterH RoundH Rb Rp fnPostM
attribute [local irreducible] Ru.S Ru.D Ru.lb Ru.upd
theorem lb_wrap {i : Nat} (hc : 0 < i) (h : i < 4097) : IntKind.i64.wrap (((BitVec.ofInt IntKind.i64.bits (i : Int) &&& BitVec.ofInt IntKind.i64.bits (IntKind.i64.wrap (0 - (i : Int)))).toNat : Nat) : Int) = (lb i : Nat) := by
  have l2 := lb_le hc
  rw [show IntKind.i64.wrap (0 - (i : Int)) = 0 - (i : Int) from IntWalk.i64_in (0 - (i : Int)) (by omega), Int.zero_sub]
  show IntKind.i64.wrap (((BitVec.ofInt 64 (i : Int) &&& BitVec.ofInt 64 (-(i : Int))).toNat : Nat) : Int) = _
  rw [lb_bits i h hc]
  exact IntWalk.i64_in ((lb i : Nat) : Int) (by omega)
instance ru_sum : Known Try.prog 77 (∀ (a : Option Addr) (n cap : Nat) (m : List Int) (S : Nat → Int) (xa : Int) (k : Nat) [NatI xa k], Fw n m S → n ≤ 4096 → k ≤ n → SpecH Try.prog 77 #[.slice a (n + 1) cap, .int .i64 xa] [Vec 3 1 a (n + 1) cap (intsV .i64 m)] (fun _ : Unit => .int .i64 (S k - S 0)) (fun _ => [Vec 3 1 a (n + 1) cap (intsV .i64 m)])) := ⟨fun a n cap m S xa k _ hf hn hk => by
  obtain rfl : xa = (k : Int) := NatI.out
  have hml := hf.len
  refine spec_of Try.func77 rfl Try.ntmps77 rfl [(0, _), (1, _)] rfl ?_; intro base F l0 hl0; (try simp only [List.cons_append] at hl0); (try simp only [List.nil_append] at hl0); subst hl0
  repeat' (first | refine stw ?_ | refine And.intro ?_ ?_ | (intro e; exfalso; omega) | (intro e; subst e) | intro _)
  refine tc_lp (ι := {x : Nat × Int // x.1 ≤ n ∧ x.2 = S k - S x.1}) [5, 6] (fun e x => (5, .int .i64 x.1.2) :: (6, .int .i64 (x.1.1 : Nat)) :: e) (fun _ => [Vec 3 1 a (n + 1) cap (intsV .i64 m), F]) (fun x => x.1.1) ⟨(k, 0), hk, by dsimp only; omega⟩ ?_
  rintro K ⟨⟨i, z⟩, hi, hz⟩ hK
  dsimp only at hi hz ⊢
  have s1 := hf.lo i
  have s2 := hf.hi i
  have s3 := hf.lo k
  have s4 := hf.hi k
  by_cases hc : 0 < i
  · have hb := hf.bound hc hi
    have ha := hf.at_ i hc hi
    have l1 := lb_pos hc
    have l2 := lb_le hc
    have s5 := hf.lo (i - lb i)
    have s6 := hf.hi (i - lb i)
    have hbit := lb_wrap hc (by omega)
    repeat' (first | refine stw ?_ | refine And.intro ?_ ?_ | (intro e; exfalso; omega) | (intro e; subst e) | intro _)
    refine tl_q (opq_neg (by (first | exact want_none rfl | exact want_yes rfl rfl rfl rfl rfl | fail)) rfl) rfl (Nat.lt_of_ble_eq rfl) ?_
    refine tl_q (opq_andK (by (first | exact want_none rfl | exact want_yes rfl rfl rfl rfl rfl | fail)) rfl rfl hbit) rfl (Nat.lt_of_ble_eq rfl) ?_
    repeat' (first | refine stw ?_ | refine And.intro ?_ ?_ | (intro e; exfalso; omega) | (intro e; subst e) | intro _)
    rw [show (i : Int) - (lb i : Nat) = ((i - lb i : Nat) : Int) by omega]
    exact again hK ⟨(i - lb i, z + m.getD i 0), by dsimp only; omega, by dsimp only; omega⟩ (by dsimp only; omega)
  · obtain rfl : i = 0 := by omega
    rw [← hz]
    repeat' (first | refine stw ?_ | refine And.intro ?_ ?_ | (intro e; exfalso; omega) | (intro e; subst e) | intro _)
    exact rt1 () rfl⟩
set_option maxHeartbeats 4000000 in
instance ru_add : Known Try.prog 78 (∀ (a : Option Addr) (n cap : Nat) (m : List Int) (S : Nat → Int) (xa : Int) (k : Nat) [NatI xa k] (d : Int), Fw n m S → n ≤ 4096 → k ≤ n → -1 ≤ d → d ≤ 1 → (∀ j, 0 ≤ S j + if k < j then d else 0) → (∀ j, (S j + if k < j then d else 0) ≤ 4096) → SpecH Try.prog 78 #[.slice a (n + 1) cap, .int .i64 xa, .int .i64 d] [Vec 3 1 a (n + 1) cap (intsV .i64 m)] (fun _ : List Int => .tuple #[]) (fun m2 => [fact (Fw n m2 (fun j => S j + if k < j then d else 0)), Vec 3 1 a (n + 1) cap (intsV .i64 m2)])) := ⟨fun a n cap m S xa k _ d hf hn hkb hd1 hd2 hlo hhi => by
  obtain rfl : xa = (k : Int) := NatI.out
  have hml := hf.len
  refine spec_of Try.func78 rfl Try.ntmps78 rfl [(0, _), (1, _), (2, _)] rfl ?_; intro base F l0 hl0; (try simp only [List.cons_append] at hl0); (try simp only [List.nil_append] at hl0); subst hl0
  repeat' (first | refine stw ?_ | refine And.intro ?_ ?_ | (intro e; exfalso; omega) | (intro e; subst e) | intro _)
  refine tc_lp (ι := {x : Nat // 0 < x ∧ x ≤ 2 * n + 2 ∧ (cov x k ∨ n < x)}) [6] (fun e x => (6, .int .i64 (x.1 : Nat)) :: e) (fun x => [Vec 3 1 a (n + 1) cap (intsV .i64 (upd n m k d x.1)), F]) (fun x => 2 * n + 2 - x.1) ⟨k + 1, by omega, by omega, .inl cov_first⟩ ?_ (hl := by dsimp only; rw [upd_start hml]; exact en)
  rintro K ⟨i, h0, hi, hcov⟩ hK
  dsimp only
  have hul := upd_len (n := n) (m := m) (a := k) (d := d) (i := i)
  by_cases hc : i ≤ n
  · have hcv := hcov.resolve_right (by omega)
    have hb := hf.bound h0 hc
    have l1 := lb_pos h0
    have l2 := lb_le h0
    have hat := upd_at (m := m) (a := k) (d := d) (i := i) hc
    rw [if_neg (by omega)] at hat
    have hst := upd_step (m := m) (d := d) hcv hc hn
    rw [hat] at hst
    have hbit := lb_wrap h0 (by omega)
    repeat' (first | refine stw ?_ | refine And.intro ?_ ?_ | (intro e; exfalso; omega) | (intro e; subst e) | intro _)
    refine tl_q (opq_neg (by (first | exact want_none rfl | exact want_yes rfl rfl rfl rfl rfl | fail)) rfl) rfl (Nat.lt_of_ble_eq rfl) ?_
    refine tl_q (opq_andK (by (first | exact want_none rfl | exact want_yes rfl rfl rfl rfl rfl | fail)) rfl rfl hbit) rfl (Nat.lt_of_ble_eq rfl) ?_
    repeat' (first | refine stw ?_ | refine And.intro ?_ ?_ | (intro e; exfalso; omega) | (intro e; subst e) | intro _)
    rw [hat, hst, show (i : Int) + (lb i : Nat) = ((i + lb i : Nat) : Int) by omega]
    exact again hK ⟨i + lb i, by omega, by omega, (Nat.lt_or_ge n (i + lb i)).elim .inr fun _ => .inl (cov_next hcv (by omega))⟩ (by dsimp only; omega)
  · have hfw := upd_all hf (show n < i by omega) hlo hhi
    repeat' (first | refine stw ?_ | refine And.intro ?_ ?_ | (intro e; exfalso; omega) | (intro e; subst e) | intro _)
    exact re0 (upd n m k d i) rfl⟩
end Go.Proofs.Ytbkpojlbclehaaa
