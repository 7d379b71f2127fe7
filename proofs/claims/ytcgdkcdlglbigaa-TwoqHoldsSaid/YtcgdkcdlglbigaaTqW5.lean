/- twoq, walked: a new cache; keys that are dropped; questions. -/
import Derived.Test.YtcgdkcdlglbigaaTqW4
import Derived.Test.YtcgdkcdlglbigaaSlCv
namespace Go.Tq
open Go.Sl
theorem two_0 {a b : Value} : two a b 0 = a := rfl
theorem two_1 {a b : Value} : two a b 1 = b := rfl
def afA (i : Nat) (a b : List Nat) : List Nat := match i with
  | 0 => a
  | _ + 1 => b
def afB (i : Nat) (a b : List Nat) : List Nat := match i with
  | 0 => a
  | 1 => a
  | _ + 2 => b
end Go.Tq
namespace Go.Proofs.Ytcgdkcdlglbigaa
open Go.Lk Go.Sl Go.Gh Go.Lr Go.Tb Go.Tq
attribute [local irreducible] TK TL TC Th Bk Nx fnPost WA TQ OpQ OpN SpecH Rd Ent IterH RoundH Rb Rp fnPostM
attribute [local irreducible] Fld.addE Fld.addF Fld.befE Fld.befF Fld.inE Fld.remF Fld.first Fld.last Fld.next Fld.prev Fld.ofR Fld.listOf Fld.joinE Fld.joinF renE renG Fld.at Fld.set Fld.place
attribute [local irreducible] Gh.addL Gh.addV Gh.addB Lr.addL Lr.addE Lr.useL Lr.remE Tq.useS Tq.useL Tq.useO Tq.useH Tq.roomS Tq.roomB Tq.roomO
instance tq_has : Known Try.prog 17 (∀ (p size most gm : Nat) (Q M G : List Nat) (xk : Int) (k : Nat) [NatI xk k], SpecH Try.prog 17 #[.pointer (some ⟨p, 0, none⟩), .int .u32 xk] [TwoqAt p size most gm Q M G] (fun _ : Unit => .bool (decide (k ∈ Q ∨ k ∈ M))) (fun _ => [TwoqAt p size most gm Q M G])) := ⟨fun p size most gm Q M G xk k _ => by
  obtain rfl : xk = (k : Int) := NatI.out
  refine spec_of Try.func17 rfl Try.ntmps17 rfl [(0, _), (1, _)] rfl ?_; intro base F l0 hl0; (try simp only [List.cons_append] at hl0); (try simp only [List.nil_append] at hl0); subst hl0
  refine TwoqAt.openC fun pq pm pg => ?_
  refine TwoqX.openC fun kv K fr Lq Lm bm aK cK af cf t h1 h2 h3 h4 h5 => ?_
  cases hm : mget kv k with
  | some z =>
    rw [decide_eq_true (t.some_of hm).2.2.1]
    repeat' (first | refine sty ?_ | refine And.intro ?_ ?_ | (intro e; exfalso; omega) | (intro e; subst e) | intro _)
    exact rt1 () rfl (he := (en2 (TwoqX.shut t h1 h2 h3 h4 h5)).trans (en2 TwoqAt.shut))
  | none =>
    obtain ⟨w1, w2⟩ := t.none_of hm
    rw [decide_eq_false (fun h : k ∈ Q ∨ k ∈ M => h.elim w1 w2)]
    repeat' (first | refine sty ?_ | refine And.intro ?_ ?_ | (intro e; exfalso; omega) | (intro e; subst e) | intro _)
    exact rt1 () rfl (he := (en2 (TwoqX.shut t h1 h2 h3 h4 h5)).trans (en2 TwoqAt.shut))⟩
instance tq_size : Known Try.prog 26 (∀ (p size most gm : Nat) (Q M G : List Nat), SpecH Try.prog 26 #[.pointer (some ⟨p, 0, none⟩)] [TwoqAt p size most gm Q M G] (fun _ : Unit => .int .i64 (size : Nat)) (fun _ => [TwoqAt p size most gm Q M G])) := ⟨fun p size most gm Q M G => by
  refine spec_of Try.func26 rfl Try.ntmps26 rfl [(0, _)] rfl ?_; intro base F l0 hl0; (try simp only [List.cons_append] at hl0); (try simp only [List.nil_append] at hl0); subst hl0
  refine TwoqAt.openC fun pq pm pg => ?_
  refine TwoqX.openC fun kv K fr Lq Lm bm aK cK af cf t h1 h2 h3 h4 h5 => ?_
  repeat' (first | refine sty ?_ | refine And.intro ?_ ?_ | (intro e; exfalso; omega) | (intro e; subst e) | intro _)
  exact rt1 () rfl (he := (en2 (TwoqX.shut t h1 h2 h3 h4 h5)).trans (en2 TwoqAt.shut))⟩
set_option maxHeartbeats 8000000 in
instance tq_drop : Known Try.prog 21 (∀ (p size most gm : Nat) (Q M G : List Nat) (xk : Int) (k : Nat) [NatI xk k], SpecH Try.prog 21 #[.pointer (some ⟨p, 0, none⟩), .int .u32 xk] [TwoqAt p size most gm Q M G] (fun _ : Unit => .tuple #[.bool (decide (k ∈ Q ∨ k ∈ M)), .int .i64 0]) (fun _ => [TwoqAt p size most gm (Q.erase k) (M.erase k) G])) := ⟨fun p size most gm Q M G xk k _ => by
  obtain rfl : xk = (k : Int) := NatI.out
  refine spec_of Try.func21 rfl Try.ntmps21 rfl [(0, _), (1, _)] rfl ?_; intro base F l0 hl0; (try simp only [List.cons_append] at hl0); (try simp only [List.nil_append] at hl0); subst hl0
  refine TwoqAt.openC fun pq pm pg => ?_
  refine TwoqX.openC fun kv K fr Lq Lm bm aK cK af cf t h1 h2 h3 h4 h5 => ?_
  have htot := t.tab.tot
  cases hm : mget kv k with
  | some z =>
    obtain ⟨w1, w2, w3, w4, w5⟩ := t.some_of hm
    have hd := t.drop hm
    rw [decide_eq_true w3]
    repeat' (first | ((fail_if_success (refine atD ?_)); refine sty ?_) | refine And.intro ?_ ?_ | (intro e; exfalso; omega) | (intro e; subst e) | intro _)
    refine drx [] ?_
    refine tks [0, 5, 12, 1, 6, 2, 7, 3, 8, 4, 9] 2 ?_; repeat' (first | refine sty ?_ | refine And.intro ?_ ?_ | (intro e; exfalso; omega) | (intro e; subst e) | intro _)
    refine hv 10 fun x10 => ?_
    refine tks [11] 0 ?_; repeat' (first | refine sty ?_ | refine And.intro ?_ ?_ | (intro e; exfalso; omega) | (intro e; subst e) | intro _)
    refine tc_lp (ι := {i : Nat // i ≤ 2}) [36] (fun e i => (36, .int .i64 (i.1 : Nat)) :: e)
      (fun i => [Vec 99 1 (some ⟨x10, 0, none⟩) 2 2 [.func (.func 53) #[.pointer (some ⟨pq, 0, none⟩)] #[], .func (.func 53) #[.pointer (some ⟨pm, 0, none⟩)] #[]], obj p 65 [.map (some bm), .slice (some ⟨aK, 0, none⟩) size cK, .slice af fr.length cf, .int .i64 (size : Nat), .int .i64 (most : Nat), .pointer (some ⟨pq, 0, none⟩), .pointer (some ⟨pm, 0, none⟩), .pointer (some ⟨pg, 0, none⟩)], MapA .u32 (fun n : Nat => .int .u32 (n : Nat)) bm kv, Vec 31 1 (some ⟨aK, 0, none⟩) size cK (u32s K), Vec 31 1 af fr.length cf (u32s fr), LruAt pq (afA i.1 Lq (Lq.erase z)), LruAt pm (afB i.1 Lm (Lm.erase z)), GhostAt pg gm G, F]) (fun i => 2 - i.1) ⟨0, by omega⟩ ?_
    rintro KK ⟨i, hi⟩ hKK
    dsimp only
    obtain rfl | rfl | rfl : i = 0 ∨ i = 1 ∨ i = 2 := by omega
    · dsimp only [afA, afB]
      repeat' (first | refine sty ?_ | refine And.intro ?_ ?_ | (intro e; exfalso; omega) | (intro e; subst e) | intro _)
      rw [two_0]
      refine callV (lr_remove.out pq Lq (z : Nat) z (by omega)) ?_
      repeat' (first | refine sty ?_ | refine And.intro ?_ ?_ | (intro e; exfalso; omega) | (intro e; subst e) | intro _)
      exact again hKK ⟨1, by omega⟩ (he := by dsimp only [afA, afB]; exact en)
    · dsimp only [afA, afB]
      repeat' (first | refine sty ?_ | refine And.intro ?_ ?_ | (intro e; exfalso; omega) | (intro e; subst e) | intro _)
      rw [two_1]
      refine callV (lr_remove.out pm Lm (z : Nat) z (by omega)) ?_
      repeat' (first | refine sty ?_ | refine And.intro ?_ ?_ | (intro e; exfalso; omega) | (intro e; subst e) | intro _)
      exact again hKK ⟨2, by omega⟩ (he := by dsimp only [afA, afB]; exact en)
    · dsimp only [afA, afB]
      repeat' (first | refine sty ?_ | refine And.intro ?_ ?_ | (intro e; exfalso; omega) | (intro e; subst e) | intro _)
      rename_i b c
      exact rt2 () rfl (he := (en2 (TwoqX.shutN (nf := fr.length + 1) hd h1 h2 h3 h4 h5 (by simp))).trans (en2 TwoqAt.shut))
  | none =>
    obtain ⟨w1, w2⟩ := t.none_of hm
    rw [decide_eq_false (fun h : k ∈ Q ∨ k ∈ M => h.elim w1 w2), List.erase_of_not_mem w1, List.erase_of_not_mem w2]
    repeat' (first | refine sty ?_ | refine And.intro ?_ ?_ | (intro e; exfalso; omega) | (intro e; subst e) | intro _)
    exact rt2 () rfl (he := (en2 (TwoqX.shut t h1 h2 h3 h4 h5)).trans (en2 TwoqAt.shut))⟩
set_option maxHeartbeats 4000000 in
instance tq_newTable : Known Try.prog 56 (∀ (xs : Int) (size : Nat) [NatI xs size], 1 ≤ size → size ≤ 1024 → SpecH Try.prog 56 #[.int .i64 xs] [] (fun q : Nat × Nat × Option Addr × Nat => .agg #[.map (some q.1), .slice (some ⟨q.2.1, 0, none⟩) size size, .slice q.2.2.1 size q.2.2.2]) (fun q => [MapA .u32 (fun n : Nat => .int .u32 (n : Nat)) q.1 [], Vec 31 1 (some ⟨q.2.1, 0, none⟩) size size (u32s (List.replicate size 0)), Vec 31 1 q.2.2.1 size q.2.2.2 (u32s (List.range size).reverse)])) := ⟨fun xs size _ h1 h2 => by
  obtain rfl : xs = (size : Int) := NatI.out
  refine spec_of Try.func56 rfl Try.ntmps56 rfl [(0, _)] rfl ?_; intro base F l0 hl0; (try simp only [List.cons_append] at hl0); (try simp only [List.nil_append] at hl0); subst hl0
  repeat' (first | refine sty ?_ | refine And.intro ?_ ?_ | (intro e; exfalso; omega) | (intro e; subst e) | intro _)
  rename_i b2 bm bK bt
  rw [rows_zero]
  refine tc_lp (ι := {x : Nat × (Option Addr × Nat) × Int // x.1 ≤ size ∧ x.2.2 = (size : Nat) - 1 - (x.1 : Nat)}) [4] (fun e x => (4, .int .i64 x.1.2.2) :: e)
    (fun x => [obj bt 61 [.map (some bm), .slice (some ⟨bK, 0, none⟩) size size, .slice x.1.2.1.1 x.1.1 x.1.2.1.2], Vec 31 1 x.1.2.1.1 x.1.1 x.1.2.1.2 (u32s ((List.range size).reverse.take x.1.1)), Vec 31 1 (some ⟨bK, 0, none⟩) size size (u32s (List.replicate size 0)), MapA .u32 (fun n : Nat => .int .u32 (n : Nat)) bm [], obj b2 61 [.map none, .slice none 0 0, .slice none 0 0], F]) (fun x => size - x.1.1) ⟨(0, (none, 0), (size : Nat) - 1), by omega, by dsimp only; omega⟩ ?_
    (hl := by dsimp only; rw [List.take_zero]; show Ent _ [obj bt 61 [.map (some bm), .slice (some ⟨bK, 0, none⟩) size size, .slice none 0 0], Vec 31 1 none 0 0 [], Vec 31 1 (some ⟨bK, 0, none⟩) size size (u32s (List.replicate size 0)), MapA .u32 (fun n : Nat => .int .u32 (n : Nat)) bm [], obj b2 61 [.map none, .slice none 0 0, .slice none 0 0], F]; exact en)
  rintro KK ⟨⟨j, ⟨a, c⟩, w⟩, hj, hw⟩ hKK
  dsimp only at hj hw ⊢
  by_cases hlt : j < size
  · obtain rfl : w = ((size - 1 - j : Nat) : Int) := by omega
    have e : u32s ((List.range size).reverse.take j) ++ [.int .u32 (size - 1 - j : Nat)] = u32s ((List.range size).reverse.take (j + 1)) := by
      rw [← snocU, List.take_succ_eq_append_getElem (by simpa using hlt)]
      simp
    repeat' (first | refine sty ?_ | refine And.intro ?_ ?_ | (intro e; exfalso; omega) | (intro e; subst e) | intro _)
    rename_i a5 c5
    rw [e]
    exact again hKK ⟨(j + 1, (a5, c5), ((size - 1 - j : Nat) : Int) - 1), by omega, by dsimp only; omega⟩
  · obtain rfl : j = size := by omega
    rw [List.take_of_length_le (by simp)]
    repeat' (first | refine sty ?_ | refine And.intro ?_ ?_ | (intro e; exfalso; omega) | (intro e; subst e) | intro _)
    exact ra1 (bm, bK, a, c) rfl⟩
theorem tq_new_bad (a b c : Int) (h : a < 1 ∨ 1024 < a ∨ b < 1 ∨ a < b ∨ c < 0 ∨ 1024 < c) : SpecH Try.prog 22 #[.int .i64 a, .int .i64 b, .int .i64 c] [] (fun _ : Unit => .tuple #[.pointer none, .int .i64 2]) (fun _ => []) := by
  refine spec_of Try.func22 rfl Try.ntmps22 rfl [(0, _), (1, _), (2, _)] rfl ?_; intro base F l0 hl0; (try simp only [List.cons_append] at hl0); (try simp only [List.nil_append] at hl0); subst hl0
  repeat' (first | refine sty ?_ | refine And.intro ?_ ?_ | (intro e; exfalso; omega) | (intro e; subst e) | intro _)
  all_goals exact rt2 () rfl
set_option maxHeartbeats 4000000 in
instance tq_new : Known Try.prog 22 (∀ (xs : Int) (size : Nat) [NatI xs size] (xm : Int) (most : Nat) [NatI xm most] (xg : Int) (gm : Nat) [NatI xg gm], 1 ≤ size → size ≤ 1024 → 1 ≤ most → most ≤ size → gm ≤ 1024 → SpecH Try.prog 22 #[.int .i64 xs, .int .i64 xm, .int .i64 xg] [] (fun p : Nat => .tuple #[.pointer (some ⟨p, 0, none⟩), .int .i64 0]) (fun p => [TwoqAt p size most gm [] [] []])) := ⟨fun xs size _ xm most _ xg gm _ h1 h2 h3 h4 h5 => by
  obtain rfl : xs = (size : Int) := NatI.out
  obtain rfl : xm = (most : Int) := NatI.out
  obtain rfl : xg = (gm : Int) := NatI.out
  refine spec_of Try.func22 rfl Try.ntmps22 rfl [(0, _), (1, _), (2, _)] rfl ?_; intro base F l0 hl0; (try simp only [List.cons_append] at hl0); (try simp only [List.nil_append] at hl0); subst hl0
  repeat' (first | refine sty ?_ | refine And.intro ?_ ?_ | (intro e; exfalso; omega) | (intro e; subst e) | intro _)
  rename_i g bm q2 q m
  obtain ⟨bK, bf, cf⟩ := q2
  refine tl_q (opq_build (ixs := [0, 1, 2, 3, 4, 5]) (xs := [_, _, _, _, _, _]) (cs := [.map (some bm), .slice (some ⟨bK, 0, none⟩) size size, .slice bf size cf, .int .i64 (size : Nat), .int .i64 (most : Nat), .pointer (some ⟨q, 0, none⟩), .pointer (some ⟨m, 0, none⟩), .pointer (some ⟨g, 0, none⟩)]) (by (first | exact want_none rfl | exact want_yes rfl rfl rfl rfl rfl | fail)) rfl rfl (by (repeat (first | exact Evs.nil | (apply Evs.cons; exact rfl) | fail)); done) rfl) rfl (Nat.lt_of_ble_eq rfl) ?_
  repeat' (first | refine sty ?_ | refine And.intro ?_ ?_ | (intro e; exfalso; omega) | (intro e; subst e) | intro _)
  rename_i p
  exact rt2 p rfl (he := (en2 (TwoqX.shutN (nf := size) Two.new h1 h2 h4 h5 (Nat.zero_le _) (by simp))).trans (en2 TwoqAt.shut))⟩
end Go.Proofs.Ytcgdkcdlglbigaa
