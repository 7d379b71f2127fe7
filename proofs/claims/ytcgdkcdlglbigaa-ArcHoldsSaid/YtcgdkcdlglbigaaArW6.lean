/- arc, walked: a new cache; keys that are dropped; questions. -/
import Derived.Test.YtcgdkcdlglbigaaArW5
import Derived.Test.YtcgdkcdlglbigaaSlCv
namespace Go.Proofs.Ytcgdkcdlglbigaa
open Go.Lk Go.Sl Go.Gh Go.Lr Go.Tb Go.Ar
attribute [local irreducible] TK TL TC Th Bk Nx fnPost WA TQ OpQ OpN SpecH Rd Ent IterH RoundH Rb Rp fnPostM
attribute [local irreducible] Fld.addE Fld.addF Fld.befE Fld.befF Fld.inE Fld.remF Fld.first Fld.last Fld.next Fld.prev Fld.ofR Fld.listOf Fld.joinE Fld.joinF renE renG Fld.at Fld.set Fld.place
attribute [local irreducible] Gh.addL Gh.addV Gh.addB Lr.addL Lr.addE Lr.useL Lr.remE Ar.useS Ar.roomS Ar.missS Ar.roomB Ar.roomO Ar.missB Ar.missO Ar.useL Ar.useO Ar.useH Ar.upT Ar.downT
instance ar_has : Known Try.prog 35 (∀ (p size : Nat) (O E A B : List Nat) (t : Nat) (xk : Int) (k : Nat) [NatI xk k], SpecH Try.prog 35 #[.pointer (some ⟨p, 0, none⟩), .int .u32 xk] [ArcAt p size O E A B t] (fun _ : Unit => .bool (decide (k ∈ O ∨ k ∈ E))) (fun _ => [ArcAt p size O E A B t])) := ⟨fun p size O E A B t xk k _ => by
  obtain rfl : xk = (k : Int) := NatI.out
  refine spec_of Try.func35 rfl Try.ntmps35 rfl [(0, _), (1, _)] rfl ?_; intro base F l0 hl0; (try simp only [List.cons_append] at hl0); (try simp only [List.nil_append] at hl0); subst hl0
  refine ArcAt.openC fun po pa pf pb => ?_
  refine ArcX.openC fun kv K fr Lo Lf bm aK cK af cf tw h1 h2 iv => ?_
  cases hm : mget kv k with
  | some z =>
    rw [decide_eq_true (tw.some_of hm).2.2.1]
    repeat' (first | refine stp ?_ | refine And.intro ?_ ?_ | (intro e; exfalso; omega) | (intro e; subst e) | intro _)
    exact rt1 () rfl (he := (en2 (ArcX.shut tw h1 h2 iv)).trans (en2 ArcAt.shut))
  | none =>
    obtain ⟨w1, w2⟩ := tw.none_of hm
    rw [decide_eq_false (fun h : k ∈ O ∨ k ∈ E => h.elim w1 w2)]
    repeat' (first | refine stp ?_ | refine And.intro ?_ ?_ | (intro e; exfalso; omega) | (intro e; subst e) | intro _)
    exact rt1 () rfl (he := (en2 (ArcX.shut tw h1 h2 iv)).trans (en2 ArcAt.shut))⟩
instance ar_size : Known Try.prog 39 (∀ (p size : Nat) (O E A B : List Nat) (t : Nat), SpecH Try.prog 39 #[.pointer (some ⟨p, 0, none⟩)] [ArcAt p size O E A B t] (fun _ : Unit => .int .i64 (size : Nat)) (fun _ => [ArcAt p size O E A B t])) := ⟨fun p size O E A B t => by
  refine spec_of Try.func39 rfl Try.ntmps39 rfl [(0, _)] rfl ?_; intro base F l0 hl0; (try simp only [List.cons_append] at hl0); (try simp only [List.nil_append] at hl0); subst hl0
  refine ArcAt.openC fun po pa pf pb => ?_
  refine ArcX.openC fun kv K fr Lo Lf bm aK cK af cf tw h1 h2 iv => ?_
  repeat' (first | refine stp ?_ | refine And.intro ?_ ?_ | (intro e; exfalso; omega) | (intro e; subst e) | intro _)
  exact rt1 () rfl (he := (en2 (ArcX.shut tw h1 h2 iv)).trans (en2 ArcAt.shut))⟩
set_option maxHeartbeats 8000000 in
instance ar_drop : Known Try.prog 32 (∀ (p size : Nat) (O E A B : List Nat) (t : Nat) (xk : Int) (k : Nat) [NatI xk k], SpecH Try.prog 32 #[.pointer (some ⟨p, 0, none⟩), .int .u32 xk] [ArcAt p size O E A B t] (fun _ : Unit => .tuple #[.bool (decide (k ∈ O ∨ k ∈ E)), .int .i64 0]) (fun _ => [ArcAt p size (O.erase k) (E.erase k) A B t])) := ⟨fun p size O E A B t xk k _ => by
  obtain rfl : xk = (k : Int) := NatI.out
  refine spec_of Try.func32 rfl Try.ntmps32 rfl [(0, _), (1, _)] rfl ?_; intro base F l0 hl0; (try simp only [List.cons_append] at hl0); (try simp only [List.nil_append] at hl0); subst hl0
  refine ArcAt.openC fun po pa pf pb => ?_
  refine ArcX.openC fun kv K fr Lo Lf bm aK cK af cf tw h1 h2 iv => ?_
  have htot := tw.tab.tot
  cases hm : mget kv k with
  | some z =>
    obtain ⟨w1, w2, w3, w4, w5⟩ := tw.some_of hm
    have hd := tw.drop hm
    rw [decide_eq_true w3]
    repeat' (first | refine stp ?_ | refine And.intro ?_ ?_ | (intro e; exfalso; omega) | (intro e; subst e) | intro _)
    rename_i b c
    exact rt2 () rfl (he := (en2 (ArcX.shutN (nf := fr.length + 1) hd h1 h2 iv.drop (by simp))).trans (en2 ArcAt.shut))
  | none =>
    obtain ⟨w1, w2⟩ := tw.none_of hm
    rw [decide_eq_false (fun h : k ∈ O ∨ k ∈ E => h.elim w1 w2), List.erase_of_not_mem w1, List.erase_of_not_mem w2]
    repeat' (first | refine stp ?_ | refine And.intro ?_ ?_ | (intro e; exfalso; omega) | (intro e; subst e) | intro _)
    exact rt2 () rfl (he := (en2 (ArcX.shut tw h1 h2 iv)).trans (en2 ArcAt.shut))⟩
set_option maxHeartbeats 4000000 in
instance ar_newTable : Known Try.prog 65 (∀ (xs : Int) (size : Nat) [NatI xs size], 1 ≤ size → size ≤ 1024 → SpecH Try.prog 65 #[.int .i64 xs] [] (fun q : Nat × Nat × Option Addr × Nat => .agg #[.map (some q.1), .slice (some ⟨q.2.1, 0, none⟩) size size, .slice q.2.2.1 size q.2.2.2]) (fun q => [MapA .u32 (fun n : Nat => .int .u32 (n : Nat)) q.1 [], Vec 31 1 (some ⟨q.2.1, 0, none⟩) size size (u32s (List.replicate size 0)), Vec 31 1 q.2.2.1 size q.2.2.2 (u32s (List.range size).reverse)])) := ⟨fun xs size _ h1 h2 => by
  obtain rfl : xs = (size : Int) := NatI.out
  refine spec_of Try.func65 rfl Try.ntmps65 rfl [(0, _)] rfl ?_; intro base F l0 hl0; (try simp only [List.cons_append] at hl0); (try simp only [List.nil_append] at hl0); subst hl0
  repeat' (first | refine stp ?_ | refine And.intro ?_ ?_ | (intro e; exfalso; omega) | (intro e; subst e) | intro _)
  rename_i b2 bm bK bt
  rw [rows_zero]
  refine tc_lp (ι := {x : Nat × (Option Addr × Nat) × Int // x.1 ≤ size ∧ x.2.2 = (size : Nat) - 1 - (x.1 : Nat)}) [4] (fun e x => (4, .int .i64 x.1.2.2) :: e)
    (fun x => [obj bt 86 [.map (some bm), .slice (some ⟨bK, 0, none⟩) size size, .slice x.1.2.1.1 x.1.1 x.1.2.1.2], Vec 31 1 x.1.2.1.1 x.1.1 x.1.2.1.2 (u32s ((List.range size).reverse.take x.1.1)), Vec 31 1 (some ⟨bK, 0, none⟩) size size (u32s (List.replicate size 0)), MapA .u32 (fun n : Nat => .int .u32 (n : Nat)) bm [], obj b2 86 [.map none, .slice none 0 0, .slice none 0 0], F]) (fun x => size - x.1.1) ⟨(0, (none, 0), (size : Nat) - 1), by omega, by dsimp only; omega⟩ ?_
    (hl := by dsimp only; rw [List.take_zero]; show Ent _ [obj bt 86 [.map (some bm), .slice (some ⟨bK, 0, none⟩) size size, .slice none 0 0], Vec 31 1 none 0 0 [], Vec 31 1 (some ⟨bK, 0, none⟩) size size (u32s (List.replicate size 0)), MapA .u32 (fun n : Nat => .int .u32 (n : Nat)) bm [], obj b2 86 [.map none, .slice none 0 0, .slice none 0 0], F]; exact en)
  rintro KK ⟨⟨j, ⟨a, c⟩, w⟩, hj, hw⟩ hKK
  dsimp only at hj hw ⊢
  by_cases hlt : j < size
  · obtain rfl : w = ((size - 1 - j : Nat) : Int) := by omega
    have e : u32s ((List.range size).reverse.take j) ++ [.int .u32 (size - 1 - j : Nat)] = u32s ((List.range size).reverse.take (j + 1)) := by
      rw [← snocU', List.take_succ_eq_append_getElem (by simpa using hlt)]
      simp
    repeat' (first | refine stp ?_ | refine And.intro ?_ ?_ | (intro e; exfalso; omega) | (intro e; subst e) | intro _)
    rename_i a5 c5
    rw [e]
    exact again hKK ⟨(j + 1, (a5, c5), ((size - 1 - j : Nat) : Int) - 1), by omega, by dsimp only; omega⟩
  · obtain rfl : j = size := by omega
    rw [List.take_of_length_le (by simp)]
    repeat' (first | refine stp ?_ | refine And.intro ?_ ?_ | (intro e; exfalso; omega) | (intro e; subst e) | intro _)
    exact ra1 (bm, bK, a, c) rfl⟩
theorem ar_new_bad (a : Int) (h : a < 1 ∨ 1024 < a) : SpecH Try.prog 30 #[.int .i64 a] [] (fun _ : Unit => .tuple #[.pointer none, .int .i64 2]) (fun _ => []) := by
  refine spec_of Try.func30 rfl Try.ntmps30 rfl [(0, _)] rfl ?_; intro base F l0 hl0; (try simp only [List.cons_append] at hl0); (try simp only [List.nil_append] at hl0); subst hl0
  repeat' (first | refine stp ?_ | refine And.intro ?_ ?_ | (intro e; exfalso; omega) | (intro e; subst e) | intro _)
  all_goals exact rt2 () rfl
set_option maxHeartbeats 4000000 in
instance ar_newPart : Known Try.prog 66 (∀ (xs : Int) (m : Nat) [NatI xs m], m ≤ 2048 → SpecH Try.prog 66 #[.int .i64 xs] [] (fun q : Nat × Nat => .agg #[.pointer (some ⟨q.1, 0, none⟩), .pointer (some ⟨q.2, 0, none⟩)]) (fun q => [LruAt q.1 [], GhostAt q.2 m []])) := ⟨fun xs m _ hm => by
  obtain rfl : xs = (m : Int) := NatI.out
  refine spec_of Try.func66 rfl Try.ntmps66 rfl [(0, _)] rfl ?_; intro base F l0 hl0; (try simp only [List.cons_append] at hl0); (try simp only [List.nil_append] at hl0); subst hl0
  repeat' (first | refine stp ?_ | refine And.intro ?_ ?_ | (intro e; exfalso; omega) | (intro e; subst e) | intro _)
  rename_i g l
  exact ra1 (l, g) rfl⟩
set_option maxHeartbeats 4000000 in
instance ar_new : Known Try.prog 30 (∀ (xs : Int) (size : Nat) [NatI xs size], 1 ≤ size → size ≤ 1024 → SpecH Try.prog 30 #[.int .i64 xs] [] (fun p : Nat => .tuple #[.pointer (some ⟨p, 0, none⟩), .int .i64 0]) (fun p => [ArcAt p size [] [] [] [] 0])) := ⟨fun xs size _ h1 h2 => by
  obtain rfl : xs = (size : Int) := NatI.out
  refine spec_of Try.func30 rfl Try.ntmps30 rfl [(0, _)] rfl ?_; intro base F l0 hl0; (try simp only [List.cons_append] at hl0); (try simp only [List.nil_append] at hl0); subst hl0
  haveI : NatI (2 * (size : Int)) (2 * size) := ⟨by omega⟩
  repeat' (first | refine stp ?_ | refine And.intro ?_ ?_ | (intro e; exfalso; omega) | (intro e; subst e) | intro _)
  rename_i bm q2 o1 g1 o2 g2 p
  obtain ⟨bK, bf, cf⟩ := q2
  rw [show (Value.int .i64 0) = Value.int .i64 ((0 : Nat) : Int) from rfl]
  have iv : Inv size ⟨[], [], [], [], 0⟩ := ⟨List.nodup_nil, by simp, by simp, by simp [Ar.all], by simp⟩
  exact rt2 p rfl (he := (en2 (ArcX.shutN (nf := size) Two.new h1 h2 iv (by simp))).trans (en2 ArcAt.shut))⟩
end Go.Proofs.Ytcgdkcdlglbigaa
