/- The laws of lfu, walked: a cache that looks like its reference; a new one. -/
import Derived.Test.YtmiblmoppdgnjaaLfL1
namespace Go.Proofs.Ytmiblmoppdgnjaa
open Go.Lk Go.Sl Go.Lf
attribute [local irreducible] TK TL TC Th Bk Nx fnPost WA TQ OpQ OpN SpecH Rd Ent IterH RoundH Rb Rp fnPostM
attribute [local irreducible] Lf.wo Lf.ins Lf.cntOf Lf.halveL Lf.lo Lf.hi
theorem lfr_sameT : Known Try.prog 22 (∀ (a a2 : Option Addr) (m m2 c c2 : Nat) (cs cs2 : List Value) (xs : List Nat), AsU cs xs → AsU cs2 xs → m = xs.length → m2 = xs.length → m ≤ 4194304 → SpecH Try.prog 22 #[.slice a m c, .slice a2 m2 c2] [RoS 1 a m c cs, RoS 1 a2 m2 c2 cs2] (fun _ : Unit => .bool true) (fun _ => [])) := ⟨fun a a2 m m2 c c2 cs cs2 xs h1 h2 h3 h4 h5 => by
  have := lfr_same.out a a2 m m2 c c2 cs cs2 xs xs h1 h2 h3 h4 h5 (by omega)
  rw [decide_eq_true rfl] at this
  exact this⟩
set_option maxHeartbeats 8000000 in
instance lfl_equal : Known Try.prog 18 (∀ (p size age req : Nat) (l : List It) (a : Option Addr) (m c : Nat) (xk : Int) (k : Nat) [NatI xk k], m = l.length → SpecH Try.prog 18 #[.pointer (some ⟨p, 0, none⟩), .agg #[.int .i64 (size : Nat), .int .i64 (age : Nat), .int .i64 (req : Nat), .slice a m c], .int .u32 xk] [LfuAt p size age req l, RoS 2 a m c (itv l)] (fun _ : Unit => .bool true) (fun _ => [LfuAt p size age req l])) := ⟨fun p size age req l a m c xk k _ hm => by
  obtain rfl : xk = (k : Int) := NatI.out
  subst hm
  refine spec_of Try.func18 rfl Try.ntmps18 rfl [(0, _), (1, _), (2, _)] rfl ?_; intro base F l0 hl0; (try simp only [List.cons_append] at hl0); (try simp only [List.nil_append] at hl0); subst hl0
  refine LfuAt.factsC fun o h1 h2 h3 h4 => ?_
  have hl := o.len
  have hks : l.length = (ks l).length := (List.length_map _).symm
  haveI := lfr_sameT
  repeat' (first | ((fail_if_success (refine atD ?_)); refine sty ?_) | refine And.intro ?_ ?_ | (intro e; exfalso; omega) | (intro e; subst e) | intro _)
  rename_i b1
  refine drx [LfuAt p size age req l] ?_
  refine tks [0, 2] 38 ?_; repeat' (first | refine sty ?_ | refine And.intro ?_ ?_ | (intro e; exfalso; omega) | (intro e; subst e) | intro _)
  refine hv 1 fun x1 => ?_
  refine hv 3 fun x3 => ?_
  refine hv 4 fun x4 => ?_
  refine tks [5, 6, 7, 9, 10, 11] 29 ?_; repeat' (first | refine sty ?_ | refine And.intro ?_ ?_ | (intro e; exfalso; omega) | (intro e; subst e) | intro _)
  refine hv 8 fun x8 => ?_
  refine tks [12, 13, 14, 15, 17, 18] 22 ?_; repeat' (first | refine sty ?_ | refine And.intro ?_ ?_ | (intro e; exfalso; omega) | (intro e; subst e) | intro _)
  refine hv 16 fun x16 => ?_
  refine tks [19, 20, 21, 22, 23, 25, 26] 14 ?_; repeat' (first | refine sty ?_ | refine And.intro ?_ ?_ | (intro e; exfalso; omega) | (intro e; subst e) | intro _)
  refine hv 24 fun x24 => ?_
  refine hv 27 fun x27 => ?_
  refine tks [28, 29, 30, 31, 32, 34, 35] 5 ?_; repeat' (first | refine sty ?_ | refine And.intro ?_ ?_ | (intro e; exfalso; omega) | (intro e; subst e) | intro _)
  refine hv 33 fun x33 => ?_
  refine hv 36 fun x36 => ?_
  refine tks [37, 38, 39] 0 ?_; repeat' (first | refine sty ?_ | refine And.intro ?_ ?_ | (intro e; exfalso; omega) | (intro e; subst e) | intro _)
  refine tc_lp (ι := {i : Nat // i ≤ l.length}) [7] (fun e i => (7, .int .i64 (i.1 : Nat)) :: e) (fun _ => [obj b1 48 [.int .i64 (size : Nat), .int .i64 (age : Nat), .int .i64 (req : Nat), .slice a l.length c], LfuAt p size age req l, RoS 2 a l.length c (itv l), F]) (fun i => l.length - i.1) ⟨0, by omega⟩ ?_
  rintro K ⟨i, hi⟩ hK
  dsimp only
  by_cases hlt : i < l.length
  · have hcn : cntOf l (l.getD i default).1 = (l.getD i default).2 := by rw [getD_get hlt]; exact cntOf_mem o.nd (List.getElem_mem hlt)
    repeat' (first | ((fail_if_success (refine atD ?_)); refine sty ?_) | refine And.intro ?_ ?_ | (intro e; exfalso; omega) | (intro e; subst e) | intro _)
    refine drx [LfuAt p size age req l] ?_
    refine tks [0, 1, 3, 8, 10, 2, 9, 4, 11, 5, 12, 6, 13] 2 ?_; repeat' (first | refine sty ?_ | refine And.intro ?_ ?_ | (intro e; exfalso; omega) | (intro e; subst e) | intro _)
    refine hv 7 fun x7 => ?_
    rw [hcn]
    refine tks [14] 0 ?_; repeat' (first | refine sty ?_ | refine And.intro ?_ ?_ | (intro e; exfalso; omega) | (intro e; subst e) | intro _)
    exact again hK ⟨i + 1, by omega⟩
  · obtain rfl : i = l.length := by omega
    repeat' (first | refine sty ?_ | refine And.intro ?_ ?_ | (intro e; exfalso; omega) | (intro e; subst e) | intro _)
    exact rt1 () rfl⟩
end Go.Proofs.Ytmiblmoppdgnjaa
