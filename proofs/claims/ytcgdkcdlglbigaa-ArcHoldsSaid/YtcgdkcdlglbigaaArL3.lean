/- The laws of arc, walked: a cache that looks like its reference; any calls. -/
import Derived.Test.YtcgdkcdlglbigaaArL2
namespace Go.Proofs.Ytcgdkcdlglbigaa
open Go.Lk Go.Sl Go.Gh Go.Tb Go.Ar
open Go.Tq (SameB DropTo)
attribute [local irreducible] TK TL TC Th Bk Nx fnPost WA TQ OpQ OpN SpecH Rd Ent IterH RoundH Rb Rp fnPostM
attribute [local irreducible] Gh.addL Gh.addV Gh.addB Ar.useS Ar.roomS Ar.missS Ar.roomB Ar.roomO Ar.missB Ar.missO Ar.useL Ar.useO Ar.useH Ar.upT Ar.downT
instance ar_lenA : Known Try.prog 34 (∀ (p size : Nat) (O E A B : List Nat) (t : Nat), SpecH Try.prog 34 #[.pointer (some ⟨p, 0, none⟩)] [ArcAt p size O E A B t] (fun _ : Unit => .int .i64 (O.length + E.length : Nat)) (fun _ => [ArcAt p size O E A B t])) := ⟨fun p size O E A B t => by
  refine spec_of Try.func34 rfl Try.ntmps34 rfl [(0, _)] rfl ?_; intro base F l0 hl0; (try simp only [List.cons_append] at hl0); (try simp only [List.nil_append] at hl0); subst hl0
  refine ArcAt.openC fun po pa pf pb => ?_
  refine ArcX.openC fun kv K fr Lo Lf bm aK cK af cf tw h1 h2 iv => ?_
  rw [← tw.len]
  repeat' (first | refine stp ?_ | refine And.intro ?_ ?_ | (intro e; exfalso; omega) | (intro e; subst e) | intro _)
  exact rt1 () rfl (he := (en2 (ArcX.shut tw h1 h2 iv)).trans (en2 ArcAt.shut))⟩
theorem arl_listsT : Known Try.prog 40 (∀ (p size : Nat) (O E A B : List Nat) (t : Nat) (a1 a2 a3 a4 : Option Addr) (n1 n2 n3 n4 c1 c2 c3 c4 : Nat), n1 = O.length → n2 = E.length → n3 = A.length → n4 = B.length → n1 ≤ 4096 → n2 ≤ 4096 → n3 ≤ 4096 → n4 ≤ 4096 → SpecH Try.prog 40 #[.pointer (some ⟨p, 0, none⟩), .slice a1 n1 c1, .slice a2 n2 c2, .slice a3 n3 c3, .slice a4 n4 c4, .int .i64 (t : Nat)] [ArcAt p size O E A B t, RoS 1 a1 n1 c1 (u32s O), RoS 1 a2 n2 c2 (u32s E), RoS 1 a3 n3 c3 (u32s A), RoS 1 a4 n4 c4 (u32s B)] (fun _ : Unit => .bool true) (fun _ => [ArcAt p size O E A B t])) := ⟨fun p size O E A B t a1 a2 a3 a4 n1 n2 n3 n4 c1 c2 c3 c4 e1 e2 e3 e4 x1 x2 x3 x4 => by
  have h := arl_lists.out p size O E A B t a1 a2 a3 a4 n1 n2 n3 n4 c1 c2 c3 c4 (u32s O) (u32s E) (u32s A) (u32s B) O E A B t t ⟨rfl⟩ ⟨rfl⟩ ⟨rfl⟩ ⟨rfl⟩ e1 e2 e3 e4 x1 x2 x3 x4
  rwa [decide_eq_true ⟨rfl, rfl, rfl, rfl, rfl⟩] at h⟩
set_option maxHeartbeats 8000000 in
instance arl_equal : Known Try.prog 37 (∀ (p : Nat) (a1 a2 a3 a4 : Option Addr) (n1 n2 n3 n4 c1 c2 c3 c4 size t : Nat) (O E A B : List Nat) (xk : Int) (k : Nat) [NatI xk k], n1 = O.length → n2 = E.length → n3 = A.length → n4 = B.length → SpecH Try.prog 37 #[.pointer (some ⟨p, 0, none⟩), .agg #[.int .i64 (size : Nat), .slice a1 n1 c1, .slice a2 n2 c2, .slice a3 n3 c3, .slice a4 n4 c4, .int .i64 (t : Nat)], .int .u32 xk] [ArcAt p size O E A B t, RoS 1 a1 n1 c1 (u32s O), RoS 1 a2 n2 c2 (u32s E), RoS 1 a3 n3 c3 (u32s A), RoS 1 a4 n4 c4 (u32s B)] (fun _ : Unit => .bool true) (fun _ => [ArcAt p size O E A B t])) := ⟨fun p a1 a2 a3 a4 n1 n2 n3 n4 c1 c2 c3 c4 size t O E A B xk k _ e1 e2 e3 e4 => by
  obtain rfl : xk = (k : Int) := NatI.out
  subst e1; subst e2; subst e3; subst e4
  refine spec_of Try.func37 rfl Try.ntmps37 rfl [(0, _), (1, _), (2, _)] rfl ?_; intro base F l0 hl0; (try simp only [List.cons_append] at hl0); (try simp only [List.nil_append] at hl0); subst hl0
  refine ArcAt.factsC fun iv h0 h1 h2 => ?_
  obtain ⟨l1, l2, l3, l4⟩ := iv.lens
  haveI := arl_listsT
  repeat' (first | ((fail_if_success (refine atD ?_)); refine stp ?_) | refine And.intro ?_ ?_ | (intro e; exfalso; omega) | (intro e; subst e) | intro _)
  rename_i b1
  refine drx [ArcAt p size O E A B t] ?_
  refine tks [0, 1, 3, 5, 7, 9, 2, 4, 6, 8, 10] 30 ?_; repeat' (first | refine stp ?_ | refine And.intro ?_ ?_ | (intro e; exfalso; omega) | (intro e; subst e) | intro _)
  refine hv 11 fun x11 => ?_
  refine tks [12, 13, 15, 18, 16, 19, 17, 20, 21] 20 ?_; repeat' (first | refine stp ?_ | refine And.intro ?_ ?_ | (intro e; exfalso; omega) | (intro e; subst e) | intro _)
  refine hv 14 fun x14 => ?_
  refine tks [22, 23, 24, 25, 27, 28] 13 ?_; repeat' (first | refine stp ?_ | refine And.intro ?_ ?_ | (intro e; exfalso; omega) | (intro e; subst e) | intro _)
  refine hv 26 fun x26 => ?_
  refine tks [29, 30, 31, 32, 33, 35, 36] 5 ?_; repeat' (first | refine stp ?_ | refine And.intro ?_ ?_ | (intro e; exfalso; omega) | (intro e; subst e) | intro _)
  refine hv 34 fun x34 => ?_
  refine hv 37 fun x37 => ?_
  refine tks [38, 39, 40] 0 ?_; repeat' (first | refine stp ?_ | refine And.intro ?_ ?_ | (intro e; exfalso; omega) | (intro e; subst e) | intro _)
  all_goals exact rt1 () rfl⟩
end Go.Proofs.Ytcgdkcdlglbigaa
