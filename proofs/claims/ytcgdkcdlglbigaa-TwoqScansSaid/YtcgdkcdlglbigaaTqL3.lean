/- The laws of twoq, walked: a cache that looks like its reference; any calls. -/
import Derived.Test.YtcgdkcdlglbigaaTqL2
namespace Go.Tq
open Go.Lk Go.Sl Go.Tb
/-- The lists after calls. -/
def actS (size most gm : Nat) (s : St) (a : Int × Nat) : St := if a.1 = 0 then useS size most gm s a.2 else if a.1 = 1 then dropS s a.2 else s
def playS (size most gm : Nat) (Z : Nat → Int × Nat) : Nat → St
  | 0 => ⟨[], [], []⟩
  | i + 1 => actS size most gm (playS size most gm Z i) (Z i)
end Go.Tq
namespace Go.Proofs.Ytcgdkcdlglbigaa
open Go.Lk Go.Sl Go.Gh Go.Tb Go.Tq
attribute [local irreducible] TK TL TC Th Bk Nx fnPost WA TQ OpQ OpN SpecH Rd Ent IterH RoundH Rb Rp fnPostM
attribute [local irreducible] Gh.addL Gh.addV Gh.addB Tq.useS Tq.useL Tq.useO Tq.useH Tq.roomS Tq.roomB Tq.roomO
instance tq_lenA : Known Try.prog 20 (∀ (p size most gm : Nat) (Q M G : List Nat), SpecH Try.prog 20 #[.pointer (some ⟨p, 0, none⟩)] [TwoqAt p size most gm Q M G] (fun _ : Unit => .int .i64 (Q.length + M.length : Nat)) (fun _ => [TwoqAt p size most gm Q M G])) := ⟨fun p size most gm Q M G => by
  haveI := tq_zero
  refine spec_of Try.func20 rfl Try.ntmps20 rfl [(0, _)] rfl ?_; intro base F l0 hl0; (try simp only [List.cons_append] at hl0); (try simp only [List.nil_append] at hl0); subst hl0
  refine TwoqAt.openC fun pq pm pg => ?_
  refine TwoqX.openC fun kv K fr Lq Lm bm aK cK af cf t h1 h2 h3 h4 h5 => ?_
  rw [← t.len]
  repeat' (first | refine stp ?_ | refine And.intro ?_ ?_ | (intro e; exfalso; omega) | (intro e; subst e) | intro _)
  exact rt1 () rfl (he := (en2 (TwoqX.shut t h1 h2 h3 h4 h5)).trans (en2 TwoqAt.shut))⟩
theorem tql_listsT : Known Try.prog 27 (∀ (p size most gm : Nat) (Q M G : List Nat) (a1 a2 a3 : Option Addr) (n1 n2 n3 c1 c2 c3 : Nat), n1 = Q.length → n2 = M.length → n3 = G.length → n1 ≤ 4096 → n2 ≤ 4096 → n3 ≤ 4096 → SpecH Try.prog 27 #[.pointer (some ⟨p, 0, none⟩), .slice a1 n1 c1, .slice a2 n2 c2, .slice a3 n3 c3] [TwoqAt p size most gm Q M G, RoS 1 a1 n1 c1 (u32s Q), RoS 1 a2 n2 c2 (u32s M), RoS 1 a3 n3 c3 (u32s G)] (fun _ : Unit => .bool true) (fun _ => [TwoqAt p size most gm Q M G])) := ⟨fun p size most gm Q M G a1 a2 a3 n1 n2 n3 c1 c2 c3 e1 e2 e3 x1 x2 x3 => by
  have h := tql_lists.out p size most gm Q M G a1 a2 a3 n1 n2 n3 c1 c2 c3 (u32s Q) (u32s M) (u32s G) Q M G ⟨rfl⟩ ⟨rfl⟩ ⟨rfl⟩ e1 e2 e3 x1 x2 x3
  rwa [decide_eq_true ⟨rfl, rfl, rfl⟩] at h⟩
set_option maxHeartbeats 8000000 in
instance tql_equal : Known Try.prog 24 (∀ (p : Nat) (a1 a2 a3 : Option Addr) (n1 n2 n3 c1 c2 c3 size most gm : Nat) (Q M G : List Nat) (xk : Int) (k : Nat) [NatI xk k], n1 = Q.length → n2 = M.length → n3 = G.length → SpecH Try.prog 24 #[.pointer (some ⟨p, 0, none⟩), .agg #[.int .i64 (size : Nat), .int .i64 (most : Nat), .slice a1 n1 c1, .slice a2 n2 c2, .int .i64 (gm : Nat), .slice a3 n3 c3], .int .u32 xk] [TwoqAt p size most gm Q M G, RoS 1 a1 n1 c1 (u32s Q), RoS 1 a2 n2 c2 (u32s M), RoS 1 a3 n3 c3 (u32s G)] (fun _ : Unit => .bool true) (fun _ => [TwoqAt p size most gm Q M G])) := ⟨fun p a1 a2 a3 n1 n2 n3 c1 c2 c3 size most gm Q M G xk k _ e1 e2 e3 => by
  obtain rfl : xk = (k : Int) := NatI.out
  subst e1; subst e2; subst e3
  refine spec_of Try.func24 rfl Try.ntmps24 rfl [(0, _), (1, _), (2, _)] rfl ?_; intro base F l0 hl0; (try simp only [List.cons_append] at hl0); (try simp only [List.nil_append] at hl0); subst hl0
  refine TwoqAt.factsC fun o h1 h2 h3 h4 => ?_
  have hlen := o.len
  have hgl := o.gl
  dsimp only at hlen hgl
  haveI := tql_listsT
  repeat' (first | ((fail_if_success (refine atD ?_)); refine stp ?_) | refine And.intro ?_ ?_ | (intro e; exfalso; omega) | (intro e; subst e) | intro _)
  rename_i b1
  refine drx [TwoqAt p size most gm Q M G] ?_
  refine tks [0, 1, 3, 5, 2, 4, 6, 7] 30 ?_; repeat' (first | refine stp ?_ | refine And.intro ?_ ?_ | (intro e; exfalso; omega) | (intro e; subst e) | intro _)
  refine hv 8 fun x8 => ?_
  refine tks [9, 10, 12, 15, 13, 16, 14, 17, 18] 20 ?_; repeat' (first | refine stp ?_ | refine And.intro ?_ ?_ | (intro e; exfalso; omega) | (intro e; subst e) | intro _)
  refine hv 11 fun x11 => ?_
  refine tks [19, 20, 21, 22, 24, 25] 13 ?_; repeat' (first | refine stp ?_ | refine And.intro ?_ ?_ | (intro e; exfalso; omega) | (intro e; subst e) | intro _)
  refine hv 23 fun x23 => ?_
  refine tks [26, 27, 28, 29, 30, 32, 33] 5 ?_; repeat' (first | refine stp ?_ | refine And.intro ?_ ?_ | (intro e; exfalso; omega) | (intro e; subst e) | intro _)
  refine hv 31 fun x31 => ?_
  refine hv 34 fun x34 => ?_
  refine tks [35, 36, 37] 0 ?_; repeat' (first | refine stp ?_ | refine And.intro ?_ ?_ | (intro e; exfalso; omega) | (intro e; subst e) | intro _)
  all_goals exact rt1 () rfl⟩
end Go.Proofs.Ytcgdkcdlglbigaa
