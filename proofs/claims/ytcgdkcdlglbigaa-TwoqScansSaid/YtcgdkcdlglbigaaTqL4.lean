/- The laws of twoq, walked: any calls; a new cache; what Lists returns may be changed. -/
import Derived.Test.YtcgdkcdlglbigaaTqL3
import Derived.Test.YtcgdkcdlglbigaaSlD
namespace Go.Proofs.Ytcgdkcdlglbigaa
open Go.Lk Go.Sl Go.Gh Go.Tb Go.Tq
theorem atBlk (id : Nat) {r0 : Option Nat} {P : Program} {base : World} {n : Nat} {ds : List Deferred} {Q : Exit → Act → World → Prop} {env : Env} {l : List HP} {c : Code} (h : TC r0 P base n ds (.block id c) Q env l) : TC r0 P base n ds (.block id c) Q env l := h
attribute [local irreducible] TK TL TC Th Bk Nx fnPost WA TQ OpQ OpN SpecH Rd Ent IterH RoundH Rb Rp fnPostM
attribute [local irreducible] Gh.addL Gh.addV Gh.addB Tq.useS Tq.useL Tq.useO Tq.useH Tq.roomS Tq.roomB Tq.roomO
instance (Z : Nat → Int × Nat) : Width (fun i => ([.int .i64 (Z i).1, .int .u32 ((Z i).2 : Nat)] : List Value)) 2 := ⟨fun _ => rfl⟩
set_option maxHeartbeats 16000000 in
instance tql_plays : Known Try.prog 25 (∀ (p0 size most gm : Nat) (a : Option Addr) (n cap : Nat) (Z : Nat → Int × Nat), (∀ i, i < n → (Z i).2 < 4294967296) → n ≤ 120 → SpecH Try.prog 25 #[.pointer (some ⟨p0, 0, none⟩), .agg #[.int .i64 (size : Nat), .int .i64 (most : Nat), .slice none 0 0, .slice none 0 0, .int .i64 (gm : Nat), .slice none 0 0], .slice a n cap] [TwoqAt p0 size most gm [] [] [], RoS 2 a n cap (rows n fun i => [.int .i64 (Z i).1, .int .u32 ((Z i).2 : Nat)])] (fun y : Nat × S3 × St => .tuple #[.pointer (some ⟨y.1, 0, none⟩), .agg #[.int .i64 (size : Nat), .int .i64 (most : Nat), .slice y.2.1.1.1 y.2.2.Q.length y.2.1.1.2, .slice y.2.1.2.1.1 y.2.2.M.length y.2.1.2.1.2, .int .i64 (gm : Nat), .slice y.2.1.2.2.1 y.2.2.G.length y.2.1.2.2.2], .bool true]) (fun y => [TwoqAt y.1 size most gm y.2.2.Q y.2.2.M y.2.2.G, RoS 1 y.2.1.1.1 y.2.2.Q.length y.2.1.1.2 (u32s y.2.2.Q), RoS 1 y.2.1.2.1.1 y.2.2.M.length y.2.1.2.1.2 (u32s y.2.2.M), RoS 1 y.2.1.2.2.1 y.2.2.G.length y.2.1.2.2.2 (u32s y.2.2.G)])) := ⟨fun p0 size most gm a n cap Z hZ hn => by
  refine spec_of Try.func25 rfl Try.ntmps25 rfl [(0, _), (1, _), (2, _)] rfl ?_; intro base F l0 hl0; (try simp only [List.cons_append] at hl0); (try simp only [List.nil_append] at hl0); subst hl0
  repeat' (first | refine stp ?_ | refine And.intro ?_ ?_ | (intro e; exfalso; omega) | (intro e; subst e) | intro _)
  rename_i b4 b7
  refine tc_lp (ι := {x : Nat × Nat × S3 × St // x.1 ≤ n}) [0, 9] (fun e x => (0, .pointer (some ⟨x.1.2.1, 0, none⟩)) :: (9, .int .i64 (x.1.1 : Nat)) :: e)
    (fun x => [TwoqAt x.1.2.1 size most gm x.1.2.2.2.Q x.1.2.2.2.M x.1.2.2.2.G, obj b4 27 [.int .i64 (size : Nat), .int .i64 (most : Nat), .slice x.1.2.2.1.1.1 x.1.2.2.2.Q.length x.1.2.2.1.1.2, .slice x.1.2.2.1.2.1.1 x.1.2.2.2.M.length x.1.2.2.1.2.1.2, .int .i64 (gm : Nat), .slice x.1.2.2.1.2.2.1 x.1.2.2.2.G.length x.1.2.2.1.2.2.2], RoS 1 x.1.2.2.1.1.1 x.1.2.2.2.Q.length x.1.2.2.1.1.2 (u32s x.1.2.2.2.Q), RoS 1 x.1.2.2.1.2.1.1 x.1.2.2.2.M.length x.1.2.2.1.2.1.2 (u32s x.1.2.2.2.M), RoS 1 x.1.2.2.1.2.2.1 x.1.2.2.2.G.length x.1.2.2.1.2.2.2 (u32s x.1.2.2.2.G), obj b7 27 [.int .i64 0, .int .i64 0, .slice none 0 0, .slice none 0 0, .int .i64 0, .slice none 0 0], RoS 2 a n cap (rows n fun i => [.int .i64 (Z i).1, .int .u32 ((Z i).2 : Nat)]), F]) (fun x => n - x.1.1) ⟨(0, p0, ((none, 0), (none, 0), none, 0), ⟨[], [], []⟩), by omega⟩ ?_
    (hl := by show Ent _ [TwoqAt p0 size most gm [] [] [], obj b4 27 [.int .i64 (size : Nat), .int .i64 (most : Nat), .slice none 0 0, .slice none 0 0, .int .i64 (gm : Nat), .slice none 0 0], RoS 1 none 0 0 [], RoS 1 none 0 0 [], RoS 1 none 0 0 [], obj b7 27 [.int .i64 0, .int .i64 0, .slice none 0 0, .slice none 0 0, .int .i64 0, .slice none 0 0], RoS 2 a n cap (rows n fun i => [.int .i64 (Z i).1, .int .u32 ((Z i).2 : Nat)]), F]; exact en)
  rintro K ⟨⟨i, p, ⟨⟨q1, q2⟩, ⟨m1, m2⟩, g1, g2⟩, ⟨Q, M, G⟩⟩, hi⟩ hK
  dsimp only at hi ⊢
  by_cases hc : i < n
  · have hk := hZ i hc
    refine TwoqAt.factsC fun o s1 s2 s3 s4 => ?_
    repeat' (first | ((fail_if_success (refine atBlk 2 ?_)); refine stp ?_) | refine And.intro ?_ ?_ | (intro e; exfalso; omega) | (intro e; subst e) | intro _)
    rename_i b10
    refine cut (ι := Nat × S3 × St) (fun y => [(0, .pointer (some ⟨y.1, 0, none⟩)), (1, .agg #[.int .i64 (size : Nat), .int .i64 (most : Nat), .slice none 0 0, .slice none 0 0, .int .i64 (gm : Nat), .slice none 0 0]), (6, .pointer none), (8, .bool false), (2, .slice a n cap), (4, .pointer (some ⟨b4, 0, none⟩)), (7, .pointer (some ⟨b7, 0, none⟩)), (9, .int .i64 (i : Nat)), (10, .pointer (some ⟨b10, 0, none⟩))])
      (fun y => [obj b10 46 [.int .i64 (Z i).1, .int .u32 ((Z i).2 : Nat)], TwoqAt y.1 size most gm y.2.2.Q y.2.2.M y.2.2.G, obj b4 27 [.int .i64 (size : Nat), .int .i64 (most : Nat), .slice y.2.1.1.1 y.2.2.Q.length y.2.1.1.2, .slice y.2.1.2.1.1 y.2.2.M.length y.2.1.2.1.2, .int .i64 (gm : Nat), .slice y.2.1.2.2.1 y.2.2.G.length y.2.1.2.2.2], RoS 1 y.2.1.1.1 y.2.2.Q.length y.2.1.1.2 (u32s y.2.2.Q), RoS 1 y.2.1.2.1.1 y.2.2.M.length y.2.1.2.1.2 (u32s y.2.2.M), RoS 1 y.2.1.2.2.1 y.2.2.G.length y.2.1.2.2.2 (u32s y.2.2.G), obj b7 27 [.int .i64 0, .int .i64 0, .slice none 0 0, .slice none 0 0, .int .i64 0, .slice none 0 0], RoS 2 a n cap (rows n fun i => [.int .i64 (Z i).1, .int .u32 ((Z i).2 : Nat)]), F]) ?_ ?_
    · intro K hK2
      by_cases h0 : (Z i).1 = 0
      · repeat' (first | refine stp ?_ | refine And.intro ?_ ?_ | (intro e; exfalso; omega) | (intro e; subst e) | intro _)
        rename_i b11 ra rb b13 b14
        exact fin hK2 (p, (ra, rb), useS size most gm ⟨Q, M, G⟩ (Z i).2)
      by_cases h1 : (Z i).1 = 1
      · repeat' (first | refine stp ?_ | refine And.intro ?_ ?_ | (intro e; exfalso; omega) | (intro e; subst e) | intro _)
        rename_i ra rb b17
        exact fin hK2 (p, (ra, rb), ⟨Q.erase (Z i).2, M.erase (Z i).2, G⟩)
      · haveI : NatI (IntKind.wrap .u32 ((Z i).2 + 77)) (((Z i).2 + 77) % 4294967296) := ⟨by show ((Z i).2 + 77 : Int) % 4294967296 = _; omega⟩
        have hw : (((Z i).2 + 77) % 4294967296) < 4294967296 := by omega
        repeat' (first | refine stp ?_ | refine And.intro ?_ ?_ | (intro e; exfalso; omega) | (intro e; subst e) | intro _)
        rename_i x
        exact fin hK2 (x, ((q1, q2), (m1, m2), g1, g2), ⟨Q, M, G⟩)
    · rintro ⟨p, ⟨⟨q1, q2⟩, ⟨m1, m2⟩, g1, g2⟩, ⟨Q, M, G⟩⟩
      dsimp only
      repeat' (first | refine stp ?_ | refine And.intro ?_ ?_ | (intro e; exfalso; omega) | (intro e; subst e) | intro _)
      exact again hK ⟨(i + 1, p, ((q1, q2), (m1, m2), g1, g2), ⟨Q, M, G⟩), by omega⟩
  · repeat' (first | ((fail_if_success (refine atD ?_)); refine stp ?_) | refine And.intro ?_ ?_ | (intro e; exfalso; omega) | (intro e; subst e) | intro _)
    refine drx [obj b7 27 [.int .i64 0, .int .i64 0, .slice none 0 0, .slice none 0 0, .int .i64 0, .slice none 0 0]] ?_
    refine tks [0, 1, 2] 2 ?_; repeat' (first | refine stp ?_ | refine And.intro ?_ ?_ | (intro e; exfalso; omega) | (intro e; subst e) | intro _)
    refine hv0 3 fun x3 => ?_
    refine tks [4] 0 ?_; repeat' (first | refine stp ?_ | refine And.intro ?_ ?_ | (intro e; exfalso; omega) | (intro e; subst e) | intro _)
    exact ram (p, ((q1, q2), (m1, m2), g1, g2), ⟨Q, M, G⟩) rfl⟩
theorem tql_made_bad (x y z : Int) (h : x < 1 ∨ 1024 < x ∨ y < 1 ∨ x < y ∨ z < 0 ∨ 1024 < z) : SpecH Try.prog 14 #[.int .i64 x, .int .i64 y, .int .i64 z] [] (fun _ : Unit => .tuple #[.pointer none, .agg #[.int .i64 0, .int .i64 0, .slice none 0 0, .slice none 0 0, .int .i64 0, .slice none 0 0], .bool false]) (fun _ => []) := by
  refine spec_of Try.func14 rfl Try.ntmps14 rfl [(0, _), (1, _), (2, _)] rfl ?_; intro base F l0 hl0; (try simp only [List.cons_append] at hl0); (try simp only [List.nil_append] at hl0); subst hl0
  repeat' (first | ((fail_if_success (refine atCall 23 ?_)); refine stp ?_) | refine And.intro ?_ ?_ | (intro e; exfalso; omega) | (intro e; subst e) | intro _)
  refine call (rt_new_bad x y z h) ?_
  repeat' (first | ((fail_if_success (refine atD ?_)); refine stp ?_) | refine And.intro ?_ ?_ | (intro e; exfalso; omega) | (intro e; subst e) | intro _)
  rename_i b7 b9
  refine drx [obj b7 27 [.int .i64 0, .int .i64 0, .slice none 0 0, .slice none 0 0, .int .i64 0, .slice none 0 0]] ?_; refine tks [0, 1] 2 ?_; (repeat' (first | refine stp ?_ | refine And.intro ?_ ?_ | (intro e; exfalso; omega) | (intro e; subst e) | intro _)); refine hv0 2 fun _ => ?_; refine tks [3] 0 ?_; (repeat' (first | refine stp ?_ | refine And.intro ?_ ?_ | (intro e; exfalso; omega) | (intro e; subst e) | intro _))
  exact ram () rfl
theorem tql_made_big (x y z : Int) (h : ¬ (x < 1 ∨ 1024 < x ∨ y < 1 ∨ x < y ∨ z < 0 ∨ 1024 < z)) (h2 : 40 < x ∨ 40 < z) : SpecH Try.prog 14 #[.int .i64 x, .int .i64 y, .int .i64 z] [] (fun _ : Unit => .tuple #[.pointer none, .agg #[.int .i64 x, .int .i64 y, .slice none 0 0, .slice none 0 0, .int .i64 z, .slice none 0 0], .bool false]) (fun _ => []) := by
  rcases Classical.em (40 < x) with h3 | h3
  · clear h2
    refine spec_of Try.func14 rfl Try.ntmps14 rfl [(0, _), (1, _), (2, _)] rfl ?_; intro base F l0 hl0; (try simp only [List.cons_append] at hl0); (try simp only [List.nil_append] at hl0); subst hl0
    repeat' (first | ((fail_if_success (refine atD ?_)); refine stp ?_) | refine And.intro ?_ ?_ | (intro e; exfalso; omega) | (intro e; subst e) | intro _)
    rename_i b7 b9
    refine drx [obj b7 27 [.int .i64 0, .int .i64 0, .slice none 0 0, .slice none 0 0, .int .i64 0, .slice none 0 0]] ?_; refine tks [0, 1] 2 ?_; (repeat' (first | refine stp ?_ | refine And.intro ?_ ?_ | (intro e; exfalso; omega) | (intro e; subst e) | intro _)); refine hv0 2 fun _ => ?_; refine tks [3] 0 ?_; (repeat' (first | refine stp ?_ | refine And.intro ?_ ?_ | (intro e; exfalso; omega) | (intro e; subst e) | intro _))
    exact ram () rfl
  · replace h2 := h2.resolve_left h3
    refine spec_of Try.func14 rfl Try.ntmps14 rfl [(0, _), (1, _), (2, _)] rfl ?_; intro base F l0 hl0; (try simp only [List.cons_append] at hl0); (try simp only [List.nil_append] at hl0); subst hl0
    repeat' (first | ((fail_if_success (refine atD ?_)); refine stp ?_) | refine And.intro ?_ ?_ | (intro e; exfalso; omega) | (intro e; subst e) | intro _)
    rename_i b7 b9
    refine drx [obj b7 27 [.int .i64 0, .int .i64 0, .slice none 0 0, .slice none 0 0, .int .i64 0, .slice none 0 0]] ?_; refine tks [0, 1] 2 ?_; (repeat' (first | refine stp ?_ | refine And.intro ?_ ?_ | (intro e; exfalso; omega) | (intro e; subst e) | intro _)); refine hv0 2 fun _ => ?_; refine tks [3] 0 ?_; (repeat' (first | refine stp ?_ | refine And.intro ?_ ?_ | (intro e; exfalso; omega) | (intro e; subst e) | intro _))
    exact ram () rfl
instance tql_made : Known Try.prog 14 (∀ (size most gm : Nat), 1 ≤ size → size ≤ 40 → 1 ≤ most → most ≤ size → gm ≤ 40 → SpecH Try.prog 14 #[.int .i64 (size : Nat), .int .i64 (most : Nat), .int .i64 (gm : Nat)] [] (fun p : Nat => .tuple #[.pointer (some ⟨p, 0, none⟩), .agg #[.int .i64 (size : Nat), .int .i64 (most : Nat), .slice none 0 0, .slice none 0 0, .int .i64 (gm : Nat), .slice none 0 0], .bool true]) (fun p => [TwoqAt p size most gm [] [] []])) := ⟨fun size most gm h1 h2 h3 h4 h5 => by
  refine spec_of Try.func14 rfl Try.ntmps14 rfl [(0, _), (1, _), (2, _)] rfl ?_; intro base F l0 hl0; (try simp only [List.cons_append] at hl0); (try simp only [List.nil_append] at hl0); subst hl0
  repeat' (first | ((fail_if_success (refine atD ?_)); refine stp ?_) | refine And.intro ?_ ?_ | (intro e; exfalso; omega) | (intro e; subst e) | intro _)
  rename_i b7 b9 p
  refine drx [obj b7 27 [.int .i64 0, .int .i64 0, .slice none 0 0, .slice none 0 0, .int .i64 0, .slice none 0 0]] ?_
  refine tks [0, 1, 2] 2 ?_; repeat' (first | refine stp ?_ | refine And.intro ?_ ?_ | (intro e; exfalso; omega) | (intro e; subst e) | intro _)
  refine hv0 3 fun _ => ?_
  refine tks [4] 0 ?_; repeat' (first | refine stp ?_ | refine And.intro ?_ ?_ | (intro e; exfalso; omega) | (intro e; subst e) | intro _)
  exact ram p rfl⟩
end Go.Proofs.Ytcgdkcdlglbigaa
