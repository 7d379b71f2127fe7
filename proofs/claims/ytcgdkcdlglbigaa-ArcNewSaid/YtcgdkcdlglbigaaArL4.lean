/- The laws of arc, walked: any calls. -/
import Derived.Test.YtcgdkcdlglbigaaArL3
import Derived.Test.YtcgdkcdlglbigaaSlD
namespace Go.Proofs.Ytcgdkcdlglbigaa
open Go.Lk Go.Sl Go.Gh Go.Tb Go.Ar
theorem atBlkA (id : Nat) {r0 : Option Nat} {P : Program} {base : World} {n : Nat} {ds : List Deferred} {Q : Exit → Act → World → Prop} {env : Env} {l : List HP} {c : Code} (h : TC r0 P base n ds (.block id c) Q env l) : TC r0 P base n ds (.block id c) Q env l := h
attribute [local irreducible] TK TL TC Th Bk Nx fnPost WA TQ OpQ OpN SpecH Rd Ent IterH RoundH Rb Rp fnPostM
attribute [local irreducible] Gh.addL Gh.addV Gh.addB Ar.useS Ar.roomS Ar.missS Ar.roomB Ar.roomO Ar.missB Ar.missO Ar.useL Ar.useO Ar.useH Ar.upT Ar.downT
instance (Z : Nat → Int × Nat) : Width (fun i => ([.int .i64 (Z i).1, .int .u32 ((Z i).2 : Nat)] : List Value)) 2 := ⟨fun _ => rfl⟩
set_option maxHeartbeats 16000000 in
instance arl_plays : Known Try.prog 38 (∀ (p0 size : Nat) (a : Option Addr) (n cap : Nat) (Z : Nat → Int × Nat), (∀ i, i < n → (Z i).2 < 4294967296) → n ≤ 120 → SpecH Try.prog 38 #[.pointer (some ⟨p0, 0, none⟩), .agg #[.int .i64 (size : Nat), .slice none 0 0, .slice none 0 0, .slice none 0 0, .slice none 0 0, .int .i64 (0 : Nat)], .slice a n cap] [ArcAt p0 size [] [] [] [] 0, RoS 2 a n cap (rows n fun i => [.int .i64 (Z i).1, .int .u32 ((Z i).2 : Nat)])] (fun y : Nat × S4 × Ar.St => .tuple #[.pointer (some ⟨y.1, 0, none⟩), .agg #[.int .i64 (size : Nat), .slice y.2.1.1.1 y.2.2.O.length y.2.1.1.2, .slice y.2.1.2.1.1 y.2.2.F.length y.2.1.2.1.2, .slice y.2.1.2.2.1.1 y.2.2.A.length y.2.1.2.2.1.2, .slice y.2.1.2.2.2.1 y.2.2.B.length y.2.1.2.2.2.2, .int .i64 (y.2.2.t : Nat)], .bool true]) (fun y => [ArcAt y.1 size y.2.2.O y.2.2.F y.2.2.A y.2.2.B y.2.2.t, RoS 1 y.2.1.1.1 y.2.2.O.length y.2.1.1.2 (u32s y.2.2.O), RoS 1 y.2.1.2.1.1 y.2.2.F.length y.2.1.2.1.2 (u32s y.2.2.F), RoS 1 y.2.1.2.2.1.1 y.2.2.A.length y.2.1.2.2.1.2 (u32s y.2.2.A), RoS 1 y.2.1.2.2.2.1 y.2.2.B.length y.2.1.2.2.2.2 (u32s y.2.2.B)])) := ⟨fun p0 size a n cap Z hZ hn => by
  refine spec_of Try.func38 rfl Try.ntmps38 rfl [(0, _), (1, _), (2, _)] rfl ?_; intro base F l0 hl0; (try simp only [List.cons_append] at hl0); (try simp only [List.nil_append] at hl0); subst hl0
  repeat' (first | refine stp ?_ | refine And.intro ?_ ?_ | (intro e; exfalso; omega) | (intro e; subst e) | intro _)
  rename_i b4 b7
  refine tc_lp (ι := {x : Nat × Nat × S4 × Ar.St // x.1 ≤ n}) [0, 9] (fun e x => (0, .pointer (some ⟨x.1.2.1, 0, none⟩)) :: (9, .int .i64 (x.1.1 : Nat)) :: e)
    (fun x => [ArcAt x.1.2.1 size x.1.2.2.2.O x.1.2.2.2.F x.1.2.2.2.A x.1.2.2.2.B x.1.2.2.2.t, obj b4 78 [.int .i64 (size : Nat), .slice x.1.2.2.1.1.1 x.1.2.2.2.O.length x.1.2.2.1.1.2, .slice x.1.2.2.1.2.1.1 x.1.2.2.2.F.length x.1.2.2.1.2.1.2, .slice x.1.2.2.1.2.2.1.1 x.1.2.2.2.A.length x.1.2.2.1.2.2.1.2, .slice x.1.2.2.1.2.2.2.1 x.1.2.2.2.B.length x.1.2.2.1.2.2.2.2, .int .i64 (x.1.2.2.2.t : Nat)], RoS 1 x.1.2.2.1.1.1 x.1.2.2.2.O.length x.1.2.2.1.1.2 (u32s x.1.2.2.2.O), RoS 1 x.1.2.2.1.2.1.1 x.1.2.2.2.F.length x.1.2.2.1.2.1.2 (u32s x.1.2.2.2.F), RoS 1 x.1.2.2.1.2.2.1.1 x.1.2.2.2.A.length x.1.2.2.1.2.2.1.2 (u32s x.1.2.2.2.A), RoS 1 x.1.2.2.1.2.2.2.1 x.1.2.2.2.B.length x.1.2.2.1.2.2.2.2 (u32s x.1.2.2.2.B), obj b7 78 [.int .i64 0, .slice none 0 0, .slice none 0 0, .slice none 0 0, .slice none 0 0, .int .i64 0], RoS 2 a n cap (rows n fun i => [.int .i64 (Z i).1, .int .u32 ((Z i).2 : Nat)]), F]) (fun x => n - x.1.1) ⟨(0, p0, ((none, 0), (none, 0), (none, 0), none, 0), ⟨[], [], [], [], 0⟩), by omega⟩ ?_
    (hl := by show Ent _ [ArcAt p0 size [] [] [] [] 0, obj b4 78 [.int .i64 (size : Nat), .slice none 0 0, .slice none 0 0, .slice none 0 0, .slice none 0 0, .int .i64 (0 : Nat)], RoS 1 none 0 0 [], RoS 1 none 0 0 [], RoS 1 none 0 0 [], RoS 1 none 0 0 [], obj b7 78 [.int .i64 0, .slice none 0 0, .slice none 0 0, .slice none 0 0, .slice none 0 0, .int .i64 0], RoS 2 a n cap (rows n fun i => [.int .i64 (Z i).1, .int .u32 ((Z i).2 : Nat)]), F]; exact en)
  rintro K ⟨⟨i, p, ⟨⟨q1, q2⟩, ⟨m1, m2⟩, ⟨u1, u2⟩, g1, g2⟩, ⟨O, E, A, B, t⟩⟩, hi⟩ hK
  dsimp only at hi ⊢
  by_cases hc : i < n
  · have hk := hZ i hc
    refine ArcAt.factsC fun iv s0 s1 s2 => ?_
    obtain ⟨l1, l2, l3, l4⟩ := iv.lens
    repeat' (first | ((fail_if_success (refine atBlkA 2 ?_)); refine stp ?_) | refine And.intro ?_ ?_ | (intro e; exfalso; omega) | (intro e; subst e) | intro _)
    rename_i b10
    refine cut (ι := Nat × S4 × Ar.St) (fun y => [(0, .pointer (some ⟨y.1, 0, none⟩)), (1, .agg #[.int .i64 (size : Nat), .slice none 0 0, .slice none 0 0, .slice none 0 0, .slice none 0 0, .int .i64 (0 : Nat)]), (6, .pointer none), (8, .bool false), (2, .slice a n cap), (4, .pointer (some ⟨b4, 0, none⟩)), (7, .pointer (some ⟨b7, 0, none⟩)), (9, .int .i64 (i : Nat)), (10, .pointer (some ⟨b10, 0, none⟩))])
      (fun y => [obj b10 73 [.int .i64 (Z i).1, .int .u32 ((Z i).2 : Nat)], ArcAt y.1 size y.2.2.O y.2.2.F y.2.2.A y.2.2.B y.2.2.t, obj b4 78 [.int .i64 (size : Nat), .slice y.2.1.1.1 y.2.2.O.length y.2.1.1.2, .slice y.2.1.2.1.1 y.2.2.F.length y.2.1.2.1.2, .slice y.2.1.2.2.1.1 y.2.2.A.length y.2.1.2.2.1.2, .slice y.2.1.2.2.2.1 y.2.2.B.length y.2.1.2.2.2.2, .int .i64 (y.2.2.t : Nat)], RoS 1 y.2.1.1.1 y.2.2.O.length y.2.1.1.2 (u32s y.2.2.O), RoS 1 y.2.1.2.1.1 y.2.2.F.length y.2.1.2.1.2 (u32s y.2.2.F), RoS 1 y.2.1.2.2.1.1 y.2.2.A.length y.2.1.2.2.1.2 (u32s y.2.2.A), RoS 1 y.2.1.2.2.2.1 y.2.2.B.length y.2.1.2.2.2.2 (u32s y.2.2.B), obj b7 78 [.int .i64 0, .slice none 0 0, .slice none 0 0, .slice none 0 0, .slice none 0 0, .int .i64 0], RoS 2 a n cap (rows n fun i => [.int .i64 (Z i).1, .int .u32 ((Z i).2 : Nat)]), F]) ?_ ?_
    · intro K hK2
      by_cases h0 : (Z i).1 = 0
      · repeat' (first | refine stp ?_ | refine And.intro ?_ ?_ | (intro e; exfalso; omega) | (intro e; subst e) | intro _)
        rename_i b11 ra rb b13 b14
        exact fin hK2 (p, (ra, rb), Ar.useS size ⟨O, E, A, B, t⟩ (Z i).2)
      by_cases h1 : (Z i).1 = 1
      · repeat' (first | refine stp ?_ | refine And.intro ?_ ?_ | (intro e; exfalso; omega) | (intro e; subst e) | intro _)
        rename_i ra rb b17
        exact fin hK2 (p, (ra, rb), ⟨O.erase (Z i).2, E.erase (Z i).2, A, B, t⟩)
      · haveI : NatI (IntKind.wrap .u32 ((Z i).2 + 77)) (((Z i).2 + 77) % 4294967296) := ⟨by show ((Z i).2 + 77 : Int) % 4294967296 = _; omega⟩
        have hw : (((Z i).2 + 77) % 4294967296) < 4294967296 := by omega
        repeat' (first | refine stp ?_ | refine And.intro ?_ ?_ | (intro e; exfalso; omega) | (intro e; subst e) | intro _)
        rename_i x
        exact fin hK2 (x, ((q1, q2), (m1, m2), (u1, u2), g1, g2), ⟨O, E, A, B, t⟩)
    · rintro ⟨p, ⟨⟨q1, q2⟩, ⟨m1, m2⟩, ⟨u1, u2⟩, g1, g2⟩, ⟨O, E, A, B, t⟩⟩
      dsimp only
      repeat' (first | refine stp ?_ | refine And.intro ?_ ?_ | (intro e; exfalso; omega) | (intro e; subst e) | intro _)
      exact again hK ⟨(i + 1, p, ((q1, q2), (m1, m2), (u1, u2), g1, g2), ⟨O, E, A, B, t⟩), by omega⟩
  · repeat' (first | ((fail_if_success (refine atD ?_)); refine stp ?_) | refine And.intro ?_ ?_ | (intro e; exfalso; omega) | (intro e; subst e) | intro _)
    refine drx [obj b7 78 [.int .i64 0, .slice none 0 0, .slice none 0 0, .slice none 0 0, .slice none 0 0, .int .i64 0]] ?_
    refine tks [0, 1, 2] 2 ?_; repeat' (first | refine stp ?_ | refine And.intro ?_ ?_ | (intro e; exfalso; omega) | (intro e; subst e) | intro _)
    refine hv0 3 fun x3 => ?_
    refine tks [4] 0 ?_; repeat' (first | refine stp ?_ | refine And.intro ?_ ?_ | (intro e; exfalso; omega) | (intro e; subst e) | intro _)
    exact ram (p, ((q1, q2), (m1, m2), (u1, u2), g1, g2), ⟨O, E, A, B, t⟩) rfl⟩
end Go.Proofs.Ytcgdkcdlglbigaa
