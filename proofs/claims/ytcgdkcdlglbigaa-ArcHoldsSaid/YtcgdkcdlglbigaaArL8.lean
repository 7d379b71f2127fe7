/- The laws of arc, walked: THE THEOREM OF STAGE 29. -/
import Derived.Test.YtcgdkcdlglbigaaArL3
import Derived.Test.YtcgdkcdlglbigaaArHold
import Derived.Test.YtcgdkcdlglbigaaSlMapN
import Derived.Test.YtcgdkcdlglbigaaSlD
namespace Go.Ar
/-- The results of a request. -/
structure UseV (size : Nat) (O E A B : List Nat) (t k : Nat) (h b : Bool) (o : Nat) : Prop where
  h : Ar.useH ⟨O, E, A, B, t⟩ k = h
  b : Ar.useL size ⟨O, E, A, B, t⟩ k = b
  o : Ar.useO size ⟨O, E, A, B, t⟩ k = o
/-- What comes ahead of a list. -/
def preA (O E A B : List Nat) : Nat → List Nat
  | 0 => []
  | 1 => O
  | 2 => O ++ E
  | 3 => (O ++ E) ++ A
  | _ => ((O ++ E) ++ A) ++ B
end Go.Ar
namespace Go.Proofs.Ytcgdkcdlglbigaa
open Go.Lk Go.Sl Go.Gh Go.Tb Go.Ar
open Go.Ms
theorem atBlkH (id : Nat) {r0 : Option Nat} {P : Program} {base : World} {n : Nat} {ds : List Deferred} {Q : Exit → Act → World → Prop} {env : Env} {l : List HP} {c : Code} (h : TC r0 P base n ds (.block id c) Q env l) : TC r0 P base n ds (.block id c) Q env l := h
attribute [local irreducible] TK TL TC Th Bk Nx fnPost WA TQ OpQ OpN SpecH Rd Ent IterH RoundH Rb Rp fnPostM
attribute [local irreducible] Gh.addL Gh.addV Gh.addB Ar.useS Ar.roomS Ar.missS Ar.roomB Ar.roomO Ar.missB Ar.missO Ar.useL Ar.useO Ar.useH Ar.upT Ar.downT
theorem ar_useV : Known Try.prog 31 (∀ (p size : Nat) (O E A B : List Nat) (t : Nat) (xk : Int) (k : Nat) [NatI xk k] (h b : Bool) (o : Nat), Ar.UseV size O E A B t k h b o → k < 4294967296 → SpecH Try.prog 31 #[.pointer (some ⟨p, 0, none⟩), .int .u32 xk] [ArcAt p size O E A B t] (fun _ : Unit => .tuple #[.agg #[.bool h, .bool b, .int .u32 (o : Nat)], .int .i64 0]) (fun _ => [ArcAt p size (Ar.useS size ⟨O, E, A, B, t⟩ k).O (Ar.useS size ⟨O, E, A, B, t⟩ k).F (Ar.useS size ⟨O, E, A, B, t⟩ k).A (Ar.useS size ⟨O, E, A, B, t⟩ k).B (Ar.useS size ⟨O, E, A, B, t⟩ k).t])) := ⟨fun p size O E A B t xk k _ h b o u hk => by
  have t := ar_use.out p size O E A B t xk k hk
  rwa [u.h, u.b, u.o] at t⟩
theorem ar_dropB : Known Try.prog 32 (∀ (p size : Nat) (O E A B : List Nat) (t : Nat) (xk : Int) (k : Nat) [NatI xk k] (b : Bool), HasA O E k b → SpecH Try.prog 32 #[.pointer (some ⟨p, 0, none⟩), .int .u32 xk] [ArcAt p size O E A B t] (fun _ : Unit => .tuple #[.bool b, .int .i64 0]) (fun _ => [ArcAt p size (O.erase k) (E.erase k) A B t])) := ⟨fun p size O E A B t xk k _ b u => by
  have h := ar_drop.out p size O E A B t xk k
  rwa [u.out] at h⟩
theorem ar_hasB : Known Try.prog 35 (∀ (p size : Nat) (O E A B : List Nat) (t : Nat) (xk : Int) (k : Nat) [NatI xk k] (b : Bool), HasA O E k b → SpecH Try.prog 35 #[.pointer (some ⟨p, 0, none⟩), .int .u32 xk] [ArcAt p size O E A B t] (fun _ : Unit => .bool b) (fun _ => [ArcAt p size O E A B t])) := ⟨fun p size O E A B t xk k _ b u => by
  have h := ar_has.out p size O E A B t xk k
  rwa [u.out] at h⟩
instance (Z : Nat → Int × Nat) : Width (fun i => ([.int .i64 (Z i).1, .int .u32 ((Z i).2 : Nat)] : List Value)) 2 := ⟨fun _ => rfl⟩
theorem ms_drop {k : Nat} {O E : List Nat} {kt : List (Nat × Bool)} (h : MS true kt (O ++ E)) (o : O.Nodup) (f : E.Nodup) : MS true (mdel kt k) (O.erase k ++ E.erase k) := h.del fun x => by
  rw [List.mem_append, List.mem_append, o.mem_erase_iff, f.mem_erase_iff]
  constructor
  · rintro (⟨a, b⟩ | ⟨a, b⟩)
    · exact ⟨a, .inl b⟩
    · exact ⟨a, .inr b⟩
  · rintro ⟨a, b | b⟩
    · exact .inl ⟨a, b⟩
    · exact .inr ⟨a, b⟩
set_option maxHeartbeats 16000000 in
theorem arl_holds (x : Int) (a : Option Addr) (n cap : Nat) (Z : Nat → Int × Nat) (hZ : ∀ i, i < n → (Z i).2 < 4294967296) : SpecH Try.prog 9 #[.int .i64 x, .slice a n cap] [RoS 2 a n cap (rows n fun i => [.int .i64 (Z i).1, .int .u32 ((Z i).2 : Nat)])] (fun _ : Unit => .bool true) (fun _ => []) := by
  by_cases hb : x < 1 ∨ 40 < x
  · refine spec_of Try.func9 rfl Try.ntmps9 rfl [(0, _), (1, _)] rfl ?_; intro base F l0 hl0; (try simp only [List.cons_append] at hl0); (try simp only [List.nil_append] at hl0); subst hl0
    repeat' (first | refine stp ?_ | refine And.intro ?_ ?_ | (intro e; exfalso; omega) | (intro e; subst e) | intro _)
    all_goals exact rt1 () rfl
  obtain ⟨size, rfl⟩ : ∃ N : Nat, x = N := ⟨x.toNat, by omega⟩
  by_cases hn : 120 < n
  · refine spec_of Try.func9 rfl Try.ntmps9 rfl [(0, _), (1, _)] rfl ?_; intro base F l0 hl0; (try simp only [List.cons_append] at hl0); (try simp only [List.nil_append] at hl0); subst hl0
    repeat' (first | refine stp ?_ | refine And.intro ?_ ?_ | (intro e; exfalso; omega) | (intro e; subst e) | intro _)
    all_goals exact rt1 () rfl
  have c1 : 1 ≤ size ∧ size ≤ 40 := by omega
  clear hb
  refine spec_of Try.func9 rfl Try.ntmps9 rfl [(0, _), (1, _)] rfl ?_; intro base F l0 hl0; (try simp only [List.cons_append] at hl0); (try simp only [List.nil_append] at hl0); subst hl0
  haveI := ar_hasB
  haveI := ar_useV
  haveI := ar_dropB
  repeat' (first | refine stp ?_ | refine And.intro ?_ ?_ | (intro e; exfalso; omega) | (intro e; subst e) | intro _)
  rename_i p bt
  refine TC.weak (env' := [(8, .int .i64 (0 : Nat)), (7, .map (some bt)), (5, .pointer (some ⟨p, 0, none⟩)), (4, .bool false), (0, .int .i64 (size : Nat)), (1, .slice a n cap)]) ?_ (by (repeat (first | exact Sub.nil | (apply Sub.cons; exact rfl))); done)
  refine tc_lp (ι := {x : Nat × Ar.St × List (Nat × Bool) // x.1 ≤ n ∧ MS true x.2.2 (x.2.1.O ++ x.2.1.F)}) [8] (fun e x => (8, .int .i64 (x.1.1 : Nat)) :: e)
    (fun x => [ArcAt p size x.1.2.1.O x.1.2.1.F x.1.2.1.A x.1.2.1.B x.1.2.1.t, MapA .u32 (fun b : Bool => .bool b) bt x.1.2.2, RoS 2 a n cap (rows n fun i => [.int .i64 (Z i).1, .int .u32 ((Z i).2 : Nat)]), F]) (fun x => n - x.1.1) ⟨(0, ⟨[], [], [], [], 0⟩, []), by omega, MS.nil⟩ ?_
  rintro K ⟨⟨i, ⟨O, E, A, B, t⟩, kt⟩, hi, hS⟩ hK
  dsimp only at hi hS ⊢
  by_cases hc : i < n
  · have hk := hZ i hc
    refine ArcAt.factsC fun iv s0 s1 s2 => ?_
    obtain ⟨l1, l2, l3, l4⟩ := iv.lens
    obtain ⟨⟨o1, f1, _, _⟩, n1, n2, n3⟩ := iv.parts
    have hnd : (O ++ E).Nodup := List.nodup_append.2 ⟨o1, f1, fun x hx y hy e => (n1 x hx).1 (e ▸ hy)⟩
    have hktl := hS.len hnd
    rw [List.length_append] at hktl
    repeat' (first | ((fail_if_success (refine atBlkH 2 ?_)); refine stp ?_) | refine And.intro ?_ ?_ | (intro e; exfalso; omega) | (intro e; subst e) | intro _)
    rename_i b9
    refine cut (ι := {y : Ar.St × List (Nat × Bool) // MS true y.2 (y.1.O ++ y.1.F)}) (fun y => [(8, .int .i64 (i : Nat)), (9, .pointer (some ⟨b9, 0, none⟩)), (7, .map (some bt)), (5, .pointer (some ⟨p, 0, none⟩)), (4, .bool false), (0, .int .i64 (size : Nat)), (1, .slice a n cap)])
      (fun y => [obj b9 73 [.int .i64 (Z i).1, .int .u32 ((Z i).2 : Nat)], ArcAt p size y.1.1.O y.1.1.F y.1.1.A y.1.1.B y.1.1.t, MapA .u32 (fun b : Bool => .bool b) bt y.1.2, RoS 2 a n cap (rows n fun i => [.int .i64 (Z i).1, .int .u32 ((Z i).2 : Nat)]), F]) ?_ ?_
    · intro K hK2
      by_cases h0 : (Z i).1 = 0
      · by_cases hin : (Z i).2 ∈ O ∨ (Z i).2 ∈ E
        · have u1 := use_hitA (size := size) iv hin
          obtain ⟨e1, e2, e3, e4⟩ := use_hit (size := size) (A := A) (B := B) (t := t) hin
          have hu : Ar.UseV size O E A B t (Z i).2 true false 0 := ⟨e2, e3, e4⟩
          have mt := hS.yes (List.mem_append.2 hin)
          repeat' (first | refine stp ?_ | refine And.intro ?_ ?_ | (intro e; exfalso; omega) | (intro e; subst e) | intro _)
          exact fin hK2 ⟨(Ar.useS size ⟨O, E, A, B, t⟩ (Z i).2, mput kt (Z i).2 true), hS.put fun x => by
              rw [List.mem_append, List.mem_append, u1 x]
              exact ⟨.inr, fun h => h.elim (fun e => e ▸ hin) id⟩⟩
        · have hin1 : (Z i).2 ∉ O := fun h => hin (.inl h)
          have hin2 : (Z i).2 ∉ E := fun h => hin (.inr h)
          obtain ⟨full, o, e1, e2, e3, q1, q2, q3, q4⟩ := use_memA iv s1 hin1 hin2
          have hu : Ar.UseV size O E A B t (Z i).2 false full o := ⟨e1, e2, e3⟩
          have mt := hS.no (fun h => hin (List.mem_append.1 h))
          rcases Bool.eq_false_or_eq_true full with hf | hf
          · obtain rfl : full = true := hf
            have ho := q1 rfl
            have mo := hS.yes (List.mem_append.2 ho)
            have hsz := q2 rfl
            have hT1 : MS true (mdel kt o) ((O ++ E).filter fun x => x != o) := hS.del fun x => by rw [List.mem_filter, bne_iff_ne, and_comm]
            repeat' (first | refine stp ?_ | refine And.intro ?_ ?_ | (intro e; exfalso; omega) | (intro e; subst e) | intro _)
            exact fin hK2 ⟨(Ar.useS size ⟨O, E, A, B, t⟩ (Z i).2, mput (mdel kt o) (Z i).2 true), hT1.put fun x => by
                rw [List.mem_append, q4 x, List.mem_filter, bne_iff_ne, List.mem_append]
                simp [and_comm]⟩
          · obtain rfl : full = false := hf
            obtain rfl : o = 0 := q3 rfl
            repeat' (first | refine stp ?_ | refine And.intro ?_ ?_ | (intro e; exfalso; omega) | (intro e; subst e) | intro _)
            exact fin hK2 ⟨(Ar.useS size ⟨O, E, A, B, t⟩ (Z i).2, mput kt (Z i).2 true), hS.put fun x => by
                rw [List.mem_append, q4 x, List.mem_append]
                simp⟩
      by_cases h1 : (Z i).1 = 1
      · by_cases hin : (Z i).2 ∈ O ∨ (Z i).2 ∈ E
        · have hh : HasA O E (Z i).2 true := ⟨decide_eq_true hin⟩
          have mt := hS.yes (List.mem_append.2 hin)
          repeat' (first | refine stp ?_ | refine And.intro ?_ ?_ | (intro e; exfalso; omega) | (intro e; subst e) | intro _)
          exact fin hK2 ⟨(⟨O.erase (Z i).2, E.erase (Z i).2, A, B, t⟩, mdel kt (Z i).2), ms_drop hS o1 f1⟩
        · have hh : HasA O E (Z i).2 false := ⟨decide_eq_false hin⟩
          have mt := hS.no (fun h => hin (List.mem_append.1 h))
          repeat' (first | refine stp ?_ | refine And.intro ?_ ?_ | (intro e; exfalso; omega) | (intro e; subst e) | intro _)
          exact fin hK2 ⟨(⟨O.erase (Z i).2, E.erase (Z i).2, A, B, t⟩, mdel kt (Z i).2), ms_drop hS o1 f1⟩
      · repeat' (first | refine stp ?_ | refine And.intro ?_ ?_ | (intro e; exfalso; omega) | (intro e; subst e) | intro _)
        exact fin hK2 ⟨(⟨O, E, A, B, t⟩, kt), hS⟩
    · rintro ⟨⟨⟨O, E, A, B, t⟩, kt⟩, hS⟩
      dsimp only at hS ⊢
      refine ArcAt.facts fun iv _ _ _ => ?_
      obtain ⟨l1, l2, l3, l4⟩ := iv.lens
      obtain ⟨⟨o1, f1, _, _⟩, n1, n2, n3⟩ := iv.parts
      have hnd : (O ++ E).Nodup := List.nodup_append.2 ⟨o1, f1, fun x hx y hy e => (n1 x hx).1 (e ▸ hy)⟩
      have nd4 : (((O ++ E) ++ A) ++ B).Nodup := by have h := iv.nd; dsimp only at h; rwa [← List.append_assoc] at h
      have hktl := hS.len hnd
      rw [List.length_append] at hktl
      clear c1
      repeat' (first | refine stp ?_ | refine And.intro ?_ ?_ | (intro e; exfalso; omega) | (intro e; subst e) | intro _)
      rename_i w q ba bs
      obtain ⟨w1, w2⟩ := w
      obtain ⟨⟨x1, x2⟩, ⟨y1, y2⟩, u1, u2⟩ := q
      dsimp only
      refine tc_lp (ι := {w : Nat × List (Nat × Int) // w.1 ≤ 4 ∧ MS (1 : Int) w.2 (preA O E A B w.1)}) [211] (fun e w => (211, .int .i64 (w.1.1 : Nat)) :: e)
        (fun w => [MapA .u32 (fun z : Int => .int .i64 z) ba w.1.2, Vec 23 1 (some ⟨bs, 0, none⟩) 4 4 [.slice w1 O.length w2, .slice x1 E.length x2, .slice y1 A.length y2, .slice u1 B.length u2], Vec 31 1 w1 O.length w2 (u32s O), Vec 31 1 x1 E.length x2 (u32s E), Vec 31 1 y1 A.length y2 (u32s A), Vec 31 1 u1 B.length u2 (u32s B), ArcAt p size O E A B t, MapA .u32 (fun b : Bool => .bool b) bt kt, obj b9 73 [.int .i64 (Z i).1, .int .u32 ((Z i).2 : Nat)], RoS 2 a n cap (rows n fun i => [.int .i64 (Z i).1, .int .u32 ((Z i).2 : Nat)]), F]) (fun w => 4 - w.1.1) ⟨(0, []), by omega, MS.nil⟩ ?_
      rintro K3 ⟨⟨u, ka⟩, hu, hA⟩ hK3
      dsimp only at hu hA ⊢
      obtain rfl | rfl | rfl | rfl | rfl : u = 0 ∨ u = 1 ∨ u = 2 ∨ u = 3 ∨ u = 4 := by omega
      · repeat' (first | refine stp ?_ | refine And.intro ?_ ?_ | (intro e; exfalso; omega) | (intro e; subst e) | intro _)
        refine tc_lp (ι := {w : Nat × List (Nat × Int) // w.1 ≤ O.length ∧ MS (1 : Int) w.2 ([] ++ O.take w.1)}) [218] (fun e w => (218, .int .i64 (w.1.1 : Nat)) :: e)
          (fun w => [MapA .u32 (fun z : Int => .int .i64 z) ba w.1.2, Vec 23 1 (some ⟨bs, 0, none⟩) 4 4 [.slice w1 O.length w2, .slice x1 E.length x2, .slice y1 A.length y2, .slice u1 B.length u2], Vec 31 1 w1 O.length w2 (u32s O), Vec 31 1 x1 E.length x2 (u32s E), Vec 31 1 y1 A.length y2 (u32s A), Vec 31 1 u1 B.length u2 (u32s B), ArcAt p size O E A B t, MapA .u32 (fun b : Bool => .bool b) bt kt, obj b9 73 [.int .i64 (Z i).1, .int .u32 ((Z i).2 : Nat)], RoS 2 a n cap (rows n fun i => [.int .i64 (Z i).1, .int .u32 ((Z i).2 : Nat)]), F]) (fun w => O.length - w.1.1) ⟨(0, ka), by omega, by simpa [preA] using hA⟩ ?_
        rintro K4 ⟨⟨j, ka⟩, hj, hA⟩ hK4
        dsimp only at hj hA ⊢
        by_cases hjl : j < O.length
        · have hm := getD_mem hjl
          obtain ⟨ha1, ha2⟩ := all_step hA (nd4.sublist (by simp only [List.append_assoc]; exact List.sublist_append_left _ _)) hjl
          have hp : mget (mput ka (O.getD j 0) (0 + 1)) (O.getD j 0) = some ((0 : Int) + 1) := by rw [mget_put, if_pos rfl]
          have mt := hS.yes (List.mem_append.2 (.inl hm))
          have hh : HasA O E (O.getD j 0) true := ⟨decide_eq_true (.inl hm)⟩
          repeat' (first | refine stp ?_ | refine And.intro ?_ ?_ | (intro e; exfalso; omega) | (intro e; subst e) | intro _)
          exact again hK4 ⟨(j + 1, mput ka (O.getD j 0) (0 + 1)), by omega, ha2⟩
        · obtain rfl : j = O.length := by omega
          rw [List.take_length] at hA
          repeat' (first | refine stp ?_ | refine And.intro ?_ ?_ | (intro e; exfalso; omega) | (intro e; subst e) | intro _)
          exact again hK3 ⟨(1, ka), by omega, hA⟩
      · repeat' (first | refine stp ?_ | refine And.intro ?_ ?_ | (intro e; exfalso; omega) | (intro e; subst e) | intro _)
        refine tc_lp (ι := {w : Nat × List (Nat × Int) // w.1 ≤ E.length ∧ MS (1 : Int) w.2 (O ++ E.take w.1)}) [218] (fun e w => (218, .int .i64 (w.1.1 : Nat)) :: e)
          (fun w => [MapA .u32 (fun z : Int => .int .i64 z) ba w.1.2, Vec 23 1 (some ⟨bs, 0, none⟩) 4 4 [.slice w1 O.length w2, .slice x1 E.length x2, .slice y1 A.length y2, .slice u1 B.length u2], Vec 31 1 w1 O.length w2 (u32s O), Vec 31 1 x1 E.length x2 (u32s E), Vec 31 1 y1 A.length y2 (u32s A), Vec 31 1 u1 B.length u2 (u32s B), ArcAt p size O E A B t, MapA .u32 (fun b : Bool => .bool b) bt kt, obj b9 73 [.int .i64 (Z i).1, .int .u32 ((Z i).2 : Nat)], RoS 2 a n cap (rows n fun i => [.int .i64 (Z i).1, .int .u32 ((Z i).2 : Nat)]), F]) (fun w => E.length - w.1.1) ⟨(0, ka), by omega, by simpa [preA] using hA⟩ ?_
        rintro K4 ⟨⟨j, ka⟩, hj, hA⟩ hK4
        dsimp only at hj hA ⊢
        by_cases hjl : j < E.length
        · have hm := getD_mem hjl
          obtain ⟨ha1, ha2⟩ := all_step hA (nd4.sublist (by simp only [List.append_assoc]; exact List.Sublist.append_left (List.sublist_append_left _ _) _)) hjl
          have hp : mget (mput ka (E.getD j 0) (0 + 1)) (E.getD j 0) = some ((0 : Int) + 1) := by rw [mget_put, if_pos rfl]
          have mt := hS.yes (List.mem_append.2 (.inr hm))
          have hh : HasA O E (E.getD j 0) true := ⟨decide_eq_true (.inr hm)⟩
          repeat' (first | refine stp ?_ | refine And.intro ?_ ?_ | (intro e; exfalso; omega) | (intro e; subst e) | intro _)
          exact again hK4 ⟨(j + 1, mput ka (E.getD j 0) (0 + 1)), by omega, ha2⟩
        · obtain rfl : j = E.length := by omega
          rw [List.take_length] at hA
          repeat' (first | refine stp ?_ | refine And.intro ?_ ?_ | (intro e; exfalso; omega) | (intro e; subst e) | intro _)
          exact again hK3 ⟨(2, ka), by omega, hA⟩
      · repeat' (first | refine stp ?_ | refine And.intro ?_ ?_ | (intro e; exfalso; omega) | (intro e; subst e) | intro _)
        refine tc_lp (ι := {w : Nat × List (Nat × Int) // w.1 ≤ A.length ∧ MS (1 : Int) w.2 (O ++ E ++ A.take w.1)}) [218] (fun e w => (218, .int .i64 (w.1.1 : Nat)) :: e)
          (fun w => [MapA .u32 (fun z : Int => .int .i64 z) ba w.1.2, Vec 23 1 (some ⟨bs, 0, none⟩) 4 4 [.slice w1 O.length w2, .slice x1 E.length x2, .slice y1 A.length y2, .slice u1 B.length u2], Vec 31 1 w1 O.length w2 (u32s O), Vec 31 1 x1 E.length x2 (u32s E), Vec 31 1 y1 A.length y2 (u32s A), Vec 31 1 u1 B.length u2 (u32s B), ArcAt p size O E A B t, MapA .u32 (fun b : Bool => .bool b) bt kt, obj b9 73 [.int .i64 (Z i).1, .int .u32 ((Z i).2 : Nat)], RoS 2 a n cap (rows n fun i => [.int .i64 (Z i).1, .int .u32 ((Z i).2 : Nat)]), F]) (fun w => A.length - w.1.1) ⟨(0, ka), by omega, by simpa [preA] using hA⟩ ?_
        rintro K4 ⟨⟨j, ka⟩, hj, hA⟩ hK4
        dsimp only at hj hA ⊢
        by_cases hjl : j < A.length
        · have hm := getD_mem hjl
          obtain ⟨ha1, ha2⟩ := all_step hA (nd4.sublist (List.sublist_append_left _ _)) hjl
          have hp : mget (mput ka (A.getD j 0) (0 + 1)) (A.getD j 0) = some ((0 : Int) + 1) := by rw [mget_put, if_pos rfl]
          have hno : A.getD j 0 ∉ O ∧ A.getD j 0 ∉ E := ⟨fun h => (n1 _ h).2.1 hm, fun h => (n2 _ h).1 hm⟩
          have mt := hS.no (fun h => (List.mem_append.1 h).elim hno.1 hno.2)
          have hh : HasA O E (A.getD j 0) false := ⟨decide_eq_false (fun h => h.elim hno.1 hno.2)⟩
          repeat' (first | refine stp ?_ | refine And.intro ?_ ?_ | (intro e; exfalso; omega) | (intro e; subst e) | intro _)
          exact again hK4 ⟨(j + 1, mput ka (A.getD j 0) (0 + 1)), by omega, ha2⟩
        · obtain rfl : j = A.length := by omega
          rw [List.take_length] at hA
          repeat' (first | refine stp ?_ | refine And.intro ?_ ?_ | (intro e; exfalso; omega) | (intro e; subst e) | intro _)
          exact again hK3 ⟨(3, ka), by omega, hA⟩
      · repeat' (first | refine stp ?_ | refine And.intro ?_ ?_ | (intro e; exfalso; omega) | (intro e; subst e) | intro _)
        refine tc_lp (ι := {w : Nat × List (Nat × Int) // w.1 ≤ B.length ∧ MS (1 : Int) w.2 ((O ++ E) ++ A ++ B.take w.1)}) [218] (fun e w => (218, .int .i64 (w.1.1 : Nat)) :: e)
          (fun w => [MapA .u32 (fun z : Int => .int .i64 z) ba w.1.2, Vec 23 1 (some ⟨bs, 0, none⟩) 4 4 [.slice w1 O.length w2, .slice x1 E.length x2, .slice y1 A.length y2, .slice u1 B.length u2], Vec 31 1 w1 O.length w2 (u32s O), Vec 31 1 x1 E.length x2 (u32s E), Vec 31 1 y1 A.length y2 (u32s A), Vec 31 1 u1 B.length u2 (u32s B), ArcAt p size O E A B t, MapA .u32 (fun b : Bool => .bool b) bt kt, obj b9 73 [.int .i64 (Z i).1, .int .u32 ((Z i).2 : Nat)], RoS 2 a n cap (rows n fun i => [.int .i64 (Z i).1, .int .u32 ((Z i).2 : Nat)]), F]) (fun w => B.length - w.1.1) ⟨(0, ka), by omega, by simpa [preA] using hA⟩ ?_
        rintro K4 ⟨⟨j, ka⟩, hj, hA⟩ hK4
        dsimp only at hj hA ⊢
        by_cases hjl : j < B.length
        · have hm := getD_mem hjl
          obtain ⟨ha1, ha2⟩ := all_step hA nd4 hjl
          have hp : mget (mput ka (B.getD j 0) (0 + 1)) (B.getD j 0) = some ((0 : Int) + 1) := by rw [mget_put, if_pos rfl]
          have hno : B.getD j 0 ∉ O ∧ B.getD j 0 ∉ E := ⟨fun h => (n1 _ h).2.2 hm, fun h => (n2 _ h).2 hm⟩
          have mt := hS.no (fun h => (List.mem_append.1 h).elim hno.1 hno.2)
          have hh : HasA O E (B.getD j 0) false := ⟨decide_eq_false (fun h => h.elim hno.1 hno.2)⟩
          repeat' (first | refine stp ?_ | refine And.intro ?_ ?_ | (intro e; exfalso; omega) | (intro e; subst e) | intro _)
          exact again hK4 ⟨(j + 1, mput ka (B.getD j 0) (0 + 1)), by omega, ha2⟩
        · obtain rfl : j = B.length := by omega
          rw [List.take_length] at hA
          repeat' (first | refine stp ?_ | refine And.intro ?_ ?_ | (intro e; exfalso; omega) | (intro e; subst e) | intro _)
          exact again hK3 ⟨(4, ka), by omega, hA⟩
      · repeat' (first | refine stp ?_ | refine And.intro ?_ ?_ | (intro e; exfalso; omega) | (intro e; subst e) | intro _)
        exact again hK ⟨(i + 1, ⟨O, E, A, B, t⟩, kt), by omega, hS⟩
  · repeat' (first | refine stp ?_ | refine And.intro ?_ ?_ | (intro e; exfalso; omega) | (intro e; subst e) | intro _)
    exact rt1 () rfl
end Go.Proofs.Ytcgdkcdlglbigaa
