/- The laws of twoq, walked: THE THEOREM OF STAGE 32. -/
import Derived.Test.YtcgdkcdlglbigaaTqL7
import Derived.Test.YtcgdkcdlglbigaaTqHold
import Derived.Test.YtcgdkcdlglbigaaSlMapN
namespace Go.Tq
/-- The results of a request. -/
structure UseV (size most : Nat) (Q M G : List Nat) (k : Nat) (h b : Bool) (o : Nat) : Prop where
  h : useH ⟨Q, M, G⟩ k = h
  b : useL size ⟨Q, M, G⟩ k = b
  o : useO size most ⟨Q, M, G⟩ k = o
/-- What comes ahead of a list. -/
def preL (Q M G : List Nat) : Nat → List Nat
  | 0 => []
  | 1 => Q
  | 2 => Q ++ M
  | _ => (Q ++ M) ++ G
end Go.Tq
namespace Go.Proofs.Ytcgdkcdlglbigaa
open Go.Lk Go.Sl Go.Gh Go.Tb Go.Tq
attribute [local irreducible] TK TL TC Th Bk Nx fnPost WA TQ OpQ OpN SpecH Rd Ent IterH RoundH Rb Rp fnPostM
attribute [local irreducible] Gh.addL Gh.addV Gh.addB Tq.useS Tq.useL Tq.useO Tq.useH Tq.roomS Tq.roomB Tq.roomO
theorem tq_useV : Known Try.prog 16 (∀ (p size most gm : Nat) (Q M G : List Nat) (xk : Int) (k : Nat) [NatI xk k] (h b : Bool) (o : Nat), UseV size most Q M G k h b o → k < 4294967296 → SpecH Try.prog 16 #[.pointer (some ⟨p, 0, none⟩), .int .u32 xk] [TwoqAt p size most gm Q M G] (fun _ : Unit => .tuple #[.agg #[.bool h, .bool b, .int .u32 (o : Nat)], .int .i64 0]) (fun _ => [TwoqAt p size most gm (useS size most gm ⟨Q, M, G⟩ k).Q (useS size most gm ⟨Q, M, G⟩ k).M (useS size most gm ⟨Q, M, G⟩ k).G])) := ⟨fun p size most gm Q M G xk k _ h b o u hk => by
  have t := tq_use.out p size most gm Q M G xk k hk
  rwa [u.h, u.b, u.o] at t⟩
theorem tq_dropB : Known Try.prog 21 (∀ (p size most gm : Nat) (Q M G : List Nat) (xk : Int) (k : Nat) [NatI xk k] (b : Bool), HasB Q M k b → SpecH Try.prog 21 #[.pointer (some ⟨p, 0, none⟩), .int .u32 xk] [TwoqAt p size most gm Q M G] (fun _ : Unit => .tuple #[.bool b, .int .i64 0]) (fun _ => [TwoqAt p size most gm (Q.erase k) (M.erase k) G])) := ⟨fun p size most gm Q M G xk k _ b u => by
  have h := tq_drop.out p size most gm Q M G xk k
  rwa [u.out] at h⟩
/-- A state of the cache and of the maps. -/
structure HS (Q M G : List Nat) (kt km : List (Nat × Bool)) : Prop where
  dj : DJ Q M G
  t : MS true kt (Q ++ M)
  m : MS true km M
theorem HS.drop {size gm k : Nat} {Q M G : List Nat} {kt km : List (Nat × Bool)} (h : HS Q M G kt km) (ok : Ok size gm ⟨Q, M, G⟩) : HS (Q.erase k) (M.erase k) G (mdel kt k) (mdel km k) := by
  have e1 : ∀ x, x ∈ Q.erase k ↔ x ≠ k ∧ x ∈ Q := fun x => ok.qn.mem_erase_iff
  have e2 : ∀ x, x ∈ M.erase k ↔ x ≠ k ∧ x ∈ M := fun x => ok.mn.mem_erase_iff
  refine ⟨fun x hx => ⟨fun h1 => (h.dj x hx).1 ((e1 x).1 h1).2, fun h1 => (h.dj x hx).2 ((e2 x).1 h1).2⟩, h.t.del fun x => ?_, h.m.del e2⟩
  rw [List.mem_append, List.mem_append, e1, e2]
  constructor
  · rintro (⟨a, b⟩ | ⟨a, b⟩)
    · exact ⟨a, .inl b⟩
    · exact ⟨a, .inr b⟩
  · rintro ⟨a, b | b⟩
    · exact .inl ⟨a, b⟩
    · exact .inr ⟨a, b⟩
set_option maxHeartbeats 16000000 in
theorem tql_holds (x y z : Int) (a : Option Addr) (n cap : Nat) (Z : Nat → Int × Nat) (hZ : ∀ i, i < n → (Z i).2 < 4294967296) : SpecH Try.prog 4 #[.int .i64 x, .int .i64 y, .int .i64 z, .slice a n cap] [RoS 2 a n cap (rows n fun i => [.int .i64 (Z i).1, .int .u32 ((Z i).2 : Nat)])] (fun _ : Unit => .bool true) (fun _ => []) := by
  by_cases hb : x < 1 ∨ 1024 < x ∨ y < 1 ∨ x < y ∨ z < 0 ∨ 1024 < z
  · refine spec_of Try.func4 rfl Try.ntmps4 rfl [(0, _), (1, _), (2, _), (3, _)] rfl ?_; intro base F l0 hl0; (try simp only [List.cons_append] at hl0); (try simp only [List.nil_append] at hl0); subst hl0
    repeat' (first | ((fail_if_success (refine atCall 14 ?_)); refine stp ?_) | refine And.intro ?_ ?_ | (intro e; exfalso; omega) | (intro e; subst e) | intro _)
    refine call (tql_made_bad x y z hb) ?_
    repeat' (first | refine stp ?_ | refine And.intro ?_ ?_ | (intro e; exfalso; omega) | (intro e; subst e) | intro _)
    all_goals exact rt1 () rfl
  by_cases h2 : 40 < x ∨ 40 < z
  · refine spec_of Try.func4 rfl Try.ntmps4 rfl [(0, _), (1, _), (2, _), (3, _)] rfl ?_; intro base F l0 hl0; (try simp only [List.cons_append] at hl0); (try simp only [List.nil_append] at hl0); subst hl0
    repeat' (first | ((fail_if_success (refine atCall 14 ?_)); refine stp ?_) | refine And.intro ?_ ?_ | (intro e; exfalso; omega) | (intro e; subst e) | intro _)
    refine call (tql_made_big x y z hb h2) ?_
    repeat' (first | refine stp ?_ | refine And.intro ?_ ?_ | (intro e; exfalso; omega) | (intro e; subst e) | intro _)
    all_goals exact rt1 () rfl
  obtain ⟨size, rfl⟩ : ∃ N : Nat, x = N := ⟨x.toNat, by omega⟩
  obtain ⟨most, rfl⟩ : ∃ N : Nat, y = N := ⟨y.toNat, by omega⟩
  obtain ⟨gm, rfl⟩ : ∃ N : Nat, z = N := ⟨z.toNat, by omega⟩
  by_cases hn : 120 < n
  · refine spec_of Try.func4 rfl Try.ntmps4 rfl [(0, _), (1, _), (2, _), (3, _)] rfl ?_; intro base F l0 hl0; (try simp only [List.cons_append] at hl0); (try simp only [List.nil_append] at hl0); subst hl0
    repeat' (first | refine stp ?_ | refine And.intro ?_ ?_ | (intro e; exfalso; omega) | (intro e; subst e) | intro _)
    all_goals exact rt1 () rfl
  have c1 : 1 ≤ size ∧ size ≤ 40 ∧ 1 ≤ most ∧ most ≤ size ∧ gm ≤ 40 := by omega
  clear hb h2
  refine spec_of Try.func4 rfl Try.ntmps4 rfl [(0, _), (1, _), (2, _), (3, _)] rfl ?_; intro base F l0 hl0; (try simp only [List.cons_append] at hl0); (try simp only [List.nil_append] at hl0); subst hl0
  haveI := tq_hasB
  haveI := tq_useV
  haveI := tq_dropB
  repeat' (first | refine stp ?_ | refine And.intro ?_ ?_ | (intro e; exfalso; omega) | (intro e; subst e) | intro _)
  rename_i p b10 bt bm
  refine TC.weak (env' := [(14, .int .i64 (0 : Nat)), (13, .map (some bm)), (12, .map (some bt)), (9, .pointer (some ⟨p, 0, none⟩)), (8, .bool false), (0, .int .i64 (size : Nat)), (1, .int .i64 (most : Nat)), (2, .int .i64 (gm : Nat)), (3, .slice a n cap)]) ?_ (by (repeat (first | exact Sub.nil | (apply Sub.cons; exact rfl))); done)
  refine tc_lp (ι := {x : Nat × St × List (Nat × Bool) × List (Nat × Bool) // x.1 ≤ n ∧ HS x.2.1.Q x.2.1.M x.2.1.G x.2.2.1 x.2.2.2}) [14] (fun e x => (14, .int .i64 (x.1.1 : Nat)) :: e)
    (fun x => [TwoqAt p size most gm x.1.2.1.Q x.1.2.1.M x.1.2.1.G, MapA .u32 (fun b : Bool => .bool b) bt x.1.2.2.1, MapA .u32 (fun b : Bool => .bool b) bm x.1.2.2.2, obj b10 27 [.int .i64 (size : Nat), .int .i64 (most : Nat), .slice none 0 0, .slice none 0 0, .int .i64 (gm : Nat), .slice none 0 0], RoS 2 a n cap (rows n fun i => [.int .i64 (Z i).1, .int .u32 ((Z i).2 : Nat)]), F]) (fun x => n - x.1.1) ⟨(0, ⟨[], [], []⟩, [], []), by omega, fun x h => (by cases h), MS.nil, MS.nil⟩ ?_
  rintro K ⟨⟨i, ⟨Q, M, G⟩, kt, km⟩, hi, hS⟩ hK
  dsimp only at hi hS ⊢
  by_cases hc : i < n
  · have hk := hZ i hc
    refine TwoqAt.factsC fun ok s1 s2 s3 s4 => ?_
    have hlen := ok.len
    have hgl := ok.gl
    have hnd : (Q ++ M).Nodup := List.nodup_append.2 ⟨ok.qn, ok.mn, fun x hx y hy e => ok.dj x hx (e ▸ hy)⟩
    dsimp only at hlen hgl
    have hktl := hS.t.len hnd
    rw [List.length_append] at hktl
    repeat' (first | ((fail_if_success (refine atBlk 2 ?_)); refine stp ?_) | refine And.intro ?_ ?_ | (intro e; exfalso; omega) | (intro e; subst e) | intro _)
    rename_i b15
    refine cut (ι := {y : St × List (Nat × Bool) × List (Nat × Bool) // HS y.1.Q y.1.M y.1.G y.2.1 y.2.2}) (fun y => [(14, .int .i64 (i : Nat)), (15, .pointer (some ⟨b15, 0, none⟩)), (13, .map (some bm)), (12, .map (some bt)), (9, .pointer (some ⟨p, 0, none⟩)), (8, .bool false), (0, .int .i64 (size : Nat)), (1, .int .i64 (most : Nat)), (2, .int .i64 (gm : Nat)), (3, .slice a n cap)])
      (fun y => [obj b15 46 [.int .i64 (Z i).1, .int .u32 ((Z i).2 : Nat)], TwoqAt p size most gm y.1.1.Q y.1.1.M y.1.1.G, MapA .u32 (fun b : Bool => .bool b) bt y.1.2.1, MapA .u32 (fun b : Bool => .bool b) bm y.1.2.2, obj b10 27 [.int .i64 (size : Nat), .int .i64 (most : Nat), .slice none 0 0, .slice none 0 0, .int .i64 (gm : Nat), .slice none 0 0], RoS 2 a n cap (rows n fun i => [.int .i64 (Z i).1, .int .u32 ((Z i).2 : Nat)]), F]) ?_ ?_
    · intro K hK2
      by_cases h0 : (Z i).1 = 0
      · by_cases hin : (Z i).2 ∈ Q ∨ (Z i).2 ∈ M
        · obtain ⟨u1, u2, u3⟩ := use_hit (size := size) (most := most) (gm := gm) ok hS.dj hin
          obtain ⟨e1, e2, e3⟩ := hit_t (size := size) (most := most) (G := G) hin
          have hu : UseV size most Q M G (Z i).2 true false 0 := ⟨e1, e2, e3⟩
          have mt := hS.t.yes (List.mem_append.2 hin)
          have hGn : ∀ j, j < G.length → G.getD j 0 ≠ (Z i).2 := fun j hj e => (hin.elim (hS.dj _ (e ▸ getD_mem hj)).1 (hS.dj _ (e ▸ getD_mem hj)).2)
          repeat' (first | refine stp ?_ | refine And.intro ?_ ?_ | (intro e; exfalso; omega) | (intro e; subst e) | intro _)
          refine tc_lp (ι := {j : Nat // j ≤ G.length}) [21] (fun e j => (21, .int .i64 (j.1 : Nat)) :: e) (fun _ => _) (fun j => G.length - j.1) ⟨0, by omega⟩ ?_ (hl := Ent.refl _)
          rintro K3 ⟨j, hj⟩ hK3
          dsimp only
          by_cases hjl : j < G.length
          · have hne := hGn j hjl
            repeat' (first | ((fail_if_success (refine atD ?_)); refine stp ?_) | refine And.intro ?_ ?_ | (intro e; exfalso; omega) | (intro e; subst e) | intro _)
            refine tail 6 ?_
            repeat' (first | refine stp ?_ | refine And.intro ?_ ?_ | (intro e; exfalso; omega) | (intro e; subst e) | intro _)
            exact again hK3 ⟨j + 1, by omega⟩
          · obtain rfl : j = G.length := by omega
            repeat' (first | refine stp ?_ | refine And.intro ?_ ?_ | (intro e; exfalso; omega) | (intro e; subst e) | intro _)
            exact fin hK2 ⟨(useS size most gm ⟨Q, M, G⟩ (Z i).2, mput kt (Z i).2 true, km), u3, hS.t.put fun x => by
              rw [List.mem_append, List.mem_append, u1 x]
              exact ⟨.inr, fun h => h.elim (fun e => e ▸ hin) id⟩, hS.m.congr u2⟩
        · have hin1 : (Z i).2 ∉ Q := fun h => hin (.inl h)
          have hin2 : (Z i).2 ∉ M := fun h => hin (.inr h)
          obtain ⟨full, o, e1, e2, e3, f1, f2, um⟩ := use_mem (most := most) ok s1 hS.dj hin1 hin2
          have hu : UseV size most Q M G (Z i).2 false full o := ⟨e1, e2, e3⟩
          have mt := hS.t.no (fun h => hin (List.mem_append.1 h))
          rcases Bool.eq_false_or_eq_true full with hf | hf
          · obtain rfl : full = true := hf
            have ho := um.ou rfl
            have mo := hS.t.yes (List.mem_append.2 ho)
            have hsz := f1 rfl
            have hT1 : MS true (mdel kt o) ((Q ++ M).filter fun x => x != o) := hS.t.del fun x => by rw [List.mem_filter, bne_iff_ne, and_comm]
            have hM1 : MS true (mdel km o) (M.filter fun x => x != o) := hS.m.del fun x => by rw [List.mem_filter, bne_iff_ne, and_comm]
            repeat' (first | refine stp ?_ | refine And.intro ?_ ?_ | (intro e; exfalso; omega) | (intro e; subst e) | intro _)
            rename_i xa xb b19
            refine tc_lp (ι := {w : Nat × List (Nat × Bool) // w.1 ≤ G.length ∧ MS true w.2 (if (Z i).2 ∈ G.take w.1 then (Z i).2 :: (M.filter fun x => x != o) else (M.filter fun x => x != o))}) [21] (fun e w => (21, .int .i64 (w.1.1 : Nat)) :: e)
              (fun w => [MapA .u32 (fun b : Bool => .bool b) bm w.1.2, Vec 31 1 xb.2.1 G.length xb.2.2 (u32s G), obj b15 46 [.int .i64 (Z i).1, .int .u32 ((Z i).2 : Nat)], TwoqAt p size most gm (useS size most gm ⟨Q, M, G⟩ (Z i).2).Q (useS size most gm ⟨Q, M, G⟩ (Z i).2).M (useS size most gm ⟨Q, M, G⟩ (Z i).2).G, MapA .u32 (fun b : Bool => .bool b) bt (mdel kt o), obj b10 27 [.int .i64 (size : Nat), .int .i64 (most : Nat), .slice none 0 0, .slice none 0 0, .int .i64 (gm : Nat), .slice none 0 0], RoS 2 a n cap (rows n fun i => [.int .i64 (Z i).1, .int .u32 ((Z i).2 : Nat)]), F]) (fun w => G.length - w.1.1) ⟨(0, (mdel km o)), by omega, by simpa using hM1⟩ ?_
            rintro K3 ⟨⟨j, kw⟩, hj, hw⟩ hK3
            dsimp only at hj hw ⊢
            by_cases hjl : j < G.length
            · by_cases he : G.getD j 0 = (Z i).2
              · have hst := step_eq hw hjl he
                repeat' (first | ((fail_if_success (refine atD ?_)); refine stp ?_) | refine And.intro ?_ ?_ | (intro e; exfalso; omega) | (intro e; subst e) | intro _)
                refine tail 6 ?_
                repeat' (first | refine stp ?_ | refine And.intro ?_ ?_ | (intro e; exfalso; omega) | (intro e; subst e) | intro _)
                exact again hK3 ⟨(j + 1, mput kw (Z i).2 true), by omega, hst⟩
              · have hst := step_ne hw hjl he
                repeat' (first | ((fail_if_success (refine atD ?_)); refine stp ?_) | refine And.intro ?_ ?_ | (intro e; exfalso; omega) | (intro e; subst e) | intro _)
                refine tail 6 ?_
                repeat' (first | refine stp ?_ | refine And.intro ?_ ?_ | (intro e; exfalso; omega) | (intro e; subst e) | intro _)
                exact again hK3 ⟨(j + 1, kw), by omega, hst⟩
            · obtain rfl : j = G.length := by omega
              rw [List.take_length] at hw
              repeat' (first | refine stp ?_ | refine And.intro ?_ ?_ | (intro e; exfalso; omega) | (intro e; subst e) | intro _)
              exact fin hK2 ⟨(useS size most gm ⟨Q, M, G⟩ (Z i).2, mput (mdel kt o) (Z i).2 true, kw), um.dj, hT1.put fun x => by
                rw [List.mem_append, um.all x, List.mem_filter, bne_iff_ne, List.mem_append]
                simp [and_comm], hw.congr fun x => by
                rw [um.main x]
                by_cases hkg : (Z i).2 ∈ G
                · rw [if_pos hkg]; simp [hkg, and_comm]
                · rw [if_neg hkg]; simp [hkg, and_comm]⟩
          · obtain rfl : full = false := hf
            obtain rfl : o = 0 := f2 rfl
            repeat' (first | refine stp ?_ | refine And.intro ?_ ?_ | (intro e; exfalso; omega) | (intro e; subst e) | intro _)
            rename_i xa xb b19
            refine tc_lp (ι := {w : Nat × List (Nat × Bool) // w.1 ≤ G.length ∧ MS true w.2 (if (Z i).2 ∈ G.take w.1 then (Z i).2 :: M else M)}) [21] (fun e w => (21, .int .i64 (w.1.1 : Nat)) :: e)
              (fun w => [MapA .u32 (fun b : Bool => .bool b) bm w.1.2, Vec 31 1 xb.2.1 G.length xb.2.2 (u32s G), obj b15 46 [.int .i64 (Z i).1, .int .u32 ((Z i).2 : Nat)], TwoqAt p size most gm (useS size most gm ⟨Q, M, G⟩ (Z i).2).Q (useS size most gm ⟨Q, M, G⟩ (Z i).2).M (useS size most gm ⟨Q, M, G⟩ (Z i).2).G, MapA .u32 (fun b : Bool => .bool b) bt kt, obj b10 27 [.int .i64 (size : Nat), .int .i64 (most : Nat), .slice none 0 0, .slice none 0 0, .int .i64 (gm : Nat), .slice none 0 0], RoS 2 a n cap (rows n fun i => [.int .i64 (Z i).1, .int .u32 ((Z i).2 : Nat)]), F]) (fun w => G.length - w.1.1) ⟨(0, km), by omega, by simpa using hS.m⟩ ?_
            rintro K3 ⟨⟨j, kw⟩, hj, hw⟩ hK3
            dsimp only at hj hw ⊢
            by_cases hjl : j < G.length
            · by_cases he : G.getD j 0 = (Z i).2
              · have hst := step_eq hw hjl he
                repeat' (first | ((fail_if_success (refine atD ?_)); refine stp ?_) | refine And.intro ?_ ?_ | (intro e; exfalso; omega) | (intro e; subst e) | intro _)
                refine tail 6 ?_
                repeat' (first | refine stp ?_ | refine And.intro ?_ ?_ | (intro e; exfalso; omega) | (intro e; subst e) | intro _)
                exact again hK3 ⟨(j + 1, mput kw (Z i).2 true), by omega, hst⟩
              · have hst := step_ne hw hjl he
                repeat' (first | ((fail_if_success (refine atD ?_)); refine stp ?_) | refine And.intro ?_ ?_ | (intro e; exfalso; omega) | (intro e; subst e) | intro _)
                refine tail 6 ?_
                repeat' (first | refine stp ?_ | refine And.intro ?_ ?_ | (intro e; exfalso; omega) | (intro e; subst e) | intro _)
                exact again hK3 ⟨(j + 1, kw), by omega, hst⟩
            · obtain rfl : j = G.length := by omega
              rw [List.take_length] at hw
              repeat' (first | refine stp ?_ | refine And.intro ?_ ?_ | (intro e; exfalso; omega) | (intro e; subst e) | intro _)
              exact fin hK2 ⟨(useS size most gm ⟨Q, M, G⟩ (Z i).2, mput kt (Z i).2 true, kw), um.dj, hS.t.put fun x => by
                rw [List.mem_append, um.all x]
                simp, hw.congr fun x => by
                rw [um.main x]
                by_cases hkg : (Z i).2 ∈ G
                · rw [if_pos hkg]; simp [hkg, and_comm]
                · rw [if_neg hkg]; simp [hkg, and_comm]⟩
      by_cases h1 : (Z i).1 = 1
      · by_cases hin : (Z i).2 ∈ Q ∨ (Z i).2 ∈ M
        · have hh : HasB Q M (Z i).2 true := ⟨decide_eq_true hin⟩
          have mt := hS.t.yes (List.mem_append.2 hin)
          repeat' (first | refine stp ?_ | refine And.intro ?_ ?_ | (intro e; exfalso; omega) | (intro e; subst e) | intro _)
          exact fin hK2 ⟨(⟨Q.erase (Z i).2, M.erase (Z i).2, G⟩, mdel kt (Z i).2, mdel km (Z i).2), hS.drop ok⟩
        · have hh : HasB Q M (Z i).2 false := ⟨decide_eq_false hin⟩
          have mt := hS.t.no (fun h => hin (List.mem_append.1 h))
          repeat' (first | refine stp ?_ | refine And.intro ?_ ?_ | (intro e; exfalso; omega) | (intro e; subst e) | intro _)
          exact fin hK2 ⟨(⟨Q.erase (Z i).2, M.erase (Z i).2, G⟩, mdel kt (Z i).2, mdel km (Z i).2), hS.drop ok⟩
      · repeat' (first | refine stp ?_ | refine And.intro ?_ ?_ | (intro e; exfalso; omega) | (intro e; subst e) | intro _)
        exact fin hK2 ⟨(⟨Q, M, G⟩, kt, km), hS⟩
    · rintro ⟨⟨⟨Q, M, G⟩, kt, km⟩, hS⟩
      dsimp only at hS ⊢
      refine TwoqAt.facts fun ok _ _ _ _ => ?_
      have hlen := ok.len
      have hgl := ok.gl
      have hnd : (Q ++ M).Nodup := List.nodup_append.2 ⟨ok.qn, ok.mn, fun x hx y hy e => ok.dj x hx (e ▸ hy)⟩
      have hnd3 : ((Q ++ M) ++ G).Nodup := List.nodup_append.2 ⟨hnd, ok.gn, fun x hx y hy e => (List.mem_append.1 hx).elim (fun h => (hS.dj y hy).1 (e ▸ h)) (fun h => (hS.dj y hy).2 (e ▸ h))⟩
      dsimp only at hlen hgl
      have hktl := hS.t.len hnd
      have hkml := hS.m.len ok.mn
      rw [List.length_append] at hktl
      repeat' (first | refine stp ?_ | refine And.intro ?_ ?_ | (intro e; exfalso; omega) | (intro e; subst e) | intro _)
      rename_i xa xb ba bs
      refine tc_lp (ι := {w : Nat × List (Nat × Int) // w.1 ≤ 3 ∧ MS (1 : Int) w.2 (preL Q M G w.1)}) [219] (fun e w => (219, .int .i64 (w.1.1 : Nat)) :: e)
        (fun w => [MapA .u32 (fun z : Int => .int .i64 z) ba w.1.2, Vec 23 1 (some ⟨bs, 0, none⟩) 3 3 [.slice xa.1 Q.length xa.2, .slice xb.1.1 M.length xb.1.2, .slice xb.2.1 G.length xb.2.2], Vec 31 1 xa.1 Q.length xa.2 (u32s Q), Vec 31 1 xb.1.1 M.length xb.1.2 (u32s M), Vec 31 1 xb.2.1 G.length xb.2.2 (u32s G), TwoqAt p size most gm Q M G, MapA .u32 (fun b : Bool => .bool b) bt kt, MapA .u32 (fun b : Bool => .bool b) bm km, obj b15 46 [.int .i64 (Z i).1, .int .u32 ((Z i).2 : Nat)], obj b10 27 [.int .i64 (size : Nat), .int .i64 (most : Nat), .slice none 0 0, .slice none 0 0, .int .i64 (gm : Nat), .slice none 0 0], RoS 2 a n cap (rows n fun i => [.int .i64 (Z i).1, .int .u32 ((Z i).2 : Nat)]), F]) (fun w => 3 - w.1.1) ⟨(0, []), by omega, MS.nil⟩ ?_
      rintro K3 ⟨⟨u, ka⟩, hu, hA⟩ hK3
      dsimp only at hu hA ⊢
      obtain rfl | rfl | rfl | rfl : u = 0 ∨ u = 1 ∨ u = 2 ∨ u = 3 := by omega
      · repeat' (first | refine stp ?_ | refine And.intro ?_ ?_ | (intro e; exfalso; omega) | (intro e; subst e) | intro _)
        refine tc_lp (ι := {w : Nat × List (Nat × Int) // w.1 ≤ Q.length ∧ MS (1 : Int) w.2 ([] ++ Q.take w.1)}) [226] (fun e w => (226, .int .i64 (w.1.1 : Nat)) :: e)
          (fun w => [MapA .u32 (fun z : Int => .int .i64 z) ba w.1.2, Vec 23 1 (some ⟨bs, 0, none⟩) 3 3 [.slice xa.1 Q.length xa.2, .slice xb.1.1 M.length xb.1.2, .slice xb.2.1 G.length xb.2.2], Vec 31 1 xa.1 Q.length xa.2 (u32s Q), Vec 31 1 xb.1.1 M.length xb.1.2 (u32s M), Vec 31 1 xb.2.1 G.length xb.2.2 (u32s G), TwoqAt p size most gm Q M G, MapA .u32 (fun b : Bool => .bool b) bt kt, MapA .u32 (fun b : Bool => .bool b) bm km, obj b15 46 [.int .i64 (Z i).1, .int .u32 ((Z i).2 : Nat)], obj b10 27 [.int .i64 (size : Nat), .int .i64 (most : Nat), .slice none 0 0, .slice none 0 0, .int .i64 (gm : Nat), .slice none 0 0], RoS 2 a n cap (rows n fun i => [.int .i64 (Z i).1, .int .u32 ((Z i).2 : Nat)]), F]) (fun w => Q.length - w.1.1) ⟨(0, ka), by omega, by simpa [preL] using hA⟩ ?_
        rintro K4 ⟨⟨j, ka⟩, hj, hA⟩ hK4
        dsimp only at hj hA ⊢
        by_cases hjl : j < Q.length
        · have hm := getD_mem hjl
          obtain ⟨ha1, ha2⟩ := all_step hA (hnd.sublist (List.sublist_append_left _ _)) hjl
          have hp : mget (mput ka (Q.getD j 0) (0 + 1)) (Q.getD j 0) = some ((0 : Int) + 1) := by rw [mget_put, if_pos rfl]
          have mt := hS.t.yes (List.mem_append.2 (.inl hm))
          have hh : HasB Q M (Q.getD j 0) true := ⟨decide_eq_true (.inl hm)⟩
          have mm := hS.m.no (ok.dj _ hm)
          repeat' (first | refine stp ?_ | refine And.intro ?_ ?_ | (intro e; exfalso; omega) | (intro e; subst e) | intro _)
          exact again hK4 ⟨(j + 1, mput ka (Q.getD j 0) (0 + 1)), by omega, ha2⟩
        · obtain rfl : j = Q.length := by omega
          rw [List.take_length] at hA
          repeat' (first | refine stp ?_ | refine And.intro ?_ ?_ | (intro e; exfalso; omega) | (intro e; subst e) | intro _)
          exact again hK3 ⟨(1, ka), by omega, hA⟩
      · repeat' (first | refine stp ?_ | refine And.intro ?_ ?_ | (intro e; exfalso; omega) | (intro e; subst e) | intro _)
        refine tc_lp (ι := {w : Nat × List (Nat × Int) // w.1 ≤ M.length ∧ MS (1 : Int) w.2 (Q ++ M.take w.1)}) [226] (fun e w => (226, .int .i64 (w.1.1 : Nat)) :: e)
          (fun w => [MapA .u32 (fun z : Int => .int .i64 z) ba w.1.2, Vec 23 1 (some ⟨bs, 0, none⟩) 3 3 [.slice xa.1 Q.length xa.2, .slice xb.1.1 M.length xb.1.2, .slice xb.2.1 G.length xb.2.2], Vec 31 1 xa.1 Q.length xa.2 (u32s Q), Vec 31 1 xb.1.1 M.length xb.1.2 (u32s M), Vec 31 1 xb.2.1 G.length xb.2.2 (u32s G), TwoqAt p size most gm Q M G, MapA .u32 (fun b : Bool => .bool b) bt kt, MapA .u32 (fun b : Bool => .bool b) bm km, obj b15 46 [.int .i64 (Z i).1, .int .u32 ((Z i).2 : Nat)], obj b10 27 [.int .i64 (size : Nat), .int .i64 (most : Nat), .slice none 0 0, .slice none 0 0, .int .i64 (gm : Nat), .slice none 0 0], RoS 2 a n cap (rows n fun i => [.int .i64 (Z i).1, .int .u32 ((Z i).2 : Nat)]), F]) (fun w => M.length - w.1.1) ⟨(0, ka), by omega, by simpa [preL] using hA⟩ ?_
        rintro K4 ⟨⟨j, ka⟩, hj, hA⟩ hK4
        dsimp only at hj hA ⊢
        by_cases hjl : j < M.length
        · have hm := getD_mem hjl
          obtain ⟨ha1, ha2⟩ := all_step hA (hnd) hjl
          have hp : mget (mput ka (M.getD j 0) (0 + 1)) (M.getD j 0) = some ((0 : Int) + 1) := by rw [mget_put, if_pos rfl]
          have mt := hS.t.yes (List.mem_append.2 (.inr hm))
          have hh : HasB Q M (M.getD j 0) true := ⟨decide_eq_true (.inr hm)⟩
          have mm := hS.m.yes hm
          repeat' (first | refine stp ?_ | refine And.intro ?_ ?_ | (intro e; exfalso; omega) | (intro e; subst e) | intro _)
          exact again hK4 ⟨(j + 1, mput ka (M.getD j 0) (0 + 1)), by omega, ha2⟩
        · obtain rfl : j = M.length := by omega
          rw [List.take_length] at hA
          repeat' (first | refine stp ?_ | refine And.intro ?_ ?_ | (intro e; exfalso; omega) | (intro e; subst e) | intro _)
          exact again hK3 ⟨(2, ka), by omega, hA⟩
      · repeat' (first | refine stp ?_ | refine And.intro ?_ ?_ | (intro e; exfalso; omega) | (intro e; subst e) | intro _)
        refine tc_lp (ι := {w : Nat × List (Nat × Int) // w.1 ≤ G.length ∧ MS (1 : Int) w.2 ((Q ++ M) ++ G.take w.1)}) [226] (fun e w => (226, .int .i64 (w.1.1 : Nat)) :: e)
          (fun w => [MapA .u32 (fun z : Int => .int .i64 z) ba w.1.2, Vec 23 1 (some ⟨bs, 0, none⟩) 3 3 [.slice xa.1 Q.length xa.2, .slice xb.1.1 M.length xb.1.2, .slice xb.2.1 G.length xb.2.2], Vec 31 1 xa.1 Q.length xa.2 (u32s Q), Vec 31 1 xb.1.1 M.length xb.1.2 (u32s M), Vec 31 1 xb.2.1 G.length xb.2.2 (u32s G), TwoqAt p size most gm Q M G, MapA .u32 (fun b : Bool => .bool b) bt kt, MapA .u32 (fun b : Bool => .bool b) bm km, obj b15 46 [.int .i64 (Z i).1, .int .u32 ((Z i).2 : Nat)], obj b10 27 [.int .i64 (size : Nat), .int .i64 (most : Nat), .slice none 0 0, .slice none 0 0, .int .i64 (gm : Nat), .slice none 0 0], RoS 2 a n cap (rows n fun i => [.int .i64 (Z i).1, .int .u32 ((Z i).2 : Nat)]), F]) (fun w => G.length - w.1.1) ⟨(0, ka), by omega, by simpa [preL] using hA⟩ ?_
        rintro K4 ⟨⟨j, ka⟩, hj, hA⟩ hK4
        dsimp only at hj hA ⊢
        by_cases hjl : j < G.length
        · have hm := getD_mem hjl
          obtain ⟨ha1, ha2⟩ := all_step hA (hnd3) hjl
          have hp : mget (mput ka (G.getD j 0) (0 + 1)) (G.getD j 0) = some ((0 : Int) + 1) := by rw [mget_put, if_pos rfl]
          have mt := hS.t.no (fun h => (List.mem_append.1 h).elim (hS.dj _ hm).1 (hS.dj _ hm).2)
          have hh : HasB Q M (G.getD j 0) false := ⟨decide_eq_false (fun h => h.elim (hS.dj _ hm).1 (hS.dj _ hm).2)⟩
          have mm := hS.m.no (hS.dj _ hm).2
          repeat' (first | refine stp ?_ | refine And.intro ?_ ?_ | (intro e; exfalso; omega) | (intro e; subst e) | intro _)
          exact again hK4 ⟨(j + 1, mput ka (G.getD j 0) (0 + 1)), by omega, ha2⟩
        · obtain rfl : j = G.length := by omega
          rw [List.take_length] at hA
          repeat' (first | refine stp ?_ | refine And.intro ?_ ?_ | (intro e; exfalso; omega) | (intro e; subst e) | intro _)
          exact again hK3 ⟨(3, ka), by omega, hA⟩
      · repeat' (first | refine stp ?_ | refine And.intro ?_ ?_ | (intro e; exfalso; omega) | (intro e; subst e) | intro _)
        exact again hK ⟨(i + 1, ⟨Q, M, G⟩, kt, km), by omega, hS⟩
  · repeat' (first | refine stp ?_ | refine And.intro ?_ ?_ | (intro e; exfalso; omega) | (intro e; subst e) | intro _)
    exact rt1 () rfl
end Go.Proofs.Ytcgdkcdlglbigaa
