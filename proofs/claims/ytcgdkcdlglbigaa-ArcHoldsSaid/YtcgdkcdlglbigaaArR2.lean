/- The reference of arc, walked: requests. -/
import Derived.Test.YtcgdkcdlglbigaaArR1
import Derived.Test.YtcgdkcdlglbigaaArW3
namespace Go.Proofs.Ytcgdkcdlglbigaa
open Go.Lk Go.Sl Go.Gh Go.Tb Go.Ar
attribute [local irreducible] TK TL TC Th Bk Nx fnPost WA TQ OpQ OpN SpecH Rd Ent IterH RoundH Rb Rp fnPostM
attribute [local irreducible] Gh.addL Gh.addV Gh.addB Ar.useS Ar.roomS Ar.missS Ar.roomB Ar.roomO Ar.missB Ar.missO Ar.useL Ar.useO Ar.useH Ar.upT Ar.downT
theorem ra_new_bad (a : Int) (h : a < 1 ∨ 1024 < a) : SpecH Try.prog 36 #[.int .i64 a] [] (fun _ : Unit => .tuple #[.agg #[.int .i64 0, .slice none 0 0, .slice none 0 0, .slice none 0 0, .slice none 0 0, .int .i64 0], .int .i64 2]) (fun _ => []) := by
  refine spec_of Try.func36 rfl Try.ntmps36 rfl [(0, _)] rfl ?_; intro base F l0 hl0; (try simp only [List.cons_append] at hl0); (try simp only [List.nil_append] at hl0); subst hl0
  repeat' (first | refine stp ?_ | refine And.intro ?_ ?_ | (intro e; exfalso; omega) | (intro e; subst e) | intro _)
  all_goals exact ra2 () rfl
theorem ra_new0 (a : Int) (h1 : 1 ≤ a) (h2 : a ≤ 1024) : SpecH Try.prog 36 #[.int .i64 a] [] (fun _ : Unit => .tuple #[.agg #[.int .i64 a, .slice none 0 0, .slice none 0 0, .slice none 0 0, .slice none 0 0, .int .i64 0], .int .i64 0]) (fun _ => []) := by
  refine spec_of Try.func36 rfl Try.ntmps36 rfl [(0, _)] rfl ?_; intro base F l0 hl0; (try simp only [List.cons_append] at hl0); (try simp only [List.nil_append] at hl0); subst hl0
  repeat' (first | refine stp ?_ | refine And.intro ?_ ?_ | (intro e; exfalso; omega) | (intro e; subst e) | intro _)
  exact ra2 () rfl
instance ra_new : Known Try.prog 36 (∀ (a : Int), 1 ≤ a → a ≤ 1024 → SpecH Try.prog 36 #[.int .i64 a] [] (fun _ : Unit => .tuple #[.agg #[.int .i64 a, .slice none 0 0, .slice none 0 0, .slice none 0 0, .slice none 0 0, .int .i64 (0 : Nat)], .int .i64 0]) (fun _ => [])) := ⟨fun a h1 h2 => ra_new0 a h1 h2⟩
set_option maxHeartbeats 8000000 in
instance ra_room : Known Try.prog 107 (∀ (a1 a2 a3 a4 : Option Addr) (n1 n2 n3 n4 c1 c2 c3 c4 size t : Nat) (O E A B : List Nat) (often : Bool), n1 = O.length → n2 = E.length → n3 = A.length → n4 = B.length → O.length + E.length ≤ size → 1 ≤ size → size ≤ 1024 → n3 ≤ 2048 → n4 ≤ 2048 → (O.length = size → fromO often ⟨O, E, A, B, t⟩) → SpecH Try.prog 107 #[.agg #[.int .i64 (size : Nat), .slice a1 n1 c1, .slice a2 n2 c2, .slice a3 n3 c3, .slice a4 n4 c4, .int .i64 (t : Nat)], .bool often] [RoS 1 a1 n1 c1 (u32s O), RoS 1 a2 n2 c2 (u32s E), RoS 1 a3 n3 c3 (u32s A), RoS 1 a4 n4 c4 (u32s B)] (fun q : S4 => .tuple #[.agg #[.int .i64 (size : Nat), .slice q.1.1 (roomS size often ⟨O, E, A, B, t⟩).O.length q.1.2, .slice q.2.1.1 (roomS size often ⟨O, E, A, B, t⟩).F.length q.2.1.2, .slice q.2.2.1.1 (roomS size often ⟨O, E, A, B, t⟩).A.length q.2.2.1.2, .slice q.2.2.2.1 (roomS size often ⟨O, E, A, B, t⟩).B.length q.2.2.2.2, .int .i64 (t : Nat)], .agg #[.bool false, .bool (roomB size ⟨O, E, A, B, t⟩), .int .u32 (roomO size often ⟨O, E, A, B, t⟩ : Nat)]]) (fun q => [RoS 1 q.1.1 (roomS size often ⟨O, E, A, B, t⟩).O.length q.1.2 (u32s (roomS size often ⟨O, E, A, B, t⟩).O), RoS 1 q.2.1.1 (roomS size often ⟨O, E, A, B, t⟩).F.length q.2.1.2 (u32s (roomS size often ⟨O, E, A, B, t⟩).F), RoS 1 q.2.2.1.1 (roomS size often ⟨O, E, A, B, t⟩).A.length q.2.2.1.2 (u32s (roomS size often ⟨O, E, A, B, t⟩).A), RoS 1 q.2.2.2.1 (roomS size often ⟨O, E, A, B, t⟩).B.length q.2.2.2.2 (u32s (roomS size often ⟨O, E, A, B, t⟩).B)])) := ⟨fun a1 a2 a3 a4 n1 n2 n3 n4 c1 c2 c3 c4 size t O E A B often e1 e2 e3 e4 hlen h1 h2 hA hB hF => by
  subst e1; subst e2; subst e3; subst e4
  refine spec_of Try.func107 rfl Try.ntmps107 rfl [(0, _), (1, _)] rfl ?_; intro base F l0 hl0; (try simp only [List.cons_append] at hl0); (try simp only [List.nil_append] at hl0); subst hl0
  by_cases hr : O.length + E.length < size
  · obtain ⟨e4, e5, e6⟩ := room_no (often := often) (A := A) (B := B) (t := t) hr
    rw [e4, e5, e6]
    repeat' (first | refine stp ?_ | refine And.intro ?_ ?_ | (intro e; exfalso; omega) | (intro e; subst e) | intro _)
    rename_i b1 b2 b3
    exact raa ((a1, c1), (a2, c2), (a3, c3), a4, c4) rfl
  · by_cases hc : fromO often ⟨O, E, A, B, t⟩
    · obtain ⟨e4, e5, e6⟩ := room_o hr hc
      have hne : O ≠ [] := List.length_pos_iff.1 hc.1
      have hOl := List.length_pos_iff.2 hne
      have hdl : O.dropLast.length = O.length - 1 := List.length_dropLast
      have hcc := hc.2
      dsimp only at hcc
      rw [e4, e5, e6]
      clear hF hc
      cases often with
      | true =>
        rcases Nat.lt_or_ge t O.length with hx | hx
        · clear hcc
          repeat' (first | refine stp ?_ | refine And.intro ?_ ?_ | (intro e; exfalso; omega) | (intro e; subst e) | intro _)
          rename_i b1 b2 b3 qa qc ga gc; exact raa ((qa, qc), (a2, c2), (ga, gc), a4, c4) rfl
        · have hx2 : O.length = t := by rcases hcc with h | h; omega; exact h.1
          clear hcc
          repeat' (first | refine stp ?_ | refine And.intro ?_ ?_ | (intro e; exfalso; omega) | (intro e; subst e) | intro _)
          rename_i b1 b2 b3 qa qc ga gc; exact raa ((qa, qc), (a2, c2), (ga, gc), a4, c4) rfl
      | false =>
        have hx : t < O.length := by rcases hcc with h | h; exact h; cases h.2
        clear hcc
        repeat' (first | refine stp ?_ | refine And.intro ?_ ?_ | (intro e; exfalso; omega) | (intro e; subst e) | intro _)
        rename_i b1 b2 b3 qa qc ga gc; exact raa ((qa, qc), (a2, c2), (ga, gc), a4, c4) rfl
    · obtain ⟨e4, e5, e6⟩ := room_f hr hc
      have hne := f_pos hr hlen hF hc
      have hEl := List.length_pos_iff.2 hne
      have hdl : E.dropLast.length = E.length - 1 := List.length_dropLast
      rw [e4, e5, e6]
      have hcc : O.length = 0 ∨ (0 < O.length ∧ ¬ t < O.length ∧ (O.length = t → often = false)) := by
        rcases Nat.eq_zero_or_pos O.length with h | h
        · exact .inl h
        · refine .inr ⟨h, fun h2 => hc ⟨by dsimp only; omega, .inl (by dsimp only; omega)⟩, fun h2 => ?_⟩
          cases often with
          | false => rfl
          | true => exact absurd ⟨by dsimp only; omega, .inr ⟨by dsimp only; omega, rfl⟩⟩ hc
      clear hc hF
      rcases hcc with hx | ⟨hx1, hx2, hx3⟩
      · repeat' (first | refine stp ?_ | refine And.intro ?_ ?_ | (intro e; exfalso; omega) | (intro e; subst e) | intro _)
        rename_i b1 b2 b3 qa qc ga gc; exact raa ((a1, c1), (qa, qc), (a3, c3), ga, gc) rfl
      · cases often with
        | true =>
          have hx4 : O.length ≠ t := fun h => by cases hx3 h
          clear hx3
          repeat' (first | refine stp ?_ | refine And.intro ?_ ?_ | (intro e; exfalso; omega) | (intro e; subst e) | intro _)
          rename_i b1 b2 b3 qa qc ga gc; exact raa ((a1, c1), (qa, qc), (a3, c3), ga, gc) rfl
        | false =>
          clear hx3
          repeat' (first | refine stp ?_ | refine And.intro ?_ ?_ | (intro e; exfalso; omega) | (intro e; subst e) | intro _)
          all_goals (rename_i b1 b2 b3 qa qc ga gc; exact raa ((a1, c1), (qa, qc), (a3, c3), ga, gc) rfl)⟩
end Go.Proofs.Ytcgdkcdlglbigaa
