/- segment, walked: slots that are put and taken. -/
import Derived.Test.YtbkpojlbclehaaaSgTheory
import Derived.Test.YtbkpojlbclehaaaLrW3
import Derived.Test.YtbkpojlbclehaaaSlW
import Derived.Test.YtbkpojlbclehaaaSlMapN
namespace Go.Sg
open Go.Lk Go.Sl Go.Lr Go.Proofs.Ytbkpojlbclehaaa
/-- Both segments; something may have to be demoted. -/
def SegX (p : Nat) (P T : List It) (L : Int) : HP := Exs (ι := (Nat × Nat × Nat) × List (Nat × Int)) fun q => [fact (Inv ⟨P, T, L⟩ ∧ CM P T q.2), obj p 68 [.pointer (some ⟨q.1.1, 0, none⟩), .pointer (some ⟨q.1.2.1, 0, none⟩), .int .i64 (sm P : Nat), .int .i64 (sm T : Nat), .map (some q.1.2.2), .int .i64 L], LruAt q.1.1 (sl P), LruAt q.1.2.1 (sl T), MapA .u32 (fun z : Int => .int .i64 z) q.1.2.2 q.2]
/-- Both segments. -/
def SegAt (p : Nat) (P T : List It) (L : Int) : HP := Exs (ι := Unit) fun _ => [fact (Still ⟨P, T, L⟩), SegX p P T L]
section
variable {r0 : Option Nat} {P' : Program} {base : World} {n : Nat} {ds : List Deferred} {X : Exit → Act → World → Prop} {env : Env} {l r : List HP} {KK : Act → World → Prop} {c : Code} {all : Array Oper} {ro : List Oper} {p : Nat} {P T : List It} {L : Int}
theorem SegX.openK (h : ∀ (l0 l1 m : Nat) (kv : List (Nat × Int)), Inv ⟨P, T, L⟩ → CM P T kv → TK base n ds KK env (obj p 68 [.pointer (some ⟨l0, 0, none⟩), .pointer (some ⟨l1, 0, none⟩), .int .i64 (sm P : Nat), .int .i64 (sm T : Nat), .map (some m), .int .i64 L] :: LruAt l0 (sl P) :: LruAt l1 (sl T) :: MapA .u32 (fun z : Int => .int .i64 z) m kv :: r)) (hr : Rem l (SegX p P T L) r := by (repeat (first | (with_reducible exact Rem.here _ _) | (with_reducible apply Rem.there) | fail)); done) : TK base n ds KK env l := by
  unfold SegX at hr
  refine TK.exs hr fun ⟨⟨l0, l1, m⟩, kv⟩ => ?_
  refine TK.fact fun ⟨h1, h2⟩ => ?_
  exact h l0 l1 m kv h1 h2
theorem SegX.openC (h : ∀ (l0 l1 m : Nat) (kv : List (Nat × Int)), Inv ⟨P, T, L⟩ → CM P T kv → TC r0 P' base n ds c X env (obj p 68 [.pointer (some ⟨l0, 0, none⟩), .pointer (some ⟨l1, 0, none⟩), .int .i64 (sm P : Nat), .int .i64 (sm T : Nat), .map (some m), .int .i64 L] :: LruAt l0 (sl P) :: LruAt l1 (sl T) :: MapA .u32 (fun z : Int => .int .i64 z) m kv :: r)) (hr : Rem l (SegX p P T L) r := by (repeat (first | (with_reducible exact Rem.here _ _) | (with_reducible apply Rem.there) | fail)); done) : TC r0 P' base n ds c X env l := SegX.openK h hr
theorem SegX.openL (h : ∀ (l0 l1 m : Nat) (kv : List (Nat × Int)), Inv ⟨P, T, L⟩ → CM P T kv → TL r0 P' base n ds all ro X env (obj p 68 [.pointer (some ⟨l0, 0, none⟩), .pointer (some ⟨l1, 0, none⟩), .int .i64 (sm P : Nat), .int .i64 (sm T : Nat), .map (some m), .int .i64 L] :: LruAt l0 (sl P) :: LruAt l1 (sl T) :: MapA .u32 (fun z : Int => .int .i64 z) m kv :: r)) (hr : Rem l (SegX p P T L) r := by (repeat (first | (with_reducible exact Rem.here _ _) | (with_reducible apply Rem.there) | fail)); done) : TL r0 P' base n ds all ro X env l := SegX.openK h hr
theorem SegX.shut {l0 l1 m : Nat} {kv : List (Nat × Int)} (h1 : Inv ⟨P, T, L⟩) (h2 : CM P T kv) : Ent (obj p 68 [.pointer (some ⟨l0, 0, none⟩), .pointer (some ⟨l1, 0, none⟩), .int .i64 (sm P : Nat), .int .i64 (sm T : Nat), .map (some m), .int .i64 L] :: LruAt l0 (sl P) :: LruAt l1 (sl T) :: MapA .u32 (fun z : Int => .int .i64 z) m kv :: r) (SegX p P T L :: r) := by
  refine Ent.exs ((l0, l1, m), kv) ?_
  exact Ent.fact ⟨h1, h2⟩ (Ent.refl _)
/-- With the cells as they come. -/
theorem SegX.shutN {l0 l1 m : Nat} {kv : List (Nat × Int)} {z0 z1 : Int} {q0 q1 : List Nat} (h1 : Inv ⟨P, T, L⟩) (h2 : CM P T kv) (e0 : z0 = (sm P : Nat)) (e1 : z1 = (sm T : Nat)) (e2 : q0 = sl P) (e3 : q1 = sl T) : Ent (obj p 68 [.pointer (some ⟨l0, 0, none⟩), .pointer (some ⟨l1, 0, none⟩), .int .i64 z0, .int .i64 z1, .map (some m), .int .i64 L] :: LruAt l0 q0 :: LruAt l1 q1 :: MapA .u32 (fun z : Int => .int .i64 z) m kv :: r) (SegX p P T L :: r) := by
  subst e0; subst e1; subst e2; subst e3
  exact SegX.shut h1 h2
theorem SegAt.openK (h : Still ⟨P, T, L⟩ → TK base n ds KK env (SegX p P T L :: r)) (hr : Rem l (SegAt p P T L) r := by (repeat (first | (with_reducible exact Rem.here _ _) | (with_reducible apply Rem.there) | fail)); done) : TK base n ds KK env l := by
  unfold SegAt at hr
  refine TK.exs hr fun _ => ?_
  exact TK.fact fun h1 => h h1
theorem SegAt.openC (h : Still ⟨P, T, L⟩ → TC r0 P' base n ds c X env (SegX p P T L :: r)) (hr : Rem l (SegAt p P T L) r := by (repeat (first | (with_reducible exact Rem.here _ _) | (with_reducible apply Rem.there) | fail)); done) : TC r0 P' base n ds c X env l := SegAt.openK h hr
theorem SegAt.shut (h : Still ⟨P, T, L⟩) : Ent (SegX p P T L :: r) (SegAt p P T L :: r) := by
  refine Ent.exs () ?_
  exact Ent.fact h (Ent.refl _)
/-- What both segments say of themselves. -/
theorem SegX.facts (h : Inv ⟨P, T, L⟩ → P.length ≤ 4194304 → T.length ≤ 4194304 → TK base n ds KK env l) (hr : Rem l (SegX p P T L) r := by (repeat (first | (with_reducible exact Rem.here _ _) | (with_reducible apply Rem.there) | fail)); done) : TK base n ds KK env l := by
  refine TK.know (p := Inv ⟨P, T, L⟩) (fun _ y => ?_) fun iv => ?_
  · unfold SegX at hr
    obtain ⟨q, y⟩ := exs_out hr y
    obtain ⟨⟨h1, h2⟩, y⟩ := lst_fact y
    exact h1
  · obtain ⟨n1, n2, n3⟩ := iv.parts
    exact h iv (by rw [← sl_len]; exact nodup_bound n1 iv.pslot) (by rw [← sl_len]; exact nodup_bound n2 iv.tslot)
theorem SegX.factsC (h : Inv ⟨P, T, L⟩ → P.length ≤ 4194304 → T.length ≤ 4194304 → TC r0 P' base n ds c X env l) (hr : Rem l (SegX p P T L) r := by (repeat (first | (with_reducible exact Rem.here _ _) | (with_reducible apply Rem.there) | fail)); done) : TC r0 P' base n ds c X env l := SegX.facts h hr
theorem SegAt.facts (h : Inv ⟨P, T, L⟩ → Still ⟨P, T, L⟩ → P.length ≤ 4194304 → T.length ≤ 4194304 → TK base n ds KK env l) (hr : Rem l (SegAt p P T L) r := by (repeat (first | (with_reducible exact Rem.here _ _) | (with_reducible apply Rem.there) | fail)); done) : TK base n ds KK env l := by
  refine TK.know (p := Inv ⟨P, T, L⟩ ∧ Still ⟨P, T, L⟩) (fun _ y => ?_) fun ⟨iv, st⟩ => ?_
  · unfold SegAt at hr
    obtain ⟨_, y⟩ := exs_out hr y
    obtain ⟨h0, y⟩ := lst_fact y
    unfold SegX at y
    obtain ⟨q, y⟩ := exs_out (.here _ _) y
    obtain ⟨⟨h1, h2⟩, y⟩ := lst_fact y
    exact ⟨h1, h0⟩
  · obtain ⟨n1, n2, n3⟩ := iv.parts
    exact h iv st (by rw [← sl_len]; exact nodup_bound n1 iv.pslot) (by rw [← sl_len]; exact nodup_bound n2 iv.tslot)
theorem SegAt.factsC (h : Inv ⟨P, T, L⟩ → Still ⟨P, T, L⟩ → P.length ≤ 4194304 → T.length ≤ 4194304 → TC r0 P' base n ds c X env l) (hr : Rem l (SegAt p P T L) r := by (repeat (first | (with_reducible exact Rem.here _ _) | (with_reducible apply Rem.there) | fail)); done) : TC r0 P' base n ds c X env l := SegAt.facts h hr
end
end Go.Sg
