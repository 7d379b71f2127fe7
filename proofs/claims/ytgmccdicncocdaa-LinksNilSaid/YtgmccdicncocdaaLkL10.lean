/- The laws of links, walked: nil and zero fields. -/
import Derived.Test.YtgmccdicncocdaaLkNil
import Derived.Test.YtgmccdicncocdaaSlNil
namespace Go.Proofs.Ytgmccdicncocdaa
open Go.Sl Go.Lk
theorem tc_zlTwo {r0 : Option Nat} {P : Program} {base : World} {n : Nat} {ds : List Deferred} {Q : Exit → Act → World → Prop} {env : Env} {l r : List HP} {c : Code} {p i : Nat} (hc : i < 2) (h : TC r0 P base n ds c Q env (ZL (two (.pointer none) (.pointer (some ⟨p, 0, none⟩)) i) :: l)) (hr : Rem l (ZL (.pointer (some ⟨p, 0, none⟩))) r := by (repeat (first | (with_reducible exact Rem.here _ _) | (with_reducible apply Rem.there) | fail)); done) : TC r0 P base n ds c Q env l := by
  match i, hc with
  | 0, _ => exact tc_zlNil h
  | 1, _ =>
    unfold TC at *
    exact TK.ent (fun x y => hr.keep y) h
attribute [local irreducible] TK TL TC Th Bk Nx fnPost WA TQ OpQ OpN SpecH Rd Ent IterH RoundH Rb Rp fnPostM
set_option maxRecDepth 20000 in
set_option maxHeartbeats 8000000 in
theorem nil_spec (h : Int) (k : Int) : SpecH Try.prog 8 #[.int .i64 h, .int .u32 k] [] (fun _ : Unit => .bool true) (fun _ => []) := by
  refine spec_of Try.func8 rfl Try.ntmps8 rfl [(0, _), (1, _)] rfl ?_; intro base F l0 hl0; (try simp only [List.cons_append] at hl0); (try simp only [List.nil_append] at hl0); subst hl0
  repeat' (first | refine st ?_ | refine And.intro ?_ ?_ | (intro e; exfalso; omega) | (intro e; subst e) | intro _)
  rename_i b1 b2
  refine tc_zlMk (p := b1) ?_
  refine tc_lp (ι := {i : Nat // i ≤ 2}) [21] (fun e i => (21, .int .i64 (i.1 : Nat)) :: e) (fun _ => [ZL (.pointer (some ⟨b1, 0, none⟩)), Vec 24 1 (some ⟨b2, 0, none⟩) 2 2 [.pointer none, .pointer (some ⟨b1, 0, none⟩)], F]) (fun i => 2 - i.1) ⟨0, by omega⟩ ?_
  rintro K ⟨i, hi⟩ hK
  dsimp only
  by_cases hc : i < 2
  · refine tc_zlTwo (p := b1) hc ?_
    repeat' (first | refine st ?_ | refine And.intro ?_ ?_ | (intro e; exfalso; omega) | (intro e; subst e) | intro _)
    generalize two (.pointer none) (.pointer (some ⟨b1, 0, none⟩)) i = v
    repeat' (first | refine st ?_ | refine And.intro ?_ ?_ | (intro e; exfalso; omega) | (intro e; subst e) | intro _)
    exact again hK ⟨i + 1, by omega⟩
  · obtain rfl : i = 2 := by omega
    repeat' (first | refine st ?_ | refine And.intro ?_ ?_ | (intro e; exfalso; omega) | (intro e; subst e) | intro _)
    exact rt1 () rfl
end Go.Proofs.Ytgmccdicncocdaa
