/- The laws of links, walked: the examples of the chapter. -/
import Derived.Test.YtgmccdicncocdaaLkL1
import Derived.Test.YtgmccdicncocdaaLkW8
import Derived.Test.YtgmccdicncocdaaLkW9
import Derived.Test.YtgmccdicncocdaaLkR4
import Derived.Test.YtgmccdicncocdaaLkR5
import Derived.Test.YtgmccdicncocdaaLkR6
import Derived.Test.YtgmccdicncocdaaSlGo4
namespace Go.Proofs.Ytgmccdicncocdaa
open Go.Sl Go.Lk
attribute [local irreducible] TK TL TC Th Bk Nx fnPost WA TQ OpQ OpN SpecH Rd Ent IterH RoundH Rb Rp fnPostM
instance (priority := high + 1) fRenumberL : Known Try.prog 27 (∀ (p : Nat) (f : Fld) (a : Option Addr) (m cap : Nat) (cs : List Value) (to : List Nat) (nodes : Int), AsU cs to → m = to.length → (∀ n ∈ to, n < 4294967296) → to.length ≤ 4194304 → SpecH Try.prog 27 #[.pointer (some ⟨p, 0, none⟩), .slice a m cap, .int .i64 nodes] [FieldAt p f, Vec 35 1 a m cap cs] (fun _ : Unit => .int .i64 (renE f to nodes)) (fun _ => [FieldAt p (renG f to nodes), Vec 35 1 a m cap cs])) := ⟨fun p f a m cap cs to nodes hc hm hto htl => by
  subst hm; rw [hc.out]; exact fRenumber.out p f a cap to nodes hto htl⟩
set_option maxRecDepth 20000 in
set_option maxHeartbeats 8000000 in
instance known_spec : Known Try.prog 9 (SpecH Try.prog 9 #[] [] (fun _ : Unit => .bool true) (fun _ => [])) := ⟨by
  refine spec_of Try.func9 rfl Try.ntmps9 rfl [] rfl ?_; intro base F l0 hl0; (try simp only [List.cons_append] at hl0); (try simp only [List.nil_append] at hl0); subst hl0
  repeat' (first | refine stD ?_ | refine And.intro ?_ ?_ | (intro e; subst e) | intro _)
  refine call (new_bad.out 0 1 (by omega)) ?_
  repeat' (first | refine stD ?_ | refine And.intro ?_ ?_ | (intro e; subst e) | intro _)
  refine call (new_bad.out 1 4097 (by omega)) ?_
  repeat' (first | refine stD ?_ | refine And.intro ?_ ?_ | (intro e; subst e) | intro _)
  exact rt1 () rfl⟩
end Go.Proofs.Ytgmccdicncocdaa
