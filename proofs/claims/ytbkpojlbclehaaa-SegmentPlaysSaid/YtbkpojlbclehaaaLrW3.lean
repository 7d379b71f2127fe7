/- lru, walked: the ends of a list, other numbers. -/
import Derived.Test.YtbkpojlbclehaaaLrW2
namespace Go.Sl
section
variable {r : Option Nat} {P : Program} {base : World} {n : Nat} {ds : List Deferred} {Q : Exit → Act → World → Prop} {env : Env} {l rest : List HP} {all : Array Oper} {ro : List Oper}
/-- A call of a function that is a value. -/
theorem callv {α : Type} {x : Operand} {f : FuncId} {first captured : Array Value} {xs : List Operand} {ats : Array TypeId} {vs : List Value} {args : Array Value} {pre : List HP} {val : α → Value} {post : α → List HP} {dst : Option Tmp} {ty : TypeId} {pos : String} {af : Array Edge} {g : Option (Nat × Bool)} {d : Nat} {R : Prop} [CF P f] (hs : SpecH P f args pre val post) (h : R)
    (hx : ev env x = some (.func (.func f) first captured) := by rfl) (hw : Want all ⟨dst, .call ⟨.value x, xs.toArray, ats⟩, ty, pos, af, g⟩ env := by (first | exact want_none rfl | exact want_yes rfl rfl rfl rfl rfl | fail)) (hxs : Evs env xs vs := by (repeat (first | exact Evs.nil | (apply Evs.cons; exact rfl) | fail)); done) (hargs : args = first ++ vs.toArray ++ captured := by rfl) (hp : Pick l pre rest := by (repeat (first | (with_reducible exact Pick.nil _) | (apply Pick.cons; (focus ((repeat (first | (with_reducible exact Rem.here _ _) | (with_reducible apply Rem.there) | fail)); done))) | fail)); done) (hd : dst = some d := by rfl) (hn : d < n := by exact Nat.lt_of_ble_eq rfl)
    (hR : R → ∀ x, TL r P base n ds all ro Q ((d, val x) :: env) (post x ++ rest) := by intro h; (try refine prod_all ?_); (try dsimp only [List.cons_append, List.nil_append]); first | exact fun _ => h | exact h | fail) : TL r P base n ds all (⟨dst, .call ⟨.value x, xs.toArray, ats⟩, ty, pos, af, g⟩ :: ro) Q env l :=
  tl_n (opn_callv hw hx hxs hargs hs hp) hd hn (hR h)
end
end Go.Sl
namespace Go.Proofs.Ytbkpojlbclehaaa
open Go.Lk Go.Sl Go.Lr
attribute [local irreducible] TK TL TC Th Bk Nx fnPost WA TQ OpQ OpN SpecH Rd Ent IterH RoundH Rb Rp fnPostM
attribute [local irreducible] Fld.addE Fld.addF Fld.befE Fld.befF Fld.inE Fld.remF Fld.first Fld.last Fld.next Fld.prev Fld.ofR Fld.listOf Fld.joinE Fld.joinF renE renG Fld.at Fld.set Fld.place
theorem lr_endF : Known Try.prog 85 (∀ (p : Nat) (L : List Nat), SpecH Try.prog 85 #[.pointer (some ⟨p, 0, none⟩), .func (.func 86) #[] #[]] [LruAt p L] (fun _ : Unit => .tuple #[.int .u32 (L.headD 0 : Nat), .int .i64 (if L = [] then 9 else 0)]) (fun _ => [LruAt p L])) := ⟨fun p L => by
  refine spec_of Try.func85 rfl Try.ntmps85 rfl [(0, _), (1, _)] rfl ?_; intro base F l0 hl0; (try simp only [List.cons_append] at hl0); (try simp only [List.nil_append] at hl0); subst hl0
  refine LruAt.openC fun pl N w => ?_
  have h := fFirst.out pl (F1 N L) 0
  rw [f1_first] at h
  unfold resV at h
  repeat' (first | refine stx ?_ | refine And.intro ?_ ?_ | (intro e; exfalso; omega) | (intro e; subst e) | intro _)
  refine callv h ?_
  repeat' (first | refine stx ?_ | refine And.intro ?_ ?_ | (intro e; exfalso; omega) | (intro e; subst e) | intro _)
  exact rt2 () rfl (en2 LruAt.shut)⟩
instance lr_oldest : Known Try.prog 48 (∀ (p : Nat) (L : List Nat), SpecH Try.prog 48 #[.pointer (some ⟨p, 0, none⟩)] [LruAt p L] (fun _ : Unit => .tuple #[.int .u32 (L.headD 0 : Nat), .int .i64 (if L = [] then 9 else 0)]) (fun _ => [LruAt p L])) := ⟨fun p L => by
  haveI := lr_endF
  refine spec_of Try.func48 rfl Try.ntmps48 rfl [(0, _)] rfl ?_; intro base F l0 hl0; (try simp only [List.cons_append] at hl0); (try simp only [List.nil_append] at hl0); subst hl0
  repeat' (first | refine stx ?_ | refine And.intro ?_ ?_ | (intro e; exfalso; omega) | (intro e; subst e) | intro _)
  exact rt2 () rfl⟩
end Go.Proofs.Ytbkpojlbclehaaa
