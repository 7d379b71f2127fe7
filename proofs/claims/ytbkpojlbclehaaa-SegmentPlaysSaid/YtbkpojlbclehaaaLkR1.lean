/- The reference of links, walked: its data; a new field; lists with an element more; fields with another list. -/
import Derived.Test.YtbkpojlbclehaaaLkA
import Derived.Test.YtbkpojlbclehaaaSlD
import Derived.Test.YtbkpojlbclehaaaSlTypes
namespace Go.Lk
open Go.Sl
/-- The value is a list of numbers that no one writes. -/
def RU (v : Value) (l : List Nat) : HP := Exs (ι := Option Addr × Nat) fun q => [fact (v = .slice q.1 l.length q.2), RoS 1 q.1 l.length q.2 (u32s l)]
instance (v : Value) (l : List Nat) : Pers (RU v l) := by unfold RU; infer_instance
/-- The value is a field of the reference. -/
def RF (v : Value) (f : Fld) : HP := Exs (ι := Option Addr × Nat × List Value) fun q => [fact (v = .agg #[.int .i64 f.N, .slice q.1 f.L.length q.2.1]), RoS 1 q.1 f.L.length q.2.1 q.2.2, AllR RU q.2.2 f.L]
instance (v : Value) (f : Fld) : Pers (RF v f) := by unfold RF; infer_instance
section
variable {r0 : Option Nat} {P : Program} {base : World} {n : Nat} {ds : List Deferred} {Q : Exit → Act → World → Prop} {env : Env} {l r : List HP} {K : Act → World → Prop} {c : Code} {all : Array Oper} {ro : List Oper} {v : Value} {xs : List Nat} {f : Fld}
theorem RU.open (hr : Rem l (RU v xs) r) (h : ∀ a c, v = .slice a xs.length c → TK base n ds K env (RoS 1 a xs.length c (u32s xs) :: l)) : TK base n ds K env l := by
  unfold RU at hr
  refine TK.exsP hr inferInstance fun q => TK.fact fun e => h q.1 q.2 e
theorem RF.open (hr : Rem l (RF v f) r) (h : ∀ a c vs, v = .agg #[.int .i64 f.N, .slice a f.L.length c] → vs.length = f.L.length → TK base n ds K env (RoS 1 a f.L.length c vs :: AllR RU vs f.L :: l)) : TK base n ds K env l := by
  unfold RF at hr
  refine TK.exsP hr inferInstance fun q => TK.fact fun e => ?_
  exact TK.know (fun _ y => allR_len (.there _ (.here _ _)) y) fun hl => h q.1 q.2.1 q.2.2 e hl
theorem RU.openC (hr : Rem l (RU v xs) r) (h : ∀ a q, v = .slice a xs.length q → TC r0 P base n ds c Q env (RoS 1 a xs.length q (u32s xs) :: l)) : TC r0 P base n ds c Q env l := by unfold TC at *; exact RU.open hr h
theorem RF.openC (hr : Rem l (RF v f) r) (h : ∀ a q vs, v = .agg #[.int .i64 f.N, .slice a f.L.length q] → vs.length = f.L.length → TC r0 P base n ds c Q env (RoS 1 a f.L.length q vs :: AllR RU vs f.L :: l)) : TC r0 P base n ds c Q env l := by unfold TC at *; exact RF.open hr h
theorem RU.mk {a : Option Addr} {m q : Nat} {cs : List Value} (hc : cs = u32s xs) (hm : m = xs.length) : Ent (RoS 1 a m q cs :: r) (RU (.slice a m q) xs :: r) := by
  subst hm; subst hc
  exact Ent.exs (a, q) (Ent.fact rfl (Ent.refl _))
theorem RF.mk {a : Option Addr} {m q : Nat} {vs : List Value} {N : Int} (hN : N = f.N) (hm : m = f.L.length) : Ent (RoS 1 a m q vs :: AllR RU vs f.L :: r) (RF (.agg #[.int .i64 N, .slice a m q]) f :: r) := by
  subst hm; subst hN
  exact Ent.exs (a, q, vs) (Ent.fact rfl (Ent.refl _))
theorem RU.nil : Ent r (RU (.slice none 0 0) [] :: r) := Ent.trans (Ent.roNil (Ent.refl _)) (RU.mk rfl rfl)
theorem rows_one (v : Value) (M : Nat) : rows M (fun _ => [v]) = List.replicate M v := by
  rw [← rows_replicate]
  induction M with
  | zero => rfl
  | succ n ih => rw [List.replicate_succ, List.flatten_cons, ih]; rfl
theorem RF.new {a : Option Addr} {N M q : Nat} : Ent (RoS 1 a M q (rows M fun _ => [.slice none 0 0]) :: r) (RF (.agg #[.int .i64 N, .slice a M q]) ⟨N, List.replicate M []⟩ :: r) := by
  rw [rows_one]
  refine Ent.trans (fun _ y => lst_swap (allR_rep (g := RU) (v := .slice none 0 0) (x := []) M (RU.nil _ y))) (RF.mk (f := ⟨N, List.replicate M []⟩) rfl List.length_replicate.symm)
/-- One of the lists. -/
theorem RF.row {vs : List Value} {h : Nat} (hr : Rem l (AllR RU vs f.L) r) (hh : h < f.L.length) (hl : vs.length = f.L.length) (k : ∀ a q, vs[h]? = some (.slice a (f.at h).length q) → TK base n ds K env (RoS 1 a (f.at h).length q (u32s (f.at h)) :: RU (.slice a (f.at h).length q) (f.at h) :: l)) : TK base n ds K env l := by
  have h1 : vs[h]? = some (vs[h]'(by omega)) := List.getElem?_eq_getElem _
  have h2 : f.L[h]? = some (f.at h) := by rw [List.getElem?_eq_getElem hh, Fld.at_getElem hh]
  refine TK.add (fun _ y => allR_get hr h1 h2 y) ?_
  refine RU.open (.here _ _) fun a c e => ?_
  rw [e] at h1 ⊢
  exact k a c h1
theorem RF.rowC {vs : List Value} {h : Nat} (hr : Rem l (AllR RU vs f.L) r) (hh : h < f.L.length) (hl : vs.length = f.L.length) (k : ∀ a q, vs[h]? = some (.slice a (f.at h).length q) → TC r0 P base n ds c Q env (RoS 1 a (f.at h).length q (u32s (f.at h)) :: RU (.slice a (f.at h).length q) (f.at h) :: l)) : TC r0 P base n ds c Q env l := by unfold TC at *; exact RF.row hr hh hl k
theorem RF.plc {vs : List Value} (hr : Rem l (AllR RU vs f.L) r) {h : Hp} (y : lst l h) : PlC vs := ⟨fun v hv => by
  have hl := allR_len hr y
  obtain ⟨i, hi, rfl⟩ := List.getElem_of_mem hv
  have h1 : vs[i]? = some vs[i] := List.getElem?_eq_getElem _
  have h2 : f.L[i]? = some (f.L[i]'(by omega)) := List.getElem?_eq_getElem _
  have y2 := allR_get hr h1 h2 y
  unfold RU at y2
  obtain ⟨q, y3⟩ := exs_out (.here _ _) y2
  have := (lst_fact y3).1
  rw [this]; rfl⟩
/-- Another list in place of one. -/
theorem RF.setA {vs : List Value} {w : Value} {xs : List Nat} {r2 : List HP} (i : Nat) (hr : Rem l (AllR RU vs f.L) r) (hr2 : Rem l (RU w xs) r2) (h : TK base n ds K env (AllR RU (vs.set i w) (f.set i xs).L :: l)) : TK base n ds K env l :=
  TK.add (fun _ y => allR_set i ((Rem.there _ hr).keep (hr2.keep y))) h
end
end Go.Lk
namespace Go.Proofs.Ytbkpojlbclehaaa
open Go.Sl Go.Lk
attribute [local irreducible] TK TL TC Th Bk Nx fnPost WA TQ OpQ OpN SpecH Rd Ent IterH RoundH Rb Rp fnPostM
end Go.Proofs.Ytbkpojlbclehaaa
