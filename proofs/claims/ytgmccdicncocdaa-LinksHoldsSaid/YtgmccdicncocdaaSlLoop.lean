/- A loop whose rounds leave marks; the end of a round that leaves the loop. For whatever program. -/
import Derived.Test.YtgmccdicncocdaaSlEnds
namespace Go.Sl
section
variable {r : Option Nat} {P : Program} {base : World} {n : Nat} {ds : List Deferred} {Q : Exit → Act → World → Prop} {env : Env} {l l' : List HP}
def AgainD {ι : Type} (base : World) (n : Nat) (D : ι → List Deferred) (K : Act → World → Prop) (m : ι → Nat) (I : ι → Env) (L : ι → List HP) (i : ι) : Prop := ∀ env l j, m j < m i → Sub env (I j) → Ent l (L j) → TK base n (D j) K env l
theorem againD {ι : Type} {D : ι → List Deferred} {K : Act → World → Prop} {m : ι → Nat} {I : ι → Env} {L : ι → List HP} {i : ι} (hA : AgainD base n D K m I L i) (j : ι) (hd : ds = D j := by rfl) (hm : m j < m i := by (try dsimp only); omega) (hs : Sub env (I j) := by (repeat (first | exact Sub.nil | (apply Sub.cons; exact rfl))); done) (he : Ent l (L j) := by (try simp only [List.cons_append, List.nil_append]); (repeat (first | (with_reducible exact Ent.refl _) | (with_reducible exact Ent.nil _) | (apply Ent.fact; (focus (first | assumption | omega | decide | exact rfl | fail))) | (apply Ent.keep; (focus ((repeat (first | (with_reducible exact Rem.here _ _) | (with_reducible apply Rem.there) | fail)); done)); (focus (infer_instance))) | (apply Ent.cons; (focus ((repeat (first | (with_reducible exact Rem.here _ _) | (with_reducible apply Rem.there) | fail)); done))) | exact Ent.refl _ | exact Ent.nil _ | apply Ent.vecNil | apply Ent.roNil | fail)); done) : TK base n ds K env l := by
  subst hd; exact hA _ _ j hm hs he
/-- A loop in which marks are laid. -/
theorem tc_lpD {ι : Type} {c : Code} (ks : List Nat) (I : Env → ι → Env) (D : ι → List Deferred) (L : ι → List HP) (m : ι → Nat) (i0 : ι) {keep : Env} (round : ∀ (K : Act → World → Prop) (i : ι), AgainD base n D K m (I keep) L i → TC r P base n (D i) c (Th K Q) (I keep i) (L i))
    (hd : ds = D i0 := by rfl) (hs : Lps ks env ks (I keep i0) := by (repeat (first | (apply Lps.chg; exact rfl) | fail)); apply Lps.rest; (repeat (first | exact Kept.nil _ | (apply Kept.skip; exact rfl) | (apply Kept.keep; exact rfl) | fail)); done) (hl : Ent l (L i0) := by (try simp only [List.cons_append, List.nil_append]); (repeat (first | (with_reducible exact Ent.refl _) | (with_reducible exact Ent.nil _) | (apply Ent.fact; (focus (first | assumption | omega | decide | exact rfl | fail))) | (apply Ent.keep; (focus ((repeat (first | (with_reducible exact Rem.here _ _) | (with_reducible apply Rem.there) | fail)); done)); (focus (infer_instance))) | (apply Ent.cons; (focus ((repeat (first | (with_reducible exact Rem.here _ _) | (with_reducible apply Rem.there) | fail)); done))) | exact Ent.refl _ | exact Ent.nil _ | apply Ent.vecNil | apply Ent.roNil | fail)); done) : TC r P base n ds (.loop c) Q env l := by
  subst hd
  exact fun a w ha hw =>
    wpIn_loop_ix (fun i a w => AS n (D i) (I keep i) a ∧ St base (L i) w) m
      (fun i _ _ h => round _ i (fun _ _ j hj s e _ _ ha' hw' => ⟨j, hj, ha'.sub s, hw'.ent e⟩) _ _ h.1 h.2) i0 ⟨ha.subs hs.sub, hw.ent hl⟩
/-- The marks that loops have left. -/
def Marks (rbs : List Nat) : HP := lst (rbs.map fun rb => blk rb (.deferred (some [])))
theorem TC.marks0 {c : Code} (h : TC r P base n ds c Q env (Marks [] :: l)) : TC r P base n ds c Q env l := TK.ent (l' := Marks [] :: l) (fun x y => ⟨fun _ => none, x, fun _ => .inl rfl, by funext k; rfl, trivial, y⟩) h
theorem Marks.cons {rb : Nat} {rbs : List Nat} {rest : List HP} (h : Rem l (Marks rbs) rest) : Ent (blk rb (.deferred (some [])) :: l) (Marks (rb :: rbs) :: rest) := fun x y => by
  obtain ⟨a, b, hd, rfl, ha, hb⟩ := y
  obtain ⟨c, e, hd2, rfl, hc, he⟩ := h.out hb
  obtain ⟨d1, d2⟩ := Disj.join_right hd2 hd
  exact ⟨joinH a c, e, d2.joinl hd2, (joinH_assoc a c e).symm, ⟨a, c, d1, rfl, ha, hc⟩, he⟩
theorem TK.markC {K : Act → World → Prop} {rb : Nat} {rbs : List Nat} {r1 r2 : List HP} (h : TK base n ds K env (Marks (rb :: rbs) :: r2)) (hr : Rem l (blk rb (.deferred (some []))) r1 := by (repeat (first | (with_reducible exact Rem.here _ _) | (with_reducible apply Rem.there) | fail)); done) (hm : Rem r1 (Marks rbs) r2 := by (repeat (first | (with_reducible exact Rem.here _ _) | (with_reducible apply Rem.there) | fail)); done) : TK base n ds K env l :=
  TK.ent (fun _ y => Marks.cons hm _ (hr.out y)) h
theorem Marks.colls : ∀ {rbs : List Nat} {rest : List HP}, Colls (rbs.map coll) ((rbs.map fun rb => blk rb (.deferred (some []))) ++ rest) rest
  | [], _ => .nil _
  | _ :: _, _ => .cons (.here _ _) Marks.colls
theorem TK.marks {K : Act → World → Prop} {rbs : List Nat} {rest : List HP} (hr : Rem l (Marks rbs) rest) (h : TK base n ds K env ((rbs.map fun rb => blk rb (.deferred (some []))) ++ rest)) : TK base n ds K env l := TK.ent (fun _ y => lst_flat (hr.out y)) h
/-- The end of a function whose loops have left marks: the result lies in a cell. -/
theorem rmvM {F : HP} {fn : Func} {α : Type} {val : α → Value} {post : α → List HP} {t T T' b : Nat} {v1 : Value} {rest rest2 : List HP} {rbs : List Nat} [NAgg P T] (x : α) (hx : v1 = val x) (hres : fn.results = #[.cell t T] := by rfl) (hm : Rem l (Marks rbs) rest := by (repeat (first | (with_reducible exact Rem.here _ _) | (with_reducible apply Rem.there) | fail)); done) (hp : look env t = some (.pointer (some ⟨b, 0, none⟩)) := by rfl) (hr : Rem rest (obj b T' [v1]) rest2 := by (repeat (first | (with_reducible exact Rem.here _ _) | (with_reducible apply Rem.there) | fail)); done) (he : Ent rest (post x ++ [F]) := by (try simp only [List.cons_append, List.nil_append]); (repeat (first | (with_reducible exact Ent.refl _) | (with_reducible exact Ent.nil _) | (apply Ent.fact; (focus (first | assumption | omega | decide | exact rfl | fail))) | (apply Ent.keep; (focus ((repeat (first | (with_reducible exact Rem.here _ _) | (with_reducible apply Rem.there) | fail)); done)); (focus (infer_instance))) | (apply Ent.cons; (focus ((repeat (first | (with_reducible exact Rem.here _ _) | (with_reducible apply Rem.there) | fail)); done))) | exact Ent.refl _ | exact Ent.nil _ | apply Ent.vecNil | apply Ent.roNil | fail)); done) : TK base n (rbs.map coll) (fnPostM P base fn val post F .ret) env l :=
  TK.marks hm (tk_retm1 hres Marks.colls (.cell hp (rd_obj hr)) x hx he)
theorem tc_factR {c : Code} {p : Prop} {rest : List HP} (hr : Rem l (fact p) rest) (h : p → TC r P base n ds c Q env rest) : TC r P base n ds c Q env l := TK.ent (fun _ y => hr.out y) (TK.fact h)
/-- Here: a drawn region. -/
theorem atD {id : Nat} {ops : Array Oper} (h : TC r P base n ds (.region id ops true) Q env l) : TC r P base n ds (.region id ops true) Q env l := h
/-- A round that leaves the loop. -/
theorem rx {lp id : Nat} {rec : Loop} {F : HP} {post : Option Code → List HP} (he : Ent l' (post (some (.exit id)) ++ [F])) (hr : Rep (blk lp (.loop (busyL rec))) (blk lp (.loop (doneL rec (.exit id)))) l l' := by (repeat (first | (with_reducible exact Rep.here _) | (with_reducible apply Rep.there) | fail)); done) : TK base n ds (Rp P lp base F post (.exit id)) env l := tk_rp_x hr he
theorem rr {lp : Nat} {rec : Loop} {F : HP} {post : Option Code → List HP} (he : Ent l' (post (some .ret) ++ [F])) (hr : Rep (blk lp (.loop (busyL rec))) (blk lp (.loop (doneL rec .ret))) l l' := by (repeat (first | (with_reducible exact Rep.here _) | (with_reducible apply Rep.there) | fail)); done) : TK base n ds (Rp P lp base F post .ret) env l := tk_rp_r hr he
end
end Go.Sl
