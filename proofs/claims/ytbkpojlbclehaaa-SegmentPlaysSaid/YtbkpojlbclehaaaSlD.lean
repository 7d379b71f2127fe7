/- SlD: SlData, SlEnds, SlLoop, SlGo4, SlFrame, SlNil. -/
import Derived.Test.YtbkpojlbclehaaaSlC
/- Assertions with something hidden; data that no one writes. For whatever program. -/
namespace Go.Sl
/-- All of a list, and nothing else. -/
def lstX : List HP → HP
  | [] => fun h => h = fun _ => none
  | p :: l => sep p (lstX l)
theorem lstX_in {xs l : List HP} : ∀ {h : Hp}, lst (xs ++ l) h → lst (lstX xs :: l) h := by
  induction xs with
  | nil => intro h x; exact ⟨fun _ => none, h, fun _ => .inl rfl, by funext k; rfl, rfl, x⟩
  | cons p xs ih => intro h x; exact sep_assoc' (sep_mono (fun _ y => y) (fun _ y => ih y) x)
theorem lstX_out {xs l : List HP} : ∀ {h : Hp}, lst (lstX xs :: l) h → lst (xs ++ l) h := by
  induction xs with
  | nil => intro h x; exact lst_drop x
  | cons p xs ih => intro h x; exact sep_mono (fun _ y => y) (fun _ y => ih y) (sep_assoc x)
/-- Some of many. -/
def Exs {ι : Type} (f : ι → List HP) : HP := fun h => ∃ q, lstX (f q) h
class PersL (l : List HP) : Prop where
  out : ∀ h, lstX l h → ∀ k x, h k = some x → x.1 = false
instance : PersL [] := ⟨by rintro h rfl k x hk; cases hk⟩
instance (p : HP) (l : List HP) [hp : Pers p] [hl : PersL l] : PersL (p :: l) := ⟨by
  rintro h ⟨a, b, hd, rfl, ha, hb⟩ k x hk
  cases h1 : a k with
  | none => rw [joinH_none h1] at hk; exact hl.out b hb k x hk
  | some y => rw [joinH_left h1] at hk; rw [← Option.some.inj hk]; exact hp.out a ha k y h1⟩
instance {ι : Type} (f : ι → List HP) [h : ∀ q, PersL (f q)] : Pers (Exs f) := ⟨fun h' ⟨q, hq⟩ => (h q).out h' hq⟩
theorem exs_out {ι : Type} {f : ι → List HP} {l r : List HP} (hr : Rem l (Exs f) r) {h : Hp} (x : lst l h) : ∃ q, lst (f q ++ r) h := by
  obtain ⟨a, b, hd, rfl, ⟨q, hq⟩, hb⟩ := hr.out x
  exact ⟨q, lstX_out ⟨a, b, hd, rfl, hq, hb⟩⟩
/-- To hide. -/
theorem Ent.exs {ι : Type} {f : ι → List HP} {l r : List HP} (q : ι) (h : Ent l (f q ++ r)) : Ent l (Exs f :: r) := fun _ x => sep_mono (fun _ y => ⟨q, y⟩) (fun _ y => y) (lstX_in (h _ x))
section
variable {r0 : Option Nat} {P : Program} {base : World} {n : Nat} {ds : List Deferred} {Q : Exit → Act → World → Prop} {env : Env} {l r : List HP} {K : Act → World → Prop} {c : Code} {all : Array Oper} {ro : List Oper}
theorem TK.exs {ι : Type} {f : ι → List HP} (hr : Rem l (Exs f) r) (h : ∀ q, TK base n ds K env (f q ++ r)) : TK base n ds K env l := TK.open (f := fun q => f q ++ r) (fun _ x => exs_out hr x) h
theorem TC.exs {ι : Type} {f : ι → List HP} (hr : Rem l (Exs f) r) (h : ∀ q, TC r0 P base n ds c Q env (f q ++ r)) : TC r0 P base n ds c Q env l := TK.exs hr h
theorem TL.exs {ι : Type} {f : ι → List HP} (hr : Rem l (Exs f) r) (h : ∀ q, TL r0 P base n ds all ro Q env (f q ++ r)) : TL r0 P base n ds all ro Q env l := TK.exs hr h
/-- What may be held any number of times, opened and kept. -/
theorem TK.exsP {ι : Type} {f : ι → List HP} (hr : Rem l (Exs f) r) (hp : Pers (Exs f)) (h : ∀ q, TK base n ds K env (f q ++ l)) : TK base n ds K env l := TK.open (f := fun q => f q ++ l) (fun _ x => exs_out (.here _ _) (hr.keep x)) h
/-- One more assertion that the list bears. -/
theorem TK.add {p : HP} (hp : ∀ h, lst l h → lst (p :: l) h) (h : TK base n ds K env (p :: l)) : TK base n ds K env l := TK.ent (fun x y => hp x y) h
end
/-! ### Lists of things that no one writes -/
def AllR {α : Type} (g : Value → α → HP) (vs : List Value) (xs : List α) : HP := fun h =>
  (∀ k x, h k = some x → x.1 = false) ∧ vs.length = xs.length ∧ ∀ (i : Nat) (v : Value) (x : α), vs[i]? = some v → xs[i]? = some x → ∃ h', (∀ k y, h' k = some y → h k = some y) ∧ g v x h'
section
variable {α : Type} {g : Value → α → HP} {vs : List Value} {xs : List α} {l r : List HP}
instance : Pers (AllR g vs xs) := ⟨fun _ h => h.1⟩
theorem lst_pers_shared {p : HP} [hp : Pers p] {h : Hp} (x : lst (p :: l) h) : ∃ a c, Disj a c ∧ h = joinH a c ∧ p a ∧ (∀ k x, a k = some x → x.1 = false) ∧ lst l c := by
  obtain ⟨a, c, hd, e, ha, hc⟩ := x
  exact ⟨a, c, hd, e, ha, hp.out a ha, hc⟩
theorem allR_get {i : Nat} {v : Value} {x : α} (hr : Rem l (AllR g vs xs) r) (hv : vs[i]? = some v) (hx : xs[i]? = some x) {h : Hp} (y : lst l h) : lst (g v x :: l) h :=
  lst_cons_mono (fun _ z => z) (fun _ z => hr.back z) (lst_ro_add (p := AllR g vs xs) (q := g v x) (fun _a ha => ha.2.2 i v x hv hx) (hr.out y))
theorem allR_len (hr : Rem l (AllR g vs xs) r) {h : Hp} (y : lst l h) : vs.length = xs.length := by
  obtain ⟨_, _, _, _, ha, _⟩ := hr.out y
  exact ha.2.1
theorem allR_mk {v : Value} {x : α} {vs' : List Value} {xs' : List α} [hp : Pers (g v x)] (hlen : vs.length = xs.length → vs'.length = xs'.length) (hi : ∀ (i : Nat) v' x', vs'[i]? = some v' → xs'[i]? = some x' → (∃ j : Nat, vs[j]? = some v' ∧ xs[j]? = some x') ∨ (v' = v ∧ x' = x)) {h : Hp} (y : lst (AllR g vs xs :: g v x :: l) h) : lst (AllR g vs' xs' :: l) h := by
  obtain ⟨a, c, hd, rfl, ha, b, e, hbe, rfl, hb, he⟩ := y
  obtain ⟨d1, d2⟩ := Disj.join_right hbe hd
  refine ⟨joinH a b, e, d2.joinl hbe, (joinH_assoc a b e).symm, ⟨fun k z hk => ?_, hlen ha.2.1, fun i v' x' hv hx => ?_⟩, he⟩
  · cases h1 : a k with
    | none => rw [joinH_none h1] at hk; exact hp.out b hb k z hk
    | some z' => rw [joinH_left h1] at hk; rw [← Option.some.inj hk]; exact ha.1 k z' h1
  · rcases hi i v' x' hv hx with ⟨j, h1, h2⟩ | ⟨rfl, rfl⟩
    · obtain ⟨h', h3, h4⟩ := ha.2.2 j v' x' h1 h2
      exact ⟨h', fun k z hk => joinH_left (h3 k z hk), h4⟩
    · refine ⟨b, fun k z hk => ?_, hb⟩
      rcases d1 k with h1 | h1 | ⟨h1, o, h2⟩
      · rw [joinH_none h1]; exact hk
      · rw [h1] at hk; cases hk
      · rw [joinH_left h2, ← h2, h1]; exact hk
theorem allR_nil {h : Hp} (y : lst l h) : lst (AllR g [] ([] : List α) :: l) h := ⟨fun _ => none, h, fun _ => .inl rfl, by funext k; rfl, ⟨fun k x hk => by (cases hk), rfl, fun i v x hv => by (simp at hv)⟩, y⟩
theorem allR_rep {v : Value} {x : α} [Pers (g v x)] (m : Nat) {h : Hp} (y : lst (g v x :: l) h) : lst (AllR g (List.replicate m v) (List.replicate m x) :: l) h :=
  allR_mk (vs := []) (xs := []) (fun _ => by simp) (fun i v' x' h1 h2 => .inr ⟨(List.mem_replicate.1 (List.mem_of_getElem? h1)).2, (List.mem_replicate.1 (List.mem_of_getElem? h2)).2⟩) (allR_nil y)
theorem allR_set {v : Value} {x : α} [Pers (g v x)] (i : Nat) {h : Hp} (y : lst (AllR g vs xs :: g v x :: l) h) : lst (AllR g (vs.set i v) (xs.set i x) :: l) h :=
  allR_mk (fun h => by simpa using h) (fun j v' x' h1 h2 => by
    by_cases e : i = j
    · subst e
      rw [List.getElem?_set] at h1 h2
      simp only [if_true] at h1 h2
      split at h1 <;> split at h2 <;> simp_all
    · rw [List.getElem?_set_ne e] at h1 h2; exact .inl ⟨j, h1, h2⟩) y
theorem allR_snoc {v : Value} {x : α} [Pers (g v x)] (hl : vs.length = xs.length) {h : Hp} (y : lst (AllR g vs xs :: g v x :: l) h) : lst (AllR g (vs ++ [v]) (xs ++ [x]) :: l) h :=
  allR_mk (fun h => by simpa using h) (fun j v' x' h1 h2 => by
    rcases Nat.lt_or_ge j vs.length with e | e
    · rw [List.getElem?_append_left e] at h1; rw [List.getElem?_append_left (by omega)] at h2; exact .inl ⟨j, h1, h2⟩
    · rw [List.getElem?_append_right e] at h1; rw [List.getElem?_append_right (by omega)] at h2
      have e1 : j - vs.length = 0 := by
        rcases Nat.eq_zero_or_pos (j - vs.length) with e | e
        · exact e
        · rw [List.getElem?_eq_none (by simp; omega)] at h1; cases h1
      rw [← hl] at h2
      rw [e1] at h1 h2
      simp at h1 h2; exact .inr ⟨h1.symm, h2.symm⟩) y
end
end Go.Sl

/- Ends of functions that hold a range over a function. For whatever program. -/
namespace Go.Sl
section
variable {P : Program} {base : World} {n : Nat} {ds : List Deferred} {env : Env} {l l' : List HP} {F : HP} {fn : Func} {α : Type} {val : α → Value} {post : α → List HP} {t : Nat} {v1 : Value}
theorem rm1 (x : α) (hx : v1 = val x) (hres : fn.results = #[.tmp t] := by rfl) (hc : Colls ds l l' := by (repeat (first | exact Colls.nil _ | (apply Colls.cons; (focus ((repeat (first | (with_reducible exact Rem.here _ _) | (with_reducible apply Rem.there) | fail)); done))))); done) (h1 : look env t = some v1 := by rfl) (he : Ent l' (post x ++ [F]) := by (try simp only [List.cons_append, List.nil_append]); (repeat (first | (with_reducible exact Ent.refl _) | (with_reducible exact Ent.nil _) | (apply Ent.fact; (focus (first | assumption | omega | decide | exact rfl | fail))) | (apply Ent.keep; (focus ((repeat (first | (with_reducible exact Rem.here _ _) | (with_reducible apply Rem.there) | fail)); done)); (focus (infer_instance))) | (apply Ent.cons; (focus ((repeat (first | (with_reducible exact Rem.here _ _) | (with_reducible apply Rem.there) | fail)); done))) | exact Ent.refl _ | exact Ent.nil _ | apply Ent.vecNil | apply Ent.roNil | fail)); done) : TK base n ds (fnPostM P base fn val post F .ret) env l := tk_retm1 hres hc (.tmp h1) x hx he
theorem rmv1 {T T' b : Nat} {rest : List HP} [NAgg P T] (x : α) (hx : v1 = val x) (hres : fn.results = #[.cell t T] := by rfl) (hc : Colls ds l l' := by (repeat (first | exact Colls.nil _ | (apply Colls.cons; (focus ((repeat (first | (with_reducible exact Rem.here _ _) | (with_reducible apply Rem.there) | fail)); done))))); done) (hp : look env t = some (.pointer (some ⟨b, 0, none⟩)) := by rfl) (hr : Rem l' (obj b T' [v1]) rest := by (repeat (first | (with_reducible exact Rem.here _ _) | (with_reducible apply Rem.there) | fail)); done) (he : Ent l' (post x ++ [F]) := by (try simp only [List.cons_append, List.nil_append]); (repeat (first | (with_reducible exact Ent.refl _) | (with_reducible exact Ent.nil _) | (apply Ent.fact; (focus (first | assumption | omega | decide | exact rfl | fail))) | (apply Ent.keep; (focus ((repeat (first | (with_reducible exact Rem.here _ _) | (with_reducible apply Rem.there) | fail)); done)); (focus (infer_instance))) | (apply Ent.cons; (focus ((repeat (first | (with_reducible exact Rem.here _ _) | (with_reducible apply Rem.there) | fail)); done))) | exact Ent.refl _ | exact Ent.nil _ | apply Ent.vecNil | apply Ent.roNil | fail)); done) : TK base n ds (fnPostM P base fn val post F .ret) env l := tk_retm1 hres hc (.cell hp (rd_obj hr)) x hx he
theorem re0m (x : α) (hx : (.tuple #[] : Value) = val x) (hres : fn.results = #[] := by rfl) (hc : Colls ds l l' := by (repeat (first | exact Colls.nil _ | (apply Colls.cons; (focus ((repeat (first | (with_reducible exact Rem.here _ _) | (with_reducible apply Rem.there) | fail)); done))))); done) (he : Ent l' (post x ++ [F]) := by (try simp only [List.cons_append, List.nil_append]); (repeat (first | (with_reducible exact Ent.refl _) | (with_reducible exact Ent.nil _) | (apply Ent.fact; (focus (first | assumption | omega | decide | exact rfl | fail))) | (apply Ent.keep; (focus ((repeat (first | (with_reducible exact Rem.here _ _) | (with_reducible apply Rem.there) | fail)); done)); (focus (infer_instance))) | (apply Ent.cons; (focus ((repeat (first | (with_reducible exact Rem.here _ _) | (with_reducible apply Rem.there) | fail)); done))) | exact Ent.refl _ | exact Ent.nil _ | apply Ent.vecNil | apply Ent.roNil | fail)); done) : TK base n ds (fnPostM P base fn val post F .normal) env l := tk_endm0 hres hc x hx he
end
section
variable {r : Option Nat} {P : Program} {base : World} {n : Nat} {ds : List Deferred} {Q : Exit → Act → World → Prop} {env : Env} {l l' : List HP}
theorem tc_factF {c : Code} {rb : Nat} {o : Obj} : TC r P base n ds c Q env (blk rb o :: fact False :: l) := fun _ _ _ hw => by
  obtain ⟨_, _, hl⟩ := hw.heap
  exact (lst_fact (lst_swap hl)).1.elim
/-- A round begins; it ends. -/
theorem rb {lp : Nat} {rec : Loop} {body : Code} {RR : Exit → Act → World → Prop} (hst : rec.state = .ready) (h : TC (some lp) P base n ds body RR env l') (hr : Rep (blk lp (.loop rec)) (blk lp (.loop (busyL rec))) l l' := by (repeat (first | (with_reducible exact Rep.here _) | (with_reducible apply Rep.there) | fail)); done) : TK base n ds (Rb P lp body RR) env l := tk_rb hst hr h
theorem rp {lp : Nat} {rec : Loop} {F : HP} {post : Option Code → List HP} (hst : rec.state = .ready) (hpe : rec.pending = none) (he : Ent l' (post none ++ [F])) (hr : Rep (blk lp (.loop (busyL rec))) (blk lp (.loop rec)) l l' := by (repeat (first | (with_reducible exact Rep.here _) | (with_reducible apply Rep.there) | fail)); done) : TK base n ds (Rp P lp base F post .normal) env l := tk_rp_n hst hpe hr he
end
end Go.Sl

/- A loop whose rounds leave marks; the end of a round that leaves the loop. For whatever program. -/
namespace Go.Sl
section
variable {r : Option Nat} {P : Program} {base : World} {n : Nat} {ds : List Deferred} {Q : Exit → Act → World → Prop} {env : Env} {l l' : List HP}
def AgainD {ι : Type} (base : World) (n : Nat) (D : ι → List Deferred) (K : Act → World → Prop) (m : ι → Nat) (I : ι → Env) (L : ι → List HP) (i : ι) : Prop := ∀ env l j, m j < m i → Sub env (I j) → Ent l (L j) → TK base n (D j) K env l
theorem againD {ι : Type} {D : ι → List Deferred} {K : Act → World → Prop} {m : ι → Nat} {I : ι → Env} {L : ι → List HP} {i : ι} (hA : AgainD base n D K m I L i) (j : ι) (hd : ds = D j := by rfl) (hm : m j < m i := by (try dsimp only); omega) (hs : Sub env (I j) := by (repeat (first | exact Sub.nil | (apply Sub.cons; exact rfl))); done) (he : Ent l (L j) := by (try simp only [List.cons_append, List.nil_append]); (repeat (first | (with_reducible exact Ent.refl _) | (with_reducible exact Ent.nil _) | (apply Ent.fact; (focus (first | assumption | omega | decide | exact rfl | fail))) | (apply Ent.keep; (focus ((repeat (first | (with_reducible exact Rem.here _ _) | (with_reducible apply Rem.there) | fail)); done)); (focus (infer_instance))) | (apply Ent.cons; (focus ((repeat (first | (with_reducible exact Rem.here _ _) | (with_reducible apply Rem.there) | fail)); done))) | exact Ent.refl _ | exact Ent.nil _ | apply Ent.vecNil | apply Ent.roNil | fail)); done) : TK base n ds K env l := by
  subst hd; exact hA _ _ j hm hs he
/-- A loop in which marks are laid. -/
theorem tc_lpD {ι : Type} {c : Code} (ks : List Nat) (I : Env → ι → Env) (D : ι → List Deferred) (L : ι → List HP) (m : ι → Nat) (i0 : ι) {keep : Env} (round : ∀ (K : Act → World → Prop) (i : ι), AgainD base n D K m (I keep) L i → TC r P base n (D i) c (Th K Q) (I keep i) (L i))
    (hd : ds = D i0 := by rfl) (hs : Lps ks env ks (I keep i0) := by (repeat (first | (apply Lps.chg; exact rfl) | fail)); apply Lps.rest; (repeat (first | exact Kept.nil _ | (apply Kept.skip; exact rfl) | (apply Kept.keep; exact rfl) | fail)); done) (hl : Ent l (L i0) := by (try simp only [List.cons_append, List.nil_append]); (repeat (first | (with_reducible exact Ent.refl _) | (with_reducible exact Ent.nil _) | (apply Ent.fact; (focus (first | assumption | omega | decide | exact rfl | fail))) | (apply Ent.keep; (focus ((repeat (first | (with_reducible exact Rem.here _ _) | (with_reducible apply Rem.there) | fail)); done)); (focus (infer_instance))) | (apply Ent.cons; (focus ((repeat (first | (with_reducible exact Rem.here _ _) | (with_reducible apply Rem.there) | fail)); done))) | exact Ent.refl _ | exact Ent.nil _ | apply Ent.vecNil | apply Ent.roNil | fail)); done) : TC r P base n ds (.loop c) Q env l := by
  subst hd
  exact fun a w ha hw =>
    wpIn_loop_ix (fun i a w => AS n (D i) (I keep i) a ∧ St base (L i) w) m
      (fun i _ _ h => round _ i (fun _ _ j hj s e _ _ ha' hw' => ⟨j, hj, ha'.sub s, hw'.ent e⟩) _ _ h.1 h.2) i0 ⟨ha.subs hs.sub, hw.ent hl⟩
/-- The marks that loops have left. -/
def Marks (rbs : List Nat) : HP := lst (rbs.map fun rb => blk rb (.deferred (some [])))
theorem TC.marks0 {c : Code} (h : TC r P base n ds c Q env (Marks [] :: l)) : TC r P base n ds c Q env l := TK.ent (l' := Marks [] :: l) (fun x y => ⟨fun _ => none, x, fun _ => .inl rfl, by funext k; rfl, trivial, y⟩) h
theorem Marks.cons {rb : Nat} {rbs : List Nat} {rest : List HP} (h : Rem l (Marks rbs) rest) : Ent (blk rb (.deferred (some [])) :: l) (Marks (rb :: rbs) :: rest) := fun x y => by
  obtain ⟨a, b, hd, rfl, ha, hb⟩ := y
  obtain ⟨c, e, hd2, rfl, hc, he⟩ := h.out hb
  obtain ⟨d1, d2⟩ := Disj.join_right hd2 hd
  exact ⟨joinH a c, e, d2.joinl hd2, (joinH_assoc a c e).symm, ⟨a, c, d1, rfl, ha, hc⟩, he⟩
theorem TK.markC {K : Act → World → Prop} {rb : Nat} {rbs : List Nat} {r1 r2 : List HP} (h : TK base n ds K env (Marks (rb :: rbs) :: r2)) (hr : Rem l (blk rb (.deferred (some []))) r1 := by (repeat (first | (with_reducible exact Rem.here _ _) | (with_reducible apply Rem.there) | fail)); done) (hm : Rem r1 (Marks rbs) r2 := by (repeat (first | (with_reducible exact Rem.here _ _) | (with_reducible apply Rem.there) | fail)); done) : TK base n ds K env l :=
  TK.ent (fun _ y => Marks.cons hm _ (hr.out y)) h
theorem Marks.colls : ∀ {rbs : List Nat} {rest : List HP}, Colls (rbs.map coll) ((rbs.map fun rb => blk rb (.deferred (some []))) ++ rest) rest
  | [], _ => .nil _
  | _ :: _, _ => .cons (.here _ _) Marks.colls
theorem TK.marks {K : Act → World → Prop} {rbs : List Nat} {rest : List HP} (hr : Rem l (Marks rbs) rest) (h : TK base n ds K env ((rbs.map fun rb => blk rb (.deferred (some []))) ++ rest)) : TK base n ds K env l := TK.ent (fun _ y => lst_flat (hr.out y)) h
/-- The end of a function whose loops have left marks: the result lies in a cell. -/
theorem rmvM {F : HP} {fn : Func} {α : Type} {val : α → Value} {post : α → List HP} {t T T' b : Nat} {v1 : Value} {rest rest2 : List HP} {rbs : List Nat} [NAgg P T] (x : α) (hx : v1 = val x) (hres : fn.results = #[.cell t T] := by rfl) (hm : Rem l (Marks rbs) rest := by (repeat (first | (with_reducible exact Rem.here _ _) | (with_reducible apply Rem.there) | fail)); done) (hp : look env t = some (.pointer (some ⟨b, 0, none⟩)) := by rfl) (hr : Rem rest (obj b T' [v1]) rest2 := by (repeat (first | (with_reducible exact Rem.here _ _) | (with_reducible apply Rem.there) | fail)); done) (he : Ent rest (post x ++ [F]) := by (try simp only [List.cons_append, List.nil_append]); (repeat (first | (with_reducible exact Ent.refl _) | (with_reducible exact Ent.nil _) | (apply Ent.fact; (focus (first | assumption | omega | decide | exact rfl | fail))) | (apply Ent.keep; (focus ((repeat (first | (with_reducible exact Rem.here _ _) | (with_reducible apply Rem.there) | fail)); done)); (focus (infer_instance))) | (apply Ent.cons; (focus ((repeat (first | (with_reducible exact Rem.here _ _) | (with_reducible apply Rem.there) | fail)); done))) | exact Ent.refl _ | exact Ent.nil _ | apply Ent.vecNil | apply Ent.roNil | fail)); done) : TK base n (rbs.map coll) (fnPostM P base fn val post F .ret) env l :=
  TK.marks hm (tk_retm1 hres Marks.colls (.cell hp (rd_obj hr)) x hx he)
theorem tc_factR {c : Code} {p : Prop} {rest : List HP} (hr : Rem l (fact p) rest) (h : p → TC r P base n ds c Q env rest) : TC r P base n ds c Q env l := TK.ent (fun _ y => hr.out y) (TK.fact h)
/-- Here: a drawn region. -/
theorem atD {id : Nat} {ops : Array Oper} (h : TC r P base n ds (.region id ops true) Q env l) : TC r P base n ds (.region id ops true) Q env l := h
/-- A round that leaves the loop. -/
theorem rx {lp id : Nat} {rec : Loop} {F : HP} {post : Option Code → List HP} (he : Ent l' (post (some (.exit id)) ++ [F])) (hr : Rep (blk lp (.loop (busyL rec))) (blk lp (.loop (doneL rec (.exit id)))) l l' := by (repeat (first | (with_reducible exact Rep.here _) | (with_reducible apply Rep.there) | fail)); done) : TK base n ds (Rp P lp base F post (.exit id)) env l := tk_rp_x hr he
theorem rr {lp : Nat} {rec : Loop} {F : HP} {post : Option Code → List HP} (he : Ent l' (post (some .ret) ++ [F])) (hr : Rep (blk lp (.loop (busyL rec))) (blk lp (.loop (doneL rec .ret))) l l' := by (repeat (first | (with_reducible exact Rep.here _) | (with_reducible apply Rep.there) | fail)); done) : TK base n ds (Rp P lp base F post .ret) env l := tk_rp_r hr he
end
end Go.Sl

/- Steps where all is known. For whatever program. -/
namespace Go.Sl
/-- A boolean that is known. -/
theorem boolD {b c : Bool} (h : b = c) : (Value.bool b) = .bool c := by rw [h]
/-- A step of code. -/
theorem stDC {g q : Prop} (h : q → g := by
  show _ → TC _ _ _ _ _ _ _ _ _
  first
  | exact tc_seq
  | exact tc_region
  | exact tc_ret
  | exact tc_block
  | exact tc_exit
  | exact tc_skip
  | exact tc_cond_t (t := true) rfl rfl
  | exact tc_cond_f (t := false) rfl rfl
  | exact tc_if rfl
  | ((fail_if_success (first | exact tc_ifb (t := true) rfl | exact tc_ifb (t := false) rfl)); exact tc_ifb rfl)
  | (apply tc_still; (focus (decide +kernel)))
  | (apply tc_quietB; (focus (decide +kernel)); (focus (kernel_rfl)))
  | fail) : q → g := h
/-- A step behind code. -/
theorem stDK {g q : Prop} (h : q → g := by
  show _ → TK _ _ _ _ _ _
  first
  | exact tk_then_n
  | exact tk_nx
  | exact tk_then_r
  | exact tk_then_x
  | exact tk_blk_n
  | exact tk_blk_r
  | exact tk_blk_x
  | exact tk_blk_y rfl
  | exact TK.fact
  | fail) : q → g := h
/-- A step of operations. -/
theorem stDL {g q : Prop} (h : q → g := by
  show _ → TL _ _ _ _ _ _ _ _ _ _
  first
  | exact tl_nil
  | exact tl_fact
  | exact tl_skip rfl rfl rfl rfl rfl rfl (Nat.lt_of_ble_eq rfl)
  | (apply tl_q; (focus (first | (apply opq_move; (focus ((first | exact want_none rfl | exact want_yes rfl rfl rfl rfl rfl | fail))); exact rfl) | (apply opq_assign; (focus ((first | exact want_none rfl | exact want_yes rfl rfl rfl rfl rfl | fail))); exact rfl) | (apply opq_nilCheck; (focus ((first | exact want_none rfl | exact want_yes rfl rfl rfl rfl rfl | fail))); exact rfl) | (apply opq_fieldAddr; (focus ((first | exact want_none rfl | exact want_yes rfl rfl rfl rfl rfl | fail))); exact rfl) | (apply opq_load; (focus ((first | exact want_none rfl | exact want_yes rfl rfl rfl rfl rfl | fail))); exact rfl; (focus ((first | (apply rd_list; (focus ((repeat (first | (with_reducible exact Rem.here _ _) | (with_reducible apply Rem.there) | fail)); done)); assumption) | (apply rd_listV; (focus ((repeat (first | (with_reducible exact Rem.here _ _) | (with_reducible apply Rem.there) | fail)); done)); assumption) | (apply rd_obj1; (focus ((repeat (first | (with_reducible exact Rem.here _ _) | (with_reducible apply Rem.there) | fail)); done)); exact rfl) | (apply rd_cobj1; (focus ((repeat (first | (with_reducible exact Rem.here _ _) | (with_reducible apply Rem.there) | fail)); done)); exact rfl) | (apply rd_ix; (focus ((repeat (first | (with_reducible exact Rem.here _ _) | (with_reducible apply Rem.there) | fail)); done)); (focus (infer_instance)); (focus (omega)); exact rfl) | (apply rd_ix0; (focus ((repeat (first | (with_reducible exact Rem.here _ _) | (with_reducible apply Rem.there) | fail)); done)); (focus (infer_instance)); (focus (omega)); exact rfl) | (apply rd_ixS; (focus ((repeat (first | (with_reducible exact Rem.here _ _) | (with_reducible apply Rem.there) | fail)); done)); (focus (infer_instance)); (focus (omega)); exact rfl) | (apply rd_ix0S; (focus ((repeat (first | (with_reducible exact Rem.here _ _) | (with_reducible apply Rem.there) | fail)); done)); (focus (infer_instance)); (focus (omega)); exact rfl) | fail)))) | (apply opq_pick_t; (focus ((first | exact want_none rfl | exact want_yes rfl rfl rfl rfl rfl | fail))); exact rfl; exact rfl) | (apply opq_pick_f; (focus ((first | exact want_none rfl | exact want_yes rfl rfl rfl rfl rfl | fail))); exact rfl; exact rfl) | (first | (apply opq_lss; (focus ((first | exact want_none rfl | exact want_yes rfl rfl rfl rfl rfl | fail))); exact rfl; exact rfl; (focus ((first | exact decide_eq_true (by decide +kernel) | exact decide_eq_false (by decide +kernel) | exact decide_eq_true (by omega) | exact decide_eq_false (by omega) | exact rfl | fail)))) | (apply opq_leq; (focus ((first | exact want_none rfl | exact want_yes rfl rfl rfl rfl rfl | fail))); exact rfl; exact rfl; (focus ((first | exact decide_eq_true (by decide +kernel) | exact decide_eq_false (by decide +kernel) | exact decide_eq_true (by omega) | exact decide_eq_false (by omega) | exact rfl | fail)))) | (apply opq_gtr; (focus ((first | exact want_none rfl | exact want_yes rfl rfl rfl rfl rfl | fail))); exact rfl; exact rfl; (focus ((first | exact decide_eq_true (by decide +kernel) | exact decide_eq_false (by decide +kernel) | exact decide_eq_true (by omega) | exact decide_eq_false (by omega) | exact rfl | fail)))) | (apply opq_geq; (focus ((first | exact want_none rfl | exact want_yes rfl rfl rfl rfl rfl | fail))); exact rfl; exact rfl; (focus ((first | exact decide_eq_true (by decide +kernel) | exact decide_eq_false (by decide +kernel) | exact decide_eq_true (by omega) | exact decide_eq_false (by omega) | exact rfl | fail)))) | (apply opq_eql; (focus ((first | exact want_none rfl | exact want_yes rfl rfl rfl rfl rfl | fail))); exact rfl; exact rfl; (focus ((first | exact decide_eq_true (by decide +kernel) | exact decide_eq_false (by decide +kernel) | exact decide_eq_true (by omega) | exact decide_eq_false (by omega) | exact rfl | fail)))) | (apply opq_neq; (focus ((first | exact want_none rfl | exact want_yes rfl rfl rfl rfl rfl | fail))); exact rfl; exact rfl; (focus ((first | exact decide_eq_true (by decide +kernel) | exact decide_eq_false (by decide +kernel) | exact decide_eq_true (by omega) | exact decide_eq_false (by omega) | exact rfl | fail)))) | fail) | (apply opq_eq_nil; (focus ((first | exact want_none rfl | exact want_yes rfl rfl rfl rfl rfl | fail))); exact rfl; exact rfl) | (apply opq_eq_nil'; (focus ((first | exact want_none rfl | exact want_yes rfl rfl rfl rfl rfl | fail))); exact rfl; exact rfl) | (apply opq_ne_nil; (focus ((first | exact want_none rfl | exact want_yes rfl rfl rfl rfl rfl | fail))); exact rfl; exact rfl) | (apply opq_ne_nil'; (focus ((first | exact want_none rfl | exact want_yes rfl rfl rfl rfl rfl | fail))); exact rfl; exact rfl) | (apply opq_as; (focus (apply opq_eq_nils; (focus ((first | exact want_none rfl | exact want_yes rfl rfl rfl rfl rfl | fail))); exact rfl; exact rfl)); exact rfl) | (apply opq_eq_nilf; (focus ((first | exact want_none rfl | exact want_yes rfl rfl rfl rfl rfl | fail))); exact rfl; exact rfl) | (apply opq_extract; (focus ((first | exact want_none rfl | exact want_yes rfl rfl rfl rfl rfl | fail))); exact rfl; exact rfl) | (apply opq_field; (focus ((first | exact want_none rfl | exact want_yes rfl rfl rfl rfl rfl | fail))); exact rfl; exact rfl) | (apply opq_loadAgg; (focus ((first | exact want_none rfl | exact want_yes rfl rfl rfl rfl rfl | fail))); exact rfl; (focus ((first | (apply rd_obj; (focus ((repeat (first | (with_reducible exact Rem.here _ _) | (with_reducible apply Rem.there) | fail)); done))) | (apply rd_cobj; (focus ((repeat (first | (with_reducible exact Rem.here _ _) | (with_reducible apply Rem.there) | fail)); done))) | (apply rd_row; (focus ((repeat (first | (with_reducible exact Rem.here _ _) | (with_reducible apply Rem.there) | fail)); done)); (focus (infer_instance)); (focus (omega)); exact rfl) | (apply rd_rowS; (focus ((repeat (first | (with_reducible exact Rem.here _ _) | (with_reducible apply Rem.there) | fail)); done)); (focus (infer_instance)); (focus (omega)); exact rfl) | fail))); exact rfl) | (apply opq_notD; (focus ((first | exact want_none rfl | exact want_yes rfl rfl rfl rfl rfl | fail))); exact rfl) | (apply opq_not; (focus ((first | exact want_none rfl | exact want_yes rfl rfl rfl rfl rfl | fail))); exact rfl) | (apply opq_len; (focus ((first | exact want_none rfl | exact want_yes rfl rfl rfl rfl rfl | fail))); exact rfl) | (apply opq_as; (focus (apply opq_add; (focus ((first | exact want_none rfl | exact want_yes rfl rfl rfl rfl rfl | fail))); exact rfl; exact rfl)); (focus (exact congrArg (Value.int _) (by first | exact IntWalk.i64_in _ (by omega) | exact IntWalk.u32_in _ (by omega) | exact IntWalk.u8_in _ (by omega) | exact IntWalk.u64_in _ (by omega) | exact IntWalk.u16_in _ (by omega) | exact IntWalk.i32_in _ (by omega) | fail)))) | (apply opq_as; (focus (apply opq_sub; (focus ((first | exact want_none rfl | exact want_yes rfl rfl rfl rfl rfl | fail))); exact rfl; exact rfl)); (focus (exact congrArg (Value.int _) (by first | exact IntWalk.i64_in _ (by omega) | exact IntWalk.u32_in _ (by omega) | exact IntWalk.u8_in _ (by omega) | exact IntWalk.u64_in _ (by omega) | exact IntWalk.u16_in _ (by omega) | exact IntWalk.i32_in _ (by omega) | fail)))) | (apply opq_as; (focus (apply opq_mul; (focus ((first | exact want_none rfl | exact want_yes rfl rfl rfl rfl rfl | fail))); exact rfl; exact rfl)); (focus (exact congrArg (Value.int _) (by first | exact IntWalk.i64_in _ (by omega) | exact IntWalk.u32_in _ (by omega) | exact IntWalk.u8_in _ (by omega) | exact IntWalk.u64_in _ (by omega) | exact IntWalk.u16_in _ (by omega) | exact IntWalk.i32_in _ (by omega) | fail)))) | (apply opq_as; (focus (apply opq_conv; (focus ((first | exact want_none rfl | exact want_yes rfl rfl rfl rfl rfl | fail))); exact rfl)); (focus (exact congrArg (Value.int _) (by first | exact IntWalk.i64_in _ (by omega) | exact IntWalk.u32_in _ (by omega) | exact IntWalk.u8_in _ (by omega) | exact IntWalk.u64_in _ (by omega) | exact IntWalk.u16_in _ (by omega) | exact IntWalk.i32_in _ (by omega) | fail)))) | (apply opq_add; (focus ((first | exact want_none rfl | exact want_yes rfl rfl rfl rfl rfl | fail))); exact rfl; exact rfl) | (apply opq_sub; (focus ((first | exact want_none rfl | exact want_yes rfl rfl rfl rfl rfl | fail))); exact rfl; exact rfl) | (apply opq_mul; (focus ((first | exact want_none rfl | exact want_yes rfl rfl rfl rfl rfl | fail))); exact rfl; exact rfl) | (apply opq_conv; (focus ((first | exact want_none rfl | exact want_yes rfl rfl rfl rfl rfl | fail))); exact rfl) | (apply opq_eqb; (focus ((first | exact want_none rfl | exact want_yes rfl rfl rfl rfl rfl | fail))); exact rfl; exact rfl) | (apply opq_neb; (focus ((first | exact want_none rfl | exact want_yes rfl rfl rfl rfl rfl | fail))); exact rfl; exact rfl) | (apply opq_ixAddrE; (focus ((first | exact want_none rfl | exact want_yes rfl rfl rfl rfl rfl | fail))); exact rfl; exact rfl; (focus (infer_instance)); (focus (omega))) | (apply opq_ixAddr; (focus ((first | exact want_none rfl | exact want_yes rfl rfl rfl rfl rfl | fail))); exact rfl; exact rfl; (focus ((repeat (first | (with_reducible exact Rem.here _ _) | (with_reducible apply Rem.there) | fail)); done)); (focus (infer_instance)); (focus (omega))) | (apply opq_ixAddrS; (focus ((first | exact want_none rfl | exact want_yes rfl rfl rfl rfl rfl | fail))); exact rfl; exact rfl; (focus ((repeat (first | (with_reducible exact Rem.here _ _) | (with_reducible apply Rem.there) | fail)); done)); (focus (infer_instance)); (focus (omega))) | (apply opq_index; (focus ((first | exact want_none rfl | exact want_yes rfl rfl rfl rfl rfl | fail))); exact rfl; exact rfl; (focus (omega)); (focus (omega)); exact rfl) | (apply opq_makeFunc; (focus ((first | exact want_none rfl | exact want_yes rfl rfl rfl rfl rfl | fail))); (focus ((repeat (first | exact Evs.nil | (apply Evs.cons; exact rfl) | fail)); done)); (focus ((repeat (first | exact Evs.nil | (apply Evs.cons; exact rfl) | fail)); done))) | (apply opq_build1; (focus ((first | exact want_none rfl | exact want_yes rfl rfl rfl rfl rfl | fail))); (focus ((repeat (first | exact Evs.nil | (apply Evs.cons; exact rfl) | fail)); done)); exact rfl; exact rfl; exact rfl; exact rfl) | (apply opq_buildA; (focus ((first | exact want_none rfl | exact want_yes rfl rfl rfl rfl rfl | fail))); (focus ((repeat (first | exact Evs.nil | (apply Evs.cons; exact rfl) | fail)); done)); exact rfl; exact rfl; exact rfl; exact rfl) | (apply opq_build0; (focus ((first | exact want_none rfl | exact want_yes rfl rfl rfl rfl rfl | fail)))) | fail)); exact rfl; exact Nat.lt_of_ble_eq rfl)
  | ((fail_if_success (first | exact tl_ifb (t := true) rfl rfl rfl rfl | exact tl_ifb (t := false) rfl rfl rfl rfl)); exact tl_if rfl rfl rfl rfl)
  | ((fail_if_success (first | exact tl_ifb (t := true) rfl rfl rfl rfl | exact tl_ifb (t := false) rfl rfl rfl rfl)); exact tl_ifb rfl rfl rfl rfl)
  | (apply tl_m; exact rfl; exact Nat.lt_of_ble_eq rfl; (focus (first | (apply opn_alloc; (focus ((first | exact want_none rfl | exact want_yes rfl rfl rfl rfl rfl | fail))); (focus (first | exact IsCells.one rfl | exact IsCells.agg _ rfl | fail))) | (apply opn_box; (focus ((first | exact want_none rfl | exact want_yes rfl rfl rfl rfl rfl | fail))); exact rfl; (focus (first | exact IsCells.one rfl | exact IsCells.agg _ rfl | fail))) | (apply opn_storeObj; (focus ((first | exact want_none rfl | exact want_yes rfl rfl rfl rfl rfl | fail))); exact rfl; exact rfl; (focus (first | exact IsCells.one rfl | exact IsCells.agg _ rfl | fail)); exact rfl; (focus ((repeat (first | (with_reducible exact Rep.here _) | (with_reducible apply Rep.there) | fail)); done)); exact rfl; (focus (simp only [setL, List.set_cons_zero, List.set_cons_succ, Nat.zero_add]; exact rfl))) | (apply opn_storeIx; (focus ((first | exact want_none rfl | exact want_yes rfl rfl rfl rfl rfl | fail))); exact rfl; exact rfl; (focus (first | exact IsCells.one rfl | exact IsCells.agg _ rfl | fail)); exact rfl; (focus ((repeat (first | (with_reducible exact Rem.here _ _) | (with_reducible apply Rem.there) | fail)); done)); (focus (infer_instance)); (focus (omega)); (focus ((repeat (first | (with_reducible exact Rep.here _) | (with_reducible apply Rep.there) | fail)); done))) | (apply opn_storeIx0; (focus ((first | exact want_none rfl | exact want_yes rfl rfl rfl rfl rfl | fail))); exact rfl; exact rfl; (focus (first | exact IsCells.one rfl | exact IsCells.agg _ rfl | fail)); exact rfl; (focus ((repeat (first | (with_reducible exact Rem.here _ _) | (with_reducible apply Rem.there) | fail)); done)); (focus (infer_instance)); (focus (omega)); (focus ((repeat (first | (with_reducible exact Rep.here _) | (with_reducible apply Rep.there) | fail)); done))) | (apply opn_buildSlice1; (focus ((first | exact want_none rfl | exact want_yes rfl rfl rfl rfl rfl | fail))); (focus ((repeat (first | exact Evs.nil | (apply Evs.cons; exact rfl) | fail)); done)); exact rfl; exact rfl; exact rfl; exact rfl) | (apply opn_appVV; (focus ((first | exact want_none rfl | exact want_yes rfl rfl rfl rfl rfl | fail))); exact rfl; exact rfl; (focus ((repeat (first | (with_reducible exact Rem.here _ _) | (with_reducible apply Rem.there) | fail)); done)); (focus ((repeat (first | (with_reducible exact Rem.here _ _) | (with_reducible apply Rem.there) | fail)); done)); (focus (infer_instance)); (focus (first | exact IsCells.one rfl | exact IsCells.agg _ rfl | fail)); exact rfl; (focus (omega)); (focus (omega))) | (apply opn_appVS; (focus ((first | exact want_none rfl | exact want_yes rfl rfl rfl rfl rfl | fail))); exact rfl; exact rfl; (focus ((repeat (first | (with_reducible exact Rem.here _ _) | (with_reducible apply Rem.there) | fail)); done)); (focus ((repeat (first | (with_reducible exact Rem.here _ _) | (with_reducible apply Rem.there) | fail)); done)); (focus (infer_instance)); (focus (first | exact IsCells.one rfl | exact IsCells.agg _ rfl | fail)); exact rfl; (focus (omega)); (focus (omega))) | (apply opn_appNV; (focus ((first | exact want_none rfl | exact want_yes rfl rfl rfl rfl rfl | fail))); exact rfl; exact rfl; (focus ((repeat (first | (with_reducible exact Rem.here _ _) | (with_reducible apply Rem.there) | fail)); done)); (focus (infer_instance)); (focus (first | exact IsCells.one rfl | exact IsCells.agg _ rfl | fail)); exact rfl; (focus (omega)); (focus (omega))) | (apply opn_appNS; (focus ((first | exact want_none rfl | exact want_yes rfl rfl rfl rfl rfl | fail))); exact rfl; exact rfl; (focus ((repeat (first | (with_reducible exact Rem.here _ _) | (with_reducible apply Rem.there) | fail)); done)); (focus (infer_instance)); (focus (first | exact IsCells.one rfl | exact IsCells.agg _ rfl | fail)); exact rfl; (focus (omega)); (focus (omega))) | (apply opn_make; (focus ((first | exact want_none rfl | exact want_yes rfl rfl rfl rfl rfl | fail))); exact rfl; exact rfl; exact rfl; exact rfl; (focus (infer_instance)); (focus (first | exact IsCells.one rfl | exact IsCells.agg _ rfl | fail)); exact rfl; (focus (omega)); (focus (omega)); (focus (omega)); exact rfl) | (apply opn_slLoS; (focus ((first | exact want_none rfl | exact want_yes rfl rfl rfl rfl rfl | fail))); exact rfl; exact rfl; (focus ((repeat (first | (with_reducible exact Rem.here _ _) | (with_reducible apply Rem.there) | fail)); done)); (focus (infer_instance)); (focus (omega))) | (apply opn_slHiS; (focus ((first | exact want_none rfl | exact want_yes rfl rfl rfl rfl rfl | fail))); exact rfl; exact rfl; (focus ((repeat (first | (with_reducible exact Rem.here _ _) | (with_reducible apply Rem.there) | fail)); done)); (focus (infer_instance)); (focus (omega))) | (apply opn_slLHS; (focus ((first | exact want_none rfl | exact want_yes rfl rfl rfl rfl rfl | fail))); exact rfl; exact rfl; exact rfl; (focus ((repeat (first | (with_reducible exact Rem.here _ _) | (with_reducible apply Rem.there) | fail)); done)); (focus (infer_instance)); (focus (infer_instance)); (focus (omega))) | (apply opn_callK; (focus ((first | exact want_none rfl | exact want_yes rfl rfl rfl rfl rfl | fail))); (focus ((repeat (first | exact Evs.nil | (apply Evs.cons; exact rfl) | fail)); done)); (intro hs; apply hs); (all_goals (try (focus ((repeat (first | (with_reducible exact PickF.nil _) | (apply PickF.keep; (focus ((repeat (first | (with_reducible exact Rem.here _ _) | (with_reducible apply Rem.there) | fail)); done)); (focus (infer_instance))) | (apply PickF.cons; (focus ((repeat (first | (with_reducible exact Rem.here _ _) | (with_reducible apply Rem.there) | fail)); done))) | (apply PickF.frz; (focus ((repeat (first | (with_reducible exact Rem.here _ _) | (with_reducible apply Rem.there) | fail)); done))) | apply PickF.ro0 | exact PickF.nil _ | fail)); done)))); (all_goals (first | (decide +kernel) | assumption | (infer_instance) | omega | exact rfl | decide | fail))) | (apply opn_appVT; (focus ((first | exact want_none rfl | exact want_yes rfl rfl rfl rfl rfl | fail))); exact rfl; exact rfl; (focus ((repeat (first | (with_reducible exact Rem.here _ _) | (with_reducible apply Rem.there) | fail)); done)); (focus ((repeat (first | (with_reducible exact Rem.here _ _) | (with_reducible apply Rem.there) | fail)); done)); (focus (infer_instance)); (focus (first | exact IsCells.one rfl | exact IsCells.agg _ rfl | fail)); exact rfl; (focus (omega)); (focus (omega)); (focus (omega))) | (apply opn_appNT; (focus ((first | exact want_none rfl | exact want_yes rfl rfl rfl rfl rfl | fail))); exact rfl; exact rfl; (focus ((repeat (first | (with_reducible exact Rem.here _ _) | (with_reducible apply Rem.there) | fail)); done)); (focus (infer_instance)); (focus (first | exact IsCells.one rfl | exact IsCells.agg _ rfl | fail)); exact rfl; (focus (omega)); (focus (omega)); (focus (omega))) | (apply opn_appVD; (focus ((first | exact want_none rfl | exact want_yes rfl rfl rfl rfl rfl | fail))); exact rfl; exact rfl; (focus ((repeat (first | (with_reducible exact Rem.here _ _) | (with_reducible apply Rem.there) | fail)); done)); (focus ((repeat (first | (with_reducible exact Rem.here _ _) | (with_reducible apply Rem.there) | fail)); done)); (focus (infer_instance)); (focus (first | exact IsCells.one rfl | exact IsCells.agg _ rfl | fail)); exact rfl; (focus (omega)); (focus (omega)); (focus (omega))) | fail)); intro h; (try refine prod_all ?_); (try dsimp only [List.cons_append, List.nil_append]); first | exact fun _ => h | exact h | fail)
  | (apply tl_m0; exact rfl; (focus (first | (apply opn_alloc; (focus ((first | exact want_none rfl | exact want_yes rfl rfl rfl rfl rfl | fail))); (focus (first | exact IsCells.one rfl | exact IsCells.agg _ rfl | fail))) | (apply opn_box; (focus ((first | exact want_none rfl | exact want_yes rfl rfl rfl rfl rfl | fail))); exact rfl; (focus (first | exact IsCells.one rfl | exact IsCells.agg _ rfl | fail))) | (apply opn_storeObj; (focus ((first | exact want_none rfl | exact want_yes rfl rfl rfl rfl rfl | fail))); exact rfl; exact rfl; (focus (first | exact IsCells.one rfl | exact IsCells.agg _ rfl | fail)); exact rfl; (focus ((repeat (first | (with_reducible exact Rep.here _) | (with_reducible apply Rep.there) | fail)); done)); exact rfl; (focus (simp only [setL, List.set_cons_zero, List.set_cons_succ, Nat.zero_add]; exact rfl))) | (apply opn_storeIx; (focus ((first | exact want_none rfl | exact want_yes rfl rfl rfl rfl rfl | fail))); exact rfl; exact rfl; (focus (first | exact IsCells.one rfl | exact IsCells.agg _ rfl | fail)); exact rfl; (focus ((repeat (first | (with_reducible exact Rem.here _ _) | (with_reducible apply Rem.there) | fail)); done)); (focus (infer_instance)); (focus (omega)); (focus ((repeat (first | (with_reducible exact Rep.here _) | (with_reducible apply Rep.there) | fail)); done))) | (apply opn_storeIx0; (focus ((first | exact want_none rfl | exact want_yes rfl rfl rfl rfl rfl | fail))); exact rfl; exact rfl; (focus (first | exact IsCells.one rfl | exact IsCells.agg _ rfl | fail)); exact rfl; (focus ((repeat (first | (with_reducible exact Rem.here _ _) | (with_reducible apply Rem.there) | fail)); done)); (focus (infer_instance)); (focus (omega)); (focus ((repeat (first | (with_reducible exact Rep.here _) | (with_reducible apply Rep.there) | fail)); done))) | (apply opn_buildSlice1; (focus ((first | exact want_none rfl | exact want_yes rfl rfl rfl rfl rfl | fail))); (focus ((repeat (first | exact Evs.nil | (apply Evs.cons; exact rfl) | fail)); done)); exact rfl; exact rfl; exact rfl; exact rfl) | (apply opn_appVV; (focus ((first | exact want_none rfl | exact want_yes rfl rfl rfl rfl rfl | fail))); exact rfl; exact rfl; (focus ((repeat (first | (with_reducible exact Rem.here _ _) | (with_reducible apply Rem.there) | fail)); done)); (focus ((repeat (first | (with_reducible exact Rem.here _ _) | (with_reducible apply Rem.there) | fail)); done)); (focus (infer_instance)); (focus (first | exact IsCells.one rfl | exact IsCells.agg _ rfl | fail)); exact rfl; (focus (omega)); (focus (omega))) | (apply opn_appVS; (focus ((first | exact want_none rfl | exact want_yes rfl rfl rfl rfl rfl | fail))); exact rfl; exact rfl; (focus ((repeat (first | (with_reducible exact Rem.here _ _) | (with_reducible apply Rem.there) | fail)); done)); (focus ((repeat (first | (with_reducible exact Rem.here _ _) | (with_reducible apply Rem.there) | fail)); done)); (focus (infer_instance)); (focus (first | exact IsCells.one rfl | exact IsCells.agg _ rfl | fail)); exact rfl; (focus (omega)); (focus (omega))) | (apply opn_appNV; (focus ((first | exact want_none rfl | exact want_yes rfl rfl rfl rfl rfl | fail))); exact rfl; exact rfl; (focus ((repeat (first | (with_reducible exact Rem.here _ _) | (with_reducible apply Rem.there) | fail)); done)); (focus (infer_instance)); (focus (first | exact IsCells.one rfl | exact IsCells.agg _ rfl | fail)); exact rfl; (focus (omega)); (focus (omega))) | (apply opn_appNS; (focus ((first | exact want_none rfl | exact want_yes rfl rfl rfl rfl rfl | fail))); exact rfl; exact rfl; (focus ((repeat (first | (with_reducible exact Rem.here _ _) | (with_reducible apply Rem.there) | fail)); done)); (focus (infer_instance)); (focus (first | exact IsCells.one rfl | exact IsCells.agg _ rfl | fail)); exact rfl; (focus (omega)); (focus (omega))) | (apply opn_make; (focus ((first | exact want_none rfl | exact want_yes rfl rfl rfl rfl rfl | fail))); exact rfl; exact rfl; exact rfl; exact rfl; (focus (infer_instance)); (focus (first | exact IsCells.one rfl | exact IsCells.agg _ rfl | fail)); exact rfl; (focus (omega)); (focus (omega)); (focus (omega)); exact rfl) | (apply opn_slLoS; (focus ((first | exact want_none rfl | exact want_yes rfl rfl rfl rfl rfl | fail))); exact rfl; exact rfl; (focus ((repeat (first | (with_reducible exact Rem.here _ _) | (with_reducible apply Rem.there) | fail)); done)); (focus (infer_instance)); (focus (omega))) | (apply opn_slHiS; (focus ((first | exact want_none rfl | exact want_yes rfl rfl rfl rfl rfl | fail))); exact rfl; exact rfl; (focus ((repeat (first | (with_reducible exact Rem.here _ _) | (with_reducible apply Rem.there) | fail)); done)); (focus (infer_instance)); (focus (omega))) | (apply opn_slLHS; (focus ((first | exact want_none rfl | exact want_yes rfl rfl rfl rfl rfl | fail))); exact rfl; exact rfl; exact rfl; (focus ((repeat (first | (with_reducible exact Rem.here _ _) | (with_reducible apply Rem.there) | fail)); done)); (focus (infer_instance)); (focus (infer_instance)); (focus (omega))) | (apply opn_callK; (focus ((first | exact want_none rfl | exact want_yes rfl rfl rfl rfl rfl | fail))); (focus ((repeat (first | exact Evs.nil | (apply Evs.cons; exact rfl) | fail)); done)); (intro hs; apply hs); (all_goals (try (focus ((repeat (first | (with_reducible exact PickF.nil _) | (apply PickF.keep; (focus ((repeat (first | (with_reducible exact Rem.here _ _) | (with_reducible apply Rem.there) | fail)); done)); (focus (infer_instance))) | (apply PickF.cons; (focus ((repeat (first | (with_reducible exact Rem.here _ _) | (with_reducible apply Rem.there) | fail)); done))) | (apply PickF.frz; (focus ((repeat (first | (with_reducible exact Rem.here _ _) | (with_reducible apply Rem.there) | fail)); done))) | apply PickF.ro0 | exact PickF.nil _ | fail)); done)))); (all_goals (first | (decide +kernel) | assumption | (infer_instance) | omega | exact rfl | decide | fail))) | (apply opn_appVT; (focus ((first | exact want_none rfl | exact want_yes rfl rfl rfl rfl rfl | fail))); exact rfl; exact rfl; (focus ((repeat (first | (with_reducible exact Rem.here _ _) | (with_reducible apply Rem.there) | fail)); done)); (focus ((repeat (first | (with_reducible exact Rem.here _ _) | (with_reducible apply Rem.there) | fail)); done)); (focus (infer_instance)); (focus (first | exact IsCells.one rfl | exact IsCells.agg _ rfl | fail)); exact rfl; (focus (omega)); (focus (omega)); (focus (omega))) | (apply opn_appNT; (focus ((first | exact want_none rfl | exact want_yes rfl rfl rfl rfl rfl | fail))); exact rfl; exact rfl; (focus ((repeat (first | (with_reducible exact Rem.here _ _) | (with_reducible apply Rem.there) | fail)); done)); (focus (infer_instance)); (focus (first | exact IsCells.one rfl | exact IsCells.agg _ rfl | fail)); exact rfl; (focus (omega)); (focus (omega)); (focus (omega))) | (apply opn_appVD; (focus ((first | exact want_none rfl | exact want_yes rfl rfl rfl rfl rfl | fail))); exact rfl; exact rfl; (focus ((repeat (first | (with_reducible exact Rem.here _ _) | (with_reducible apply Rem.there) | fail)); done)); (focus ((repeat (first | (with_reducible exact Rem.here _ _) | (with_reducible apply Rem.there) | fail)); done)); (focus (infer_instance)); (focus (first | exact IsCells.one rfl | exact IsCells.agg _ rfl | fail)); exact rfl; (focus (omega)); (focus (omega)); (focus (omega))) | fail)); intro h; (try refine prod_all ?_); (try dsimp only [List.cons_append, List.nil_append]); first | exact fun _ => h | exact h | fail)
  | fail) : q → g := h
/-- A step in a drawn region. -/
theorem stDQ {g q : Prop} (h : q → g := by
  first | (show _ → TQ _ _ _ _ _ _ _ _ _) | (show _ → WA _ _ _ _ _ _ _ _ _ _ _ _) | fail
  first
  | (apply tq_nilN; intro h; (try dsimp only [List.cons_append, List.nil_append, List.append_nil]); exact h)
  | (apply tq_cons; (focus (first | (apply opq_move; (focus ((first | exact want_none rfl | exact want_yes rfl rfl rfl rfl rfl | fail))); exact rfl) | (apply opq_assign; (focus ((first | exact want_none rfl | exact want_yes rfl rfl rfl rfl rfl | fail))); exact rfl) | (apply opq_nilCheck; (focus ((first | exact want_none rfl | exact want_yes rfl rfl rfl rfl rfl | fail))); exact rfl) | (apply opq_fieldAddr; (focus ((first | exact want_none rfl | exact want_yes rfl rfl rfl rfl rfl | fail))); exact rfl) | (apply opq_load; (focus ((first | exact want_none rfl | exact want_yes rfl rfl rfl rfl rfl | fail))); exact rfl; (focus ((first | (apply rd_list; (focus ((repeat (first | (with_reducible exact Rem.here _ _) | (with_reducible apply Rem.there) | fail)); done)); assumption) | (apply rd_listV; (focus ((repeat (first | (with_reducible exact Rem.here _ _) | (with_reducible apply Rem.there) | fail)); done)); assumption) | (apply rd_obj1; (focus ((repeat (first | (with_reducible exact Rem.here _ _) | (with_reducible apply Rem.there) | fail)); done)); exact rfl) | (apply rd_cobj1; (focus ((repeat (first | (with_reducible exact Rem.here _ _) | (with_reducible apply Rem.there) | fail)); done)); exact rfl) | (apply rd_ix; (focus ((repeat (first | (with_reducible exact Rem.here _ _) | (with_reducible apply Rem.there) | fail)); done)); (focus (infer_instance)); (focus (omega)); exact rfl) | (apply rd_ix0; (focus ((repeat (first | (with_reducible exact Rem.here _ _) | (with_reducible apply Rem.there) | fail)); done)); (focus (infer_instance)); (focus (omega)); exact rfl) | (apply rd_ixS; (focus ((repeat (first | (with_reducible exact Rem.here _ _) | (with_reducible apply Rem.there) | fail)); done)); (focus (infer_instance)); (focus (omega)); exact rfl) | (apply rd_ix0S; (focus ((repeat (first | (with_reducible exact Rem.here _ _) | (with_reducible apply Rem.there) | fail)); done)); (focus (infer_instance)); (focus (omega)); exact rfl) | fail)))) | (apply opq_pick_t; (focus ((first | exact want_none rfl | exact want_yes rfl rfl rfl rfl rfl | fail))); exact rfl; exact rfl) | (apply opq_pick_f; (focus ((first | exact want_none rfl | exact want_yes rfl rfl rfl rfl rfl | fail))); exact rfl; exact rfl) | (first | (apply opq_lss; (focus ((first | exact want_none rfl | exact want_yes rfl rfl rfl rfl rfl | fail))); exact rfl; exact rfl; (focus ((first | exact decide_eq_true (by decide +kernel) | exact decide_eq_false (by decide +kernel) | exact decide_eq_true (by omega) | exact decide_eq_false (by omega) | exact rfl | fail)))) | (apply opq_leq; (focus ((first | exact want_none rfl | exact want_yes rfl rfl rfl rfl rfl | fail))); exact rfl; exact rfl; (focus ((first | exact decide_eq_true (by decide +kernel) | exact decide_eq_false (by decide +kernel) | exact decide_eq_true (by omega) | exact decide_eq_false (by omega) | exact rfl | fail)))) | (apply opq_gtr; (focus ((first | exact want_none rfl | exact want_yes rfl rfl rfl rfl rfl | fail))); exact rfl; exact rfl; (focus ((first | exact decide_eq_true (by decide +kernel) | exact decide_eq_false (by decide +kernel) | exact decide_eq_true (by omega) | exact decide_eq_false (by omega) | exact rfl | fail)))) | (apply opq_geq; (focus ((first | exact want_none rfl | exact want_yes rfl rfl rfl rfl rfl | fail))); exact rfl; exact rfl; (focus ((first | exact decide_eq_true (by decide +kernel) | exact decide_eq_false (by decide +kernel) | exact decide_eq_true (by omega) | exact decide_eq_false (by omega) | exact rfl | fail)))) | (apply opq_eql; (focus ((first | exact want_none rfl | exact want_yes rfl rfl rfl rfl rfl | fail))); exact rfl; exact rfl; (focus ((first | exact decide_eq_true (by decide +kernel) | exact decide_eq_false (by decide +kernel) | exact decide_eq_true (by omega) | exact decide_eq_false (by omega) | exact rfl | fail)))) | (apply opq_neq; (focus ((first | exact want_none rfl | exact want_yes rfl rfl rfl rfl rfl | fail))); exact rfl; exact rfl; (focus ((first | exact decide_eq_true (by decide +kernel) | exact decide_eq_false (by decide +kernel) | exact decide_eq_true (by omega) | exact decide_eq_false (by omega) | exact rfl | fail)))) | fail) | (apply opq_eq_nil; (focus ((first | exact want_none rfl | exact want_yes rfl rfl rfl rfl rfl | fail))); exact rfl; exact rfl) | (apply opq_eq_nil'; (focus ((first | exact want_none rfl | exact want_yes rfl rfl rfl rfl rfl | fail))); exact rfl; exact rfl) | (apply opq_ne_nil; (focus ((first | exact want_none rfl | exact want_yes rfl rfl rfl rfl rfl | fail))); exact rfl; exact rfl) | (apply opq_ne_nil'; (focus ((first | exact want_none rfl | exact want_yes rfl rfl rfl rfl rfl | fail))); exact rfl; exact rfl) | (apply opq_as; (focus (apply opq_eq_nils; (focus ((first | exact want_none rfl | exact want_yes rfl rfl rfl rfl rfl | fail))); exact rfl; exact rfl)); exact rfl) | (apply opq_eq_nilf; (focus ((first | exact want_none rfl | exact want_yes rfl rfl rfl rfl rfl | fail))); exact rfl; exact rfl) | (apply opq_extract; (focus ((first | exact want_none rfl | exact want_yes rfl rfl rfl rfl rfl | fail))); exact rfl; exact rfl) | (apply opq_field; (focus ((first | exact want_none rfl | exact want_yes rfl rfl rfl rfl rfl | fail))); exact rfl; exact rfl) | (apply opq_loadAgg; (focus ((first | exact want_none rfl | exact want_yes rfl rfl rfl rfl rfl | fail))); exact rfl; (focus ((first | (apply rd_obj; (focus ((repeat (first | (with_reducible exact Rem.here _ _) | (with_reducible apply Rem.there) | fail)); done))) | (apply rd_cobj; (focus ((repeat (first | (with_reducible exact Rem.here _ _) | (with_reducible apply Rem.there) | fail)); done))) | (apply rd_row; (focus ((repeat (first | (with_reducible exact Rem.here _ _) | (with_reducible apply Rem.there) | fail)); done)); (focus (infer_instance)); (focus (omega)); exact rfl) | (apply rd_rowS; (focus ((repeat (first | (with_reducible exact Rem.here _ _) | (with_reducible apply Rem.there) | fail)); done)); (focus (infer_instance)); (focus (omega)); exact rfl) | fail))); exact rfl) | (apply opq_notD; (focus ((first | exact want_none rfl | exact want_yes rfl rfl rfl rfl rfl | fail))); exact rfl) | (apply opq_not; (focus ((first | exact want_none rfl | exact want_yes rfl rfl rfl rfl rfl | fail))); exact rfl) | (apply opq_len; (focus ((first | exact want_none rfl | exact want_yes rfl rfl rfl rfl rfl | fail))); exact rfl) | (apply opq_as; (focus (apply opq_add; (focus ((first | exact want_none rfl | exact want_yes rfl rfl rfl rfl rfl | fail))); exact rfl; exact rfl)); (focus (exact congrArg (Value.int _) (by first | exact IntWalk.i64_in _ (by omega) | exact IntWalk.u32_in _ (by omega) | exact IntWalk.u8_in _ (by omega) | exact IntWalk.u64_in _ (by omega) | exact IntWalk.u16_in _ (by omega) | exact IntWalk.i32_in _ (by omega) | fail)))) | (apply opq_as; (focus (apply opq_sub; (focus ((first | exact want_none rfl | exact want_yes rfl rfl rfl rfl rfl | fail))); exact rfl; exact rfl)); (focus (exact congrArg (Value.int _) (by first | exact IntWalk.i64_in _ (by omega) | exact IntWalk.u32_in _ (by omega) | exact IntWalk.u8_in _ (by omega) | exact IntWalk.u64_in _ (by omega) | exact IntWalk.u16_in _ (by omega) | exact IntWalk.i32_in _ (by omega) | fail)))) | (apply opq_as; (focus (apply opq_mul; (focus ((first | exact want_none rfl | exact want_yes rfl rfl rfl rfl rfl | fail))); exact rfl; exact rfl)); (focus (exact congrArg (Value.int _) (by first | exact IntWalk.i64_in _ (by omega) | exact IntWalk.u32_in _ (by omega) | exact IntWalk.u8_in _ (by omega) | exact IntWalk.u64_in _ (by omega) | exact IntWalk.u16_in _ (by omega) | exact IntWalk.i32_in _ (by omega) | fail)))) | (apply opq_as; (focus (apply opq_conv; (focus ((first | exact want_none rfl | exact want_yes rfl rfl rfl rfl rfl | fail))); exact rfl)); (focus (exact congrArg (Value.int _) (by first | exact IntWalk.i64_in _ (by omega) | exact IntWalk.u32_in _ (by omega) | exact IntWalk.u8_in _ (by omega) | exact IntWalk.u64_in _ (by omega) | exact IntWalk.u16_in _ (by omega) | exact IntWalk.i32_in _ (by omega) | fail)))) | (apply opq_add; (focus ((first | exact want_none rfl | exact want_yes rfl rfl rfl rfl rfl | fail))); exact rfl; exact rfl) | (apply opq_sub; (focus ((first | exact want_none rfl | exact want_yes rfl rfl rfl rfl rfl | fail))); exact rfl; exact rfl) | (apply opq_mul; (focus ((first | exact want_none rfl | exact want_yes rfl rfl rfl rfl rfl | fail))); exact rfl; exact rfl) | (apply opq_conv; (focus ((first | exact want_none rfl | exact want_yes rfl rfl rfl rfl rfl | fail))); exact rfl) | (apply opq_eqb; (focus ((first | exact want_none rfl | exact want_yes rfl rfl rfl rfl rfl | fail))); exact rfl; exact rfl) | (apply opq_neb; (focus ((first | exact want_none rfl | exact want_yes rfl rfl rfl rfl rfl | fail))); exact rfl; exact rfl) | (apply opq_ixAddrE; (focus ((first | exact want_none rfl | exact want_yes rfl rfl rfl rfl rfl | fail))); exact rfl; exact rfl; (focus (infer_instance)); (focus (omega))) | (apply opq_ixAddr; (focus ((first | exact want_none rfl | exact want_yes rfl rfl rfl rfl rfl | fail))); exact rfl; exact rfl; (focus ((repeat (first | (with_reducible exact Rem.here _ _) | (with_reducible apply Rem.there) | fail)); done)); (focus (infer_instance)); (focus (omega))) | (apply opq_ixAddrS; (focus ((first | exact want_none rfl | exact want_yes rfl rfl rfl rfl rfl | fail))); exact rfl; exact rfl; (focus ((repeat (first | (with_reducible exact Rem.here _ _) | (with_reducible apply Rem.there) | fail)); done)); (focus (infer_instance)); (focus (omega))) | (apply opq_index; (focus ((first | exact want_none rfl | exact want_yes rfl rfl rfl rfl rfl | fail))); exact rfl; exact rfl; (focus (omega)); (focus (omega)); exact rfl) | (apply opq_makeFunc; (focus ((first | exact want_none rfl | exact want_yes rfl rfl rfl rfl rfl | fail))); (focus ((repeat (first | exact Evs.nil | (apply Evs.cons; exact rfl) | fail)); done)); (focus ((repeat (first | exact Evs.nil | (apply Evs.cons; exact rfl) | fail)); done))) | (apply opq_build1; (focus ((first | exact want_none rfl | exact want_yes rfl rfl rfl rfl rfl | fail))); (focus ((repeat (first | exact Evs.nil | (apply Evs.cons; exact rfl) | fail)); done)); exact rfl; exact rfl; exact rfl; exact rfl) | (apply opq_buildA; (focus ((first | exact want_none rfl | exact want_yes rfl rfl rfl rfl rfl | fail))); (focus ((repeat (first | exact Evs.nil | (apply Evs.cons; exact rfl) | fail)); done)); exact rfl; exact rfl; exact rfl; exact rfl) | (apply opq_build0; (focus ((first | exact want_none rfl | exact want_yes rfl rfl rfl rfl rfl | fail)))) | fail)); exact rfl)
  | (apply tq_cons; (focus (first | (apply opq_slLo; (focus ((first | exact want_none rfl | exact want_yes rfl rfl rfl rfl rfl | fail))); exact rfl; exact rfl; (focus (infer_instance)); (focus (omega))) | (apply opq_slHi; (focus ((first | exact want_none rfl | exact want_yes rfl rfl rfl rfl rfl | fail))); exact rfl; exact rfl; (focus ((repeat (first | (with_reducible exact Rem.here _ _) | (with_reducible apply Rem.there) | fail)); done)); (focus (infer_instance)); (focus (omega))) | fail)); exact rfl)
  | (apply tq_cons; (focus (apply opq_callK; (focus ((first | exact want_none rfl | exact want_yes rfl rfl rfl rfl rfl | fail))); (focus ((repeat (first | exact Evs.nil | (apply Evs.cons; exact rfl) | fail)); done)); (intro hs; apply hs); (all_goals (try (focus ((repeat (first | (with_reducible exact PickS.nil _) | (apply PickS.fact; (rotate_left); (focus (first | assumption | omega | decide | exact rfl | fail))) | (apply PickS.keep; (focus ((repeat (first | (with_reducible exact Rem.here _ _) | (with_reducible apply Rem.there) | fail)); done)); (focus (infer_instance))) | (apply PickS.cons; (focus ((repeat (first | (with_reducible exact Rem.here _ _) | (with_reducible apply Rem.there) | fail)); done))) | apply PickS.ro0 | exact PickS.nil _ | fail)); done)))); (all_goals (first | (decide +kernel) | assumption | (infer_instance) | omega | exact rfl | decide | fail)))); exact rfl)
  | (apply wa_doneN; (focus (decide +kernel)); intro h; (try dsimp only [List.cons_append, List.nil_append, List.append_nil]); exact h)
  | fail) : q → g := h
/-- A step. -/
theorem stD {g q : Prop} (x : q) (h : q → g := by first | exact stDL | exact stDC | exact stDK | exact stDQ | fail) : g := h x

end Go.Sl

/- A call that reads an owned slice as a shared one: it is owned again behind it. For whatever program. -/
namespace Go.Sl
theorem vec_shared {E sz m cap : Nat} {a : Option Addr} {cs : List Value} {hv : Hp} (x : Vec E sz a m cap cs hv) : (∀ k y, hv k = some y → y.1 = true) ∧ RoS sz a m cap cs (fun k => (hv k).map fun y => (false, y.2)) := by
  rcases x with ⟨rfl, rfl, rfl, rfl, rfl⟩ | ⟨b, junk, rfl, h1, h2, h3, rfl⟩
  · exact ⟨fun k y h => (by cases h), .inl ⟨rfl, rfl, rfl, rfl⟩⟩
  · refine ⟨fun k y h => ?_, .inr ⟨b, 0, (cs ++ junk).toArray, E, (0, 0), rfl, h1, h2, fun j v hj => ?_, ?_⟩⟩
    · dsimp only at h
      split at h
      · rw [← Option.some.inj h]
      · cases h
    · rw [Nat.zero_add]
      simp only [List.getElem?_toArray]
      have := (List.getElem?_eq_some_iff.1 hj).1
      rw [List.getElem?_append_left this]; exact hj
    · show _ = _
      funext k
      dsimp only
      split <;> rfl
theorem spec_vecRo {β : Type} {P : Program} {fn : FuncId} {args : Array Value} {E sz m cap : Nat} {a : Option Addr} {cs : List Value} {pre : List HP} {val : β → Value} (hs : SpecH P fn args (RoS sz a m cap cs :: pre) val (fun _ => [])) : SpecH P fn args (Vec E sz a m cap cs :: pre) val (fun _ => [Vec E sz a m cap cs]) := fun base F w hw => by
  obtain ⟨hh, hf, hv, hr, hd, rfl, xv, xr⟩ := hw.heap
  obtain ⟨hp, hq, hd2, rfl, xp, xq⟩ := lst_unflat (xs := pre) (l := [F]) xr
  obtain ⟨hF, hz, hd3, rfl, xF, _⟩ := xq
  obtain ⟨hown, hro⟩ := vec_shared xv
  have only : ∀ k y, hv k = some y → hp k = none ∧ hF k = none := fun k y hk => by
    have ht := hown k y hk
    rcases hd k with h | h | ⟨h, o, h'⟩
    · rw [hk] at h; cases h
    · cases h1 : hp k with
      | some z => rw [joinH_left h1] at h; cases h
      | none =>
        rw [joinH_none h1] at h
        cases h2 : hF k with
        | some z => rw [joinH_left h2] at h; cases h
        | none => exact ⟨rfl, rfl⟩
    · rw [hk] at h'; rw [Option.some.inj h'] at ht; cases ht
  let sh : Hp := fun k => (hv k).map fun y => (false, y.2)
  have shN : ∀ k, hv k = none → sh k = none := fun k hk => by show (hv k).map _ = none; rw [hk]; rfl
  have shS : ∀ k y, hv k = some y → sh k = some (false, y.2) := fun k y hk => by show (hv k).map _ = _; rw [hk]; rfl
  have hst : St base ((RoS sz a m cap cs :: pre) ++ [fun h => h = joinH sh hF]) w := by
    refine ⟨hw.os, hw.tape, hw.output, joinH sh (joinH hp (joinH sh hF)), fun k x hx => ?_, sh, joinH hp (joinH sh hF), fun k => ?_, rfl, hro, lst_flat (xs := pre) (l := [fun h => h = joinH sh hF]) ⟨hp, joinH sh hF, fun k => ?_, rfl, xp, joinH sh hF, fun _ => none, fun _ => .inr (.inl rfl), ?_, rfl, trivial⟩⟩
    · cases hk : hv k with
      | some y =>
        rw [joinH_left (shS k y hk)] at hx
        have := hf k y (joinH_left hk)
        rw [← Option.some.inj hx]; exact this
      | none =>
        rw [joinH_none (shN k hk)] at hx
        refine hf k x ?_
        rw [joinH_none hk]
        cases h1 : hp k with
        | some z => rw [joinH_left h1] at hx ⊢; exact hx
        | none =>
          rw [joinH_none h1, joinH_none (shN k hk)] at hx
          rw [joinH_none h1, joinH_left hx]
    · cases hk : hv k with
      | none => exact .inl (shN k hk)
      | some y =>
        obtain ⟨h1, h2⟩ := only k y hk
        exact .inr (.inr ⟨by rw [joinH_none h1, joinH_left (shS k y hk), shS k y hk], _, shS k y hk⟩)
    · cases hk : hv k with
      | some y => exact .inl (only k y hk).1
      | none =>
        rw [joinH_none (shN k hk)]
        rcases hd2 k with h | h | ⟨h, o, h'⟩
        · exact .inl h
        · cases h2 : hF k with
          | some z => rw [joinH_left h2] at h; cases h
          | none => exact .inr (.inl rfl)
        · cases h2 : hF k with
          | none => exact .inr (.inl rfl)
          | some z => rw [joinH_left h2] at h; exact .inr (.inr ⟨h, o, h'⟩)
    · funext k
      cases hk : joinH sh hF k with
      | none => rw [joinH_none hk]
      | some y => rw [joinH_left hk]
  refine (hs base _ w hst).mono ?_
  rintro e w' ⟨y, rfl, hw'⟩
  obtain ⟨h', hf', b1, b2, hd', rfl, rfl, _⟩ := hw'.heap
  refine ⟨y, rfl, hw'.os, hw'.tape, hw'.output, joinH hv hF, fun k x hx => ?_, hv, hF, fun k => ?_, rfl, xv, hF, fun _ => none, fun _ => .inr (.inl rfl), ?_, xF, trivial⟩
  · cases hk : hv k with
    | some z =>
      rw [joinH_left hk] at hx
      have := hf' k (false, z.2) (joinH_left (joinH_left (shS k z hk)))
      rw [← Option.some.inj hx]; exact this
    | none =>
      rw [joinH_none hk] at hx
      exact hf' k x (joinH_left (by rw [joinH_none (shN k hk)]; exact hx))
  · cases hk : hv k with
    | none => exact .inl rfl
    | some z => exact .inr (.inl (only k z hk).2)
  · funext k
    cases hk : hF k with
    | none => rw [joinH_none hk]
    | some y => rw [joinH_left hk]
section
variable {r : Option Nat} {P : Program} {base : World} {n : Nat} {ds : List Deferred} {Q : Exit → Act → World → Prop} {env : Env} {l l' : List HP} {all : Array Oper} {ro : List Oper}
theorem wanted_undef {o : Oper} {j dj : Nat} {oj : Oper} {tmps : Array Value} {u : Bool} (hg : o.guard = some (j, u)) (hj : all[j]? = some oj) (hdj : oj.dst = some dj) (hv : tmps.getD dj undef = undef) : Region.wanted o (yielded all tmps) = false := by
  have h1 : yielded all tmps j = none := by
    unfold yielded
    cases h : tmps[dj]? with
    | none => simp [hj, hdj, h]
    | some v =>
      have h2 : v = undef := by rw [Array.getD_eq_getD_getElem?, h] at hv; simpa using hv
      subst h2
      simp [hj, hdj, h, undef]
  unfold Region.wanted
  rw [hg]
  simp only [h1]
  cases u <;> rfl
/-- An operation that waits for one that was not wanted. -/
theorem tl_skipU {o : Oper} {rest : List Oper} {d j : Nat} {u : Bool} {oj : Oper} {dj : Nat} (hg : o.guard = some (j, u)) (hj : all[j]? = some oj) (hdj : oj.dst = some dj) (hv : look env dj = some undef)
    (hd : o.dst = some d) (hn : d < n) (h : TL r P base n ds all rest Q ((d, undef) :: env) l) : TL r P base n ds all (o :: rest) Q env l := fun a w ha hw => by
  have hw' : Region.wanted o (yielded all a.tmps) = false := wanted_undef hg hj hdj (ha.val _ _ hv)
  unfold wl Step
  rw [if_neg (by simp [hw']), hd]
  exact h _ _ (ha.put hn _) hw
/-- Here: a call of 'fid'. -/
theorem atCall (fid : FuncId) {dst : Option Tmp} {xs : Array Operand} {ats : Array TypeId} {ty : TypeId} {pos : String} {af : Array Edge} {g : Option (Nat × Bool)} (h : TL r P base n ds all (⟨dst, .call ⟨.value (.func fid), xs, ats⟩, ty, pos, af, g⟩ :: ro) Q env l) : TL r P base n ds all (⟨dst, .call ⟨.value (.func fid), xs, ats⟩, ty, pos, af, g⟩ :: ro) Q env l := h
/-- Three results: a value, a struct in a variable, a value. -/
theorem ram {F : HP} {fn : Func} {α : Type} {val : α → Value} {post : α → List HP} {t t2 t3 b size : Nat} {T T' : TypeId} {vs : List Value} {v1 v3 : Value} {rest : List HP} [IAgg P T size] (x : α) (hx : .tuple #[v1, .agg vs.toArray, v3] = val x) (he : Ent l (post x ++ [F]) := by (try simp only [List.cons_append, List.nil_append]); (repeat (first | (with_reducible exact Ent.refl _) | (with_reducible exact Ent.nil _) | (apply Ent.fact; (focus (first | assumption | omega | decide | exact rfl | fail))) | (apply Ent.keep; (focus ((repeat (first | (with_reducible exact Rem.here _ _) | (with_reducible apply Rem.there) | fail)); done)); (focus (infer_instance))) | (apply Ent.cons; (focus ((repeat (first | (with_reducible exact Rem.here _ _) | (with_reducible apply Rem.there) | fail)); done))) | exact Ent.refl _ | exact Ent.nil _ | apply Ent.vecNil | apply Ent.roNil | fail)); done) (hres : fn.results = #[.tmp t, .cell t2 T, .tmp t3] := by rfl) (hp : look env t2 = some (.pointer (some ⟨b, 0, none⟩)) := by rfl) (hr : Rem l (obj b T' vs) rest := by (repeat (first | (with_reducible exact Rem.here _ _) | (with_reducible apply Rem.there) | fail)); done) (hl : vs.length = size := by rfl) (h1 : look env t = some v1 := by rfl) (h3 : look env t3 = some v3 := by rfl) : TK base n [] (fnPost P base fn val post F .ret) env l :=
  tk_ret3 hres (.tmp h1) (Res.agg hp (rd_obj hr) hl) (.tmp h3) x hx he
end
/-- A list of numbers. -/
def intsV (k : IntKind) (zs : List Int) : List Value := zs.map (.int k)
instance (k : IntKind) (zs : List Int) : Idx (intsV k zs) 1 zs.length (fun i => [.int k (zs.getD i 0)]) := ⟨fun i hi => ⟨rfl, fun j v hj => by
  cases j with
  | zero =>
    simp only [List.getElem?_cons_zero, Option.some.injEq] at hj
    subst hj
    simp [intsV, List.getElem?_map, List.getElem?_eq_getElem hi, List.getD_eq_getElem?_getD]
  | succ j => simp at hj⟩⟩
instance (k : IntKind) (zs : List Int) : PlC (intsV k zs) := ⟨fun v hv => by
  obtain ⟨z, _, rfl⟩ := List.mem_map.1 hv
  rfl⟩
instance (k : IntKind) (zs : List Int) (i : Nat) (x : Int) : SetC (intsV k zs) i 0 [.int k x] 1 zs.length (intsV k (zs.set i x)) := ⟨fun h => ⟨by simp [intsV, setL, List.map_set], by simp [intsV]; omega⟩⟩
end Go.Sl

/- A list of two things, of which one is read. For whatever program. -/
namespace Go.Sl
/-- The one or the other. -/
def two (a b : Value) : Nat → Value
  | 0 => a
  | _ + 1 => b
instance (a b : Value) : Idx [a, b] 1 2 (fun i => [two a b i]) := ⟨fun i hi => ⟨rfl, fun j v hj => by
  cases j with
  | zero =>
    obtain rfl := Option.some.inj hj
    match i, hi with
    | 0, _ => rfl
    | 1, _ => rfl
  | succ j => cases hj⟩⟩
end Go.Sl
