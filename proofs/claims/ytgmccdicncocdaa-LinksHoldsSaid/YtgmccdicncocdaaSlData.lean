/- Assertions with something hidden; data that no one writes. For whatever program. -/
import Derived.Test.YtgmccdicncocdaaSlGo2
namespace Go.Sl
/-- All of a list, and nothing else. -/
def lstX : List HP → HP
  | [] => fun h => h = fun _ => none
  | p :: l => sep p (lstX l)
theorem lstX_in {xs l : List HP} : ∀ {h : Hp}, lst (xs ++ l) h → lst (lstX xs :: l) h := by
  induction xs with
  | nil => intro h x; exact ⟨fun _ => none, h, fun _ => .inl rfl, by funext k; rfl, rfl, x⟩
  | cons p xs ih => intro h x; exact sep_assoc' (sep_mono (fun _ y => y) (fun _ y => ih y) x)
theorem lstX_out {xs l : List HP} : ∀ {h : Hp}, lst (lstX xs :: l) h → lst (xs ++ l) h := by
  induction xs with
  | nil => intro h x; exact lst_drop x
  | cons p xs ih => intro h x; exact sep_mono (fun _ y => y) (fun _ y => ih y) (sep_assoc x)
/-- Some of many. -/
def Exs {ι : Type} (f : ι → List HP) : HP := fun h => ∃ q, lstX (f q) h
class PersL (l : List HP) : Prop where
  out : ∀ h, lstX l h → ∀ k x, h k = some x → x.1 = false
instance : PersL [] := ⟨by rintro h rfl k x hk; cases hk⟩
instance (p : HP) (l : List HP) [hp : Pers p] [hl : PersL l] : PersL (p :: l) := ⟨by
  rintro h ⟨a, b, hd, rfl, ha, hb⟩ k x hk
  cases h1 : a k with
  | none => rw [joinH_none h1] at hk; exact hl.out b hb k x hk
  | some y => rw [joinH_left h1] at hk; rw [← Option.some.inj hk]; exact hp.out a ha k y h1⟩
instance {ι : Type} (f : ι → List HP) [h : ∀ q, PersL (f q)] : Pers (Exs f) := ⟨fun h' ⟨q, hq⟩ => (h q).out h' hq⟩
theorem exs_out {ι : Type} {f : ι → List HP} {l r : List HP} (hr : Rem l (Exs f) r) {h : Hp} (x : lst l h) : ∃ q, lst (f q ++ r) h := by
  obtain ⟨a, b, hd, rfl, ⟨q, hq⟩, hb⟩ := hr.out x
  exact ⟨q, lstX_out ⟨a, b, hd, rfl, hq, hb⟩⟩
/-- To hide. -/
theorem Ent.exs {ι : Type} {f : ι → List HP} {l r : List HP} (q : ι) (h : Ent l (f q ++ r)) : Ent l (Exs f :: r) := fun _ x => sep_mono (fun _ y => ⟨q, y⟩) (fun _ y => y) (lstX_in (h _ x))
section
variable {r0 : Option Nat} {P : Program} {base : World} {n : Nat} {ds : List Deferred} {Q : Exit → Act → World → Prop} {env : Env} {l r : List HP} {K : Act → World → Prop} {c : Code} {all : Array Oper} {ro : List Oper}
theorem TK.exs {ι : Type} {f : ι → List HP} (hr : Rem l (Exs f) r) (h : ∀ q, TK base n ds K env (f q ++ r)) : TK base n ds K env l := TK.open (f := fun q => f q ++ r) (fun _ x => exs_out hr x) h
theorem TC.exs {ι : Type} {f : ι → List HP} (hr : Rem l (Exs f) r) (h : ∀ q, TC r0 P base n ds c Q env (f q ++ r)) : TC r0 P base n ds c Q env l := TK.exs hr h
theorem TL.exs {ι : Type} {f : ι → List HP} (hr : Rem l (Exs f) r) (h : ∀ q, TL r0 P base n ds all ro Q env (f q ++ r)) : TL r0 P base n ds all ro Q env l := TK.exs hr h
/-- What may be held any number of times, opened and kept. -/
theorem TK.exsP {ι : Type} {f : ι → List HP} (hr : Rem l (Exs f) r) (hp : Pers (Exs f)) (h : ∀ q, TK base n ds K env (f q ++ l)) : TK base n ds K env l := TK.open (f := fun q => f q ++ l) (fun _ x => exs_out (.here _ _) (hr.keep x)) h
/-- One more assertion that the list bears. -/
theorem TK.add {p : HP} (hp : ∀ h, lst l h → lst (p :: l) h) (h : TK base n ds K env (p :: l)) : TK base n ds K env l := TK.ent (fun x y => hp x y) h
end
/-! ### Lists of things that no one writes -/
def AllR {α : Type} (g : Value → α → HP) (vs : List Value) (xs : List α) : HP := fun h =>
  (∀ k x, h k = some x → x.1 = false) ∧ vs.length = xs.length ∧ ∀ (i : Nat) (v : Value) (x : α), vs[i]? = some v → xs[i]? = some x → ∃ h', (∀ k y, h' k = some y → h k = some y) ∧ g v x h'
section
variable {α : Type} {g : Value → α → HP} {vs : List Value} {xs : List α} {l r : List HP}
instance : Pers (AllR g vs xs) := ⟨fun _ h => h.1⟩
theorem lst_pers_shared {p : HP} [hp : Pers p] {h : Hp} (x : lst (p :: l) h) : ∃ a c, Disj a c ∧ h = joinH a c ∧ p a ∧ (∀ k x, a k = some x → x.1 = false) ∧ lst l c := by
  obtain ⟨a, c, hd, e, ha, hc⟩ := x
  exact ⟨a, c, hd, e, ha, hp.out a ha, hc⟩
theorem allR_get {i : Nat} {v : Value} {x : α} (hr : Rem l (AllR g vs xs) r) (hv : vs[i]? = some v) (hx : xs[i]? = some x) {h : Hp} (y : lst l h) : lst (g v x :: l) h :=
  lst_cons_mono (fun _ z => z) (fun _ z => hr.back z) (lst_ro_add (p := AllR g vs xs) (q := g v x) (fun _a ha => ha.2.2 i v x hv hx) (hr.out y))
theorem allR_len (hr : Rem l (AllR g vs xs) r) {h : Hp} (y : lst l h) : vs.length = xs.length := by
  obtain ⟨_, _, _, _, ha, _⟩ := hr.out y
  exact ha.2.1
theorem allR_mk {v : Value} {x : α} {vs' : List Value} {xs' : List α} [hp : Pers (g v x)] (hlen : vs.length = xs.length → vs'.length = xs'.length) (hi : ∀ (i : Nat) v' x', vs'[i]? = some v' → xs'[i]? = some x' → (∃ j : Nat, vs[j]? = some v' ∧ xs[j]? = some x') ∨ (v' = v ∧ x' = x)) {h : Hp} (y : lst (AllR g vs xs :: g v x :: l) h) : lst (AllR g vs' xs' :: l) h := by
  obtain ⟨a, c, hd, rfl, ha, b, e, hbe, rfl, hb, he⟩ := y
  obtain ⟨d1, d2⟩ := Disj.join_right hbe hd
  refine ⟨joinH a b, e, d2.joinl hbe, (joinH_assoc a b e).symm, ⟨fun k z hk => ?_, hlen ha.2.1, fun i v' x' hv hx => ?_⟩, he⟩
  · cases h1 : a k with
    | none => rw [joinH_none h1] at hk; exact hp.out b hb k z hk
    | some z' => rw [joinH_left h1] at hk; rw [← Option.some.inj hk]; exact ha.1 k z' h1
  · rcases hi i v' x' hv hx with ⟨j, h1, h2⟩ | ⟨rfl, rfl⟩
    · obtain ⟨h', h3, h4⟩ := ha.2.2 j v' x' h1 h2
      exact ⟨h', fun k z hk => joinH_left (h3 k z hk), h4⟩
    · refine ⟨b, fun k z hk => ?_, hb⟩
      rcases d1 k with h1 | h1 | ⟨h1, o, h2⟩
      · rw [joinH_none h1]; exact hk
      · rw [h1] at hk; cases hk
      · rw [joinH_left h2, ← h2, h1]; exact hk
theorem allR_nil {h : Hp} (y : lst l h) : lst (AllR g [] ([] : List α) :: l) h := ⟨fun _ => none, h, fun _ => .inl rfl, by funext k; rfl, ⟨fun k x hk => by (cases hk), rfl, fun i v x hv => by (simp at hv)⟩, y⟩
theorem allR_rep {v : Value} {x : α} [Pers (g v x)] (m : Nat) {h : Hp} (y : lst (g v x :: l) h) : lst (AllR g (List.replicate m v) (List.replicate m x) :: l) h :=
  allR_mk (vs := []) (xs := []) (fun _ => by simp) (fun i v' x' h1 h2 => .inr ⟨(List.mem_replicate.1 (List.mem_of_getElem? h1)).2, (List.mem_replicate.1 (List.mem_of_getElem? h2)).2⟩) (allR_nil y)
theorem allR_set {v : Value} {x : α} [Pers (g v x)] (i : Nat) {h : Hp} (y : lst (AllR g vs xs :: g v x :: l) h) : lst (AllR g (vs.set i v) (xs.set i x) :: l) h :=
  allR_mk (fun h => by simpa using h) (fun j v' x' h1 h2 => by
    by_cases e : i = j
    · subst e
      rw [List.getElem?_set] at h1 h2
      simp only [if_true] at h1 h2
      split at h1 <;> split at h2 <;> simp_all
    · rw [List.getElem?_set_ne e] at h1 h2; exact .inl ⟨j, h1, h2⟩) y
theorem allR_snoc {v : Value} {x : α} [Pers (g v x)] (hl : vs.length = xs.length) {h : Hp} (y : lst (AllR g vs xs :: g v x :: l) h) : lst (AllR g (vs ++ [v]) (xs ++ [x]) :: l) h :=
  allR_mk (fun h => by simpa using h) (fun j v' x' h1 h2 => by
    rcases Nat.lt_or_ge j vs.length with e | e
    · rw [List.getElem?_append_left e] at h1; rw [List.getElem?_append_left (by omega)] at h2; exact .inl ⟨j, h1, h2⟩
    · rw [List.getElem?_append_right e] at h1; rw [List.getElem?_append_right (by omega)] at h2
      have e1 : j - vs.length = 0 := by
        rcases Nat.eq_zero_or_pos (j - vs.length) with e | e
        · exact e
        · rw [List.getElem?_eq_none (by simp; omega)] at h1; cases h1
      rw [← hl] at h2
      rw [e1] at h1 h2
      simp at h1 h2; exact .inr ⟨h1.symm, h2.symm⟩) y
end
end Go.Sl
