/- The reference of links, walked: lists with an element more; fields with another list. -/
import Derived.Test.YtgmccdicncocdaaLkR1
namespace Go.Proofs.Ytgmccdicncocdaa
open Go.Sl Go.Lk
attribute [local irreducible] TK TL TC Th Bk Nx fnPost WA TQ OpQ OpN SpecH Rd Ent IterH RoundH Rb Rp fnPostM
set_option maxHeartbeats 2000000 in
instance ref_put : Known Try.prog 41 (∀ (v : Value) (xs : List Nat) (xi : Int) (i : Nat) [NatI xi i] (n : Nat), xs.length ≤ 4194304 → i ≤ xs.length → SpecH Try.prog 41 #[v, .int .i64 xi, .int .u32 n] [RU v xs] (fun q : Option Addr × Nat => .slice q.1 (xs.length + 1) q.2) (fun q => [RU (.slice q.1 (xs.length + 1) q.2) (xs.take i ++ n :: xs.drop i)])) := ⟨fun v xs xi i _ n hx hi => by
  obtain rfl : xi = (i : Int) := NatI.out
  refine spec_of Try.func41 rfl Try.ntmps41 rfl [(0, _), (1, _), (2, _)] rfl ?_; intro base F l0 hl0; (try simp only [List.cons_append] at hl0); (try simp only [List.nil_append] at hl0); subst hl0
  refine RU.openC (by (repeat (first | (with_reducible exact Rem.here _ _) | (with_reducible apply Rem.there) | fail)); done) fun a c e => ?_
  subst e
  repeat' (first | refine st ?_ | refine And.intro ?_ ?_ | (intro e; subst e) | intro _)
  rename_i a3 c3
  refine frz a3 ?_
  rw [show i + (1 + (xs.length - i)) = xs.length + 1 by omega]
  refine rt1 (a3, c3) rfl (en2 (RU.mk ?_ ?_))
  · simp [u32s]
  · simp; omega⟩
set_option maxHeartbeats 2000000 in
instance ref_with : Known Try.prog 40 (∀ (v : Value) (f : Fld) (h : Nat) (w : Value) (xs : List Nat), f.L.length ≤ 4096 → h < f.L.length → SpecH Try.prog 40 #[v, .int .i64 h, w] [RF v f, RU w xs] (fun q : Option Addr × Nat => .agg #[.int .i64 f.N, .slice q.1 f.L.length q.2]) (fun q => [RF (.agg #[.int .i64 f.N, .slice q.1 f.L.length q.2]) (f.set h xs)])) := ⟨fun v f h w xs hM hh => by
  refine spec_of Try.func40 rfl Try.ntmps40 rfl [(0, _), (1, _), (2, _)] rfl ?_; intro base F l0 hl0; (try simp only [List.cons_append] at hl0); (try simp only [List.nil_append] at hl0); subst hl0
  refine RF.openC (by (repeat (first | (with_reducible exact Rem.here _ _) | (with_reducible apply Rem.there) | fail)); done) fun a c vs e hl => ?_
  refine RU.openC (by (repeat (first | (with_reducible exact Rem.here _ _) | (with_reducible apply Rem.there) | fail)); done) fun a2 c2 e2 => ?_
  subst e; subst e2
  refine TC.know (fun _ y => RF.plc (by (repeat (first | (with_reducible exact Rem.here _ _) | (with_reducible apply Rem.there) | fail)); done) y) fun hp => ?_
  repeat' (first | refine st ?_ | refine And.intro ?_ ?_ | (intro e; subst e) | intro _)
  rename_i b3 a3 c3
  refine frz a3 ?_
  refine RF.setA h (vs := vs) (w := .slice a2 xs.length c2) (xs := xs) (by (repeat (first | (with_reducible exact Rem.here _ _) | (with_reducible apply Rem.there) | fail)); done) (by (repeat (first | (with_reducible exact Rem.here _ _) | (with_reducible apply Rem.there) | fail)); done) ?_
  exact ra1 (a3, c3) rfl (en2 (RF.mk (f := f.set h xs) (N := f.N) rfl Fld.set_len.symm))⟩
theorem idxOf_first {n : Nat} : ∀ {l : List Nat} {i : Nat} (hi : i < l.length), l[i] = n → (∀ j (hj : j < i), l[j]'(by omega) ≠ n) → l.idxOf n = i
  | [], i, hi, _, _ => by simp at hi
  | x :: l, 0, hi, h, _ => by simp at h; subst h; simp
  | x :: l, i + 1, hi, h, hj => by
    have h0 : x ≠ n := hj 0 (by omega)
    simp only [List.idxOf_cons]
    rw [show (x == n) = false by simpa using h0]
    simp only [cond_false]
    rw [idxOf_first (l := l) (i := i) (by simpa using hi) (by simpa using h) (fun j hj' => by have := hj (j + 1) (by omega); simpa using this)]
theorem _root_.Go.Lk.Fld.place_first {f : Fld} {n h i : Nat} (hh : h < f.L.length) (hi : i < (f.at h).length) (hn : (f.at h)[i] = n) (h1 : ∀ j (hj : j < i), (f.at h)[j]'(by omega) ≠ n) (h2 : ∀ k, k < h → n ∉ f.at k) : f.place n = some (h, i) := by
  cases hp : f.place n with
  | none => exact absurd (hn ▸ List.getElem_mem hi) (Fld.place_none.1 hp h hh)
  | some q =>
    obtain ⟨h', i'⟩ := q
    obtain ⟨p1, p2, p3⟩ := Fld.place_spec hp
    obtain ⟨l, e1, e2, e3, e4⟩ := placeL_some hp
    have hhh : h' = h := by
      rcases Nat.lt_trichotomy h' h with x | x | x
      · exact absurd p2 (h2 h' x)
      · exact x
      · have := e4 h x f.L[h] (List.getElem?_eq_getElem hh)
        rw [← Fld.at_getElem hh] at this
        exact absurd (hn ▸ List.getElem_mem hi) this
    subst hhh
    rw [p3, idxOf_first hi hn h1]
/-- The list and the index of a node, as numbers. -/
def plH (f : Fld) (n : Nat) : Int := match f.place n with | some q => q.1 | none => -1
def plI (f : Fld) (n : Nat) : Int := match f.place n with | some q => q.2 | none => -1
set_option maxHeartbeats 2000000 in
instance ref_place : Known Try.prog 39 (∀ (v : Value) (f : Fld) (n : Nat), f.L.length ≤ 4096 → (∀ h, (f.at h).length ≤ 4194304) → SpecH Try.prog 39 #[v, .int .u32 n] [RF v f] (fun _ : Unit => .tuple #[.int .i64 (plH f n), .int .i64 (plI f n)]) (fun _ => [])) := ⟨fun v f n hM hlen => by
  refine spec_of Try.func39 rfl Try.ntmps39 rfl [(0, _), (1, _)] rfl ?_; intro base F l0 hl0; (try simp only [List.cons_append] at hl0); (try simp only [List.nil_append] at hl0); subst hl0
  refine RF.openC (by (repeat (first | (with_reducible exact Rem.here _ _) | (with_reducible apply Rem.there) | fail)); done) fun a c vs e hl => ?_
  subst e
  repeat' (first | refine st ?_ | refine And.intro ?_ ?_ | (intro e; subst e) | intro _)
  rename_i bb
  refine tc_lp (ι := {h : Nat // h ≤ f.L.length ∧ ∀ k, k < h → n ∉ f.at k}) [6] (fun e h => (6, .int .i64 h.1) :: e) (fun _ => _) (fun h => f.L.length - h.1) ⟨0, by omega, by omega⟩ ?_ (hl := Ent.refl _)
  rintro K ⟨h, hh, hno⟩ hK
  dsimp only
  repeat' (first | refine st ?_ | refine And.intro ?_ ?_ | (intro e; subst e) | intro _)
  · have hlt : h < f.L.length := by omega
    have hl1 := hlen h
    refine tc_lp (ι := {i : Nat // i ≤ (f.at h).length ∧ ∀ j (hj : j < i) (hj2 : j < (f.at h).length), (f.at h)[j] ≠ n}) [7] (fun e i => (7, .int .i64 i.1) :: e) (fun _ => _) (fun i => (f.at h).length - i.1) ⟨0, by omega, by omega⟩ ?_ (hl := Ent.refl _)
    rintro K ⟨i, hi, hni⟩ hK2
    dsimp only
    refine RF.rowC (by (repeat (first | (with_reducible exact Rem.here _ _) | (with_reducible apply Rem.there) | fail)); done) hlt hl fun a3 c3 hv => ?_
    repeat' (first | refine st ?_ | refine And.intro ?_ ?_ | (intro e; subst e) | intro _)
    · have hli : i < (f.at h).length := by omega
      have heq : (f.at h)[i] = n := by rw [List.getD_eq_getElem?_getD, List.getElem?_eq_getElem hli] at *; simp at *; omega
      have hp := Fld.place_first hlt hli heq (fun j hj => hni j hj (by omega)) hno
      refine rt2 () ?_; simp only [plH, plI, hp]
    · have hli : i < (f.at h).length := by omega
      refine again hK2 ⟨i + 1, by omega, fun j hj hj2 => ?_⟩
      rcases Nat.lt_or_ge j i with x | x
      · exact hni j x hj2
      · obtain rfl : j = i := by omega
        rw [List.getD_eq_getElem?_getD, List.getElem?_eq_getElem hli] at *; simp at *; omega
    · refine again hK ⟨h + 1, by omega, fun k hk => ?_⟩
      rcases Nat.lt_or_ge k h with x | x
      · exact hno k x
      · obtain rfl : k = h := by omega
        intro hm
        obtain ⟨j, hj, e⟩ := List.getElem_of_mem hm
        exact hni j (by omega) hj e
  · have hp : f.place n = none := Fld.place_none.2 fun k hk => hno k (by omega)
    refine rt2 () ?_; simp only [plH, plI, hp]⟩
end Go.Proofs.Ytgmccdicncocdaa
