/- The reference of wheel, walked. -/
import Derived.Test.YtmiblmoppdgnjaaDoorWhMarks
import Derived.Test.YtmiblmoppdgnjaaDoorLfIt
import Derived.Test.YtmiblmoppdgnjaaDoorLkR5
import Derived.Test.YtmiblmoppdgnjaaDoorSlD
import Derived.Test.YtmiblmoppdgnjaaDoorSlX
import Derived.Test.YtmiblmoppdgnjaaDoorSlEnd2
import Derived.Test.YtmiblmoppdgnjaaDoorSlCv
import Derived.Test.YtmiblmoppdgnjaaDoorEqTypes
namespace Go.Wh
open Go.Lk Go.Sl Go.Lf
/-- The index of a slot, or -1. -/
def fnd (l : List It) (k : Nat) : Int := if k ∈ ks l then ((l.findIdx fun x => x.1 == k : Nat) : Int) else -1
theorem fnd_at {l : List It} {i k : Nat} (hi : i < l.length) (hk : (l.getD i default).1 = k) (he : ∀ j, j < i → (l.getD j default).1 ≠ k) : fnd l k = i := by
  rw [getD_get hi] at hk
  have hm : k ∈ ks l := List.mem_map.2 ⟨l[i], List.getElem_mem hi, hk⟩
  unfold fnd
  rw [if_pos hm]
  congr 1
  rw [List.findIdx_eq hi]
  refine ⟨by simpa using hk, fun j hj => ?_⟩
  have := he j hj
  rw [getD_get (by omega)] at this
  simpa using this
theorem fnd_not {l : List It} {k : Nat} (h : k ∉ ks l) : fnd l k = -1 := if_neg h
theorem first_ex {k : Nat} : ∀ {l : List It}, k ∈ ks l → ∃ i, i < l.length ∧ (l.getD i default).1 = k ∧ ∀ j, j < i → (l.getD j default).1 ≠ k
  | x :: l, h => by
    by_cases e : x.1 = k
    · exact ⟨0, by simp, by simpa using e, fun j hj => by omega⟩
    · have h2 : k ∈ ks l := by
        rcases List.mem_cons.1 h with h | h
        · exact absurd h.symm e
        · exact h
      obtain ⟨i, h3, h4, h5⟩ := first_ex h2
      refine ⟨i + 1, by simp; omega, by simpa using h4, fun j hj => ?_⟩
      cases j with
      | zero => simpa using e
      | succ j => simpa using h5 j (by omega)
theorem wo_cut {l : List It} {i k : Nat} (hd : (ks l).Nodup) (hi : i < l.length) (hk : (l.getD i default).1 = k) : l.take i ++ l.drop (i + 1) = wo l k := by
  rw [getD_get hi] at hk
  have e : l = l.take i ++ l[i] :: l.drop (i + 1) := by rw [← List.drop_eq_getElem_cons hi, List.take_append_drop]
  have hd2 : (ks (l.take i ++ l[i] :: l.drop (i + 1))).Nodup := by rw [← e]; exact hd
  have hd3 : ((l.take i).map (·.1) ++ l[i].1 :: (l.drop (i + 1)).map (·.1)).Nodup := by
    have h := hd2
    unfold ks at h
    rwa [List.map_append, List.map_cons] at h
  rw [List.nodup_append] at hd3
  obtain ⟨_, g2, g3⟩ := hd3
  rw [List.nodup_cons] at g2
  conv => rhs; rw [e]
  unfold wo
  rw [List.filter_append, List.filter_cons_of_neg (by simp [hk])]
  congr 1
  · refine (List.filter_eq_self.2 fun y hy => ?_).symm
    have := g3 y.1 (List.mem_map.2 ⟨y, hy, rfl⟩) l[i].1 (by simp)
    rw [hk] at this; simpa using this
  · refine (List.filter_eq_self.2 fun y hy => ?_).symm
    have : l[i].1 ≠ y.1 := fun h => g2.1 (by rw [h]; exact List.mem_map.2 ⟨y, hy, rfl⟩)
    rw [hk] at this; simpa using this.symm
/-- What the reference lists. -/
def lstR (l : List It) (b : Int) : List Nat := (l.filter fun y => (y.2 : Int) == b).map (·.1)
theorem lstR_eq {N : Nat} {l : List It} {b : Int} (o : MO N l) : lstR l b = lstM l b := by
  unfold lstR lstM
  split
  · rename_i h
    rw [List.filter_eq_nil_iff.2 fun y hy => ?_]; · rfl
    have := o.bk y hy
    unfold badB at h
    simp; omega
  · rename_i h
    unfold badB at h
    unfold grp
    congr 1
    refine List.filter_congr fun y hy => ?_
    rw [Bool.eq_iff_iff, beq_iff_eq, beq_iff_eq]; omega
theorem lstR_snoc {l : List It} {x : It} {b : Int} : lstR (l ++ [x]) b = if (x.2 : Int) = b then lstR l b ++ [x.1] else lstR l b := by
  unfold lstR
  rw [List.filter_append]
  by_cases e : (x.2 : Int) = b
  · rw [if_pos e, List.filter_cons_of_pos (by simpa using e)]; simp
  · rw [if_neg e, List.filter_cons_of_neg (by simpa using e)]; simp
theorem wob_snoc {l : List It} {x : It} {b : Nat} : wob (l ++ [x]) b = if x.2 = b then wob l b else wob l b ++ [x] := by
  unfold wob
  rw [List.filter_append]
  by_cases e : x.2 = b
  · rw [if_pos e, List.filter_cons_of_neg (by simpa using e)]; simp
  · rw [if_neg e, List.filter_cons_of_pos (by simpa using e)]; simp
theorem lstR_le {l : List It} {b : Int} : (lstR l b).length ≤ l.length := by unfold lstR; rw [List.length_map]; exact List.length_filter_le _ _
theorem wob_le {l : List It} {b : Nat} : (wob l b).length ≤ l.length := List.length_filter_le _ _
end Go.Wh
namespace Go.Proofs.YtmiblmoppdgnjaaDoor
open Go.Lk Go.Sl Go.Lf Go.Wh
attribute [local irreducible] TK TL TC Th Bk Nx fnPost WA TQ OpQ OpN SpecH Rd Ent IterH RoundH Rb Rp fnPostM
attribute [local irreducible] Lf.wo Lf.cntOf Wh.wob Wh.lstR Wh.fnd Lf.grp
instance whr_ok : Known Tryd.prog 29 (∀ b : Int, 0 ≤ b → b < 256 → SpecH Tryd.prog 29 #[.int .i64 b] [] (fun _ : Unit => .bool true) (fun _ => [])) := ⟨fun b h1 h2 => by
  refine spec_of Tryd.func29 rfl Tryd.ntmps29 rfl [(0, _)] rfl ?_; intro base F l0 hl0; (try simp only [List.cons_append] at hl0); (try simp only [List.nil_append] at hl0); subst hl0
  repeat' (first | refine sty ?_ | refine And.intro ?_ ?_ | (intro e; exfalso; omega) | (intro e; subst e) | intro _)
  exact rt1 () rfl⟩
theorem whr_bad : Known Tryd.prog 29 (∀ b : Int, (b < 0 ∨ 256 ≤ b) → SpecH Tryd.prog 29 #[.int .i64 b] [] (fun _ : Unit => .bool false) (fun _ => [])) := ⟨fun b h => by
  refine spec_of Tryd.func29 rfl Tryd.ntmps29 rfl [(0, _)] rfl ?_; intro base F l0 hl0; (try simp only [List.cons_append] at hl0); (try simp only [List.nil_append] at hl0); subst hl0
  rcases h with h | h
  · repeat' (first | refine sty ?_ | refine And.intro ?_ ?_ | (intro e; exfalso; omega) | (intro e; subst e) | intro _)
    exact rt1 () rfl
  · repeat' (first | refine sty ?_ | refine And.intro ?_ ?_ | (intro e; exfalso; omega) | (intro e; subst e) | intro _)
    exact rt1 () rfl⟩
instance whr_find : Known Tryd.prog 30 (∀ (a : Option Addr) (m c : Nat) (l : List It) (xk : Int) (k : Nat) [NatI xk k], m = l.length → m ≤ 1024 → SpecH Tryd.prog 30 #[.slice a m c, .int .u32 xk] [RoS 2 a m c (itv l)] (fun _ : Unit => .int .i64 (fnd l k)) (fun _ => [])) := ⟨fun a m c l xk k _ hm hx => by
  obtain rfl : xk = (k : Int) := NatI.out
  subst hm
  refine spec_of Tryd.func30 rfl Tryd.ntmps30 rfl [(0, _), (1, _)] rfl ?_; intro base F l0 hl0; (try simp only [List.cons_append] at hl0); (try simp only [List.nil_append] at hl0); subst hl0
  repeat' (first | refine sty ?_ | refine And.intro ?_ ?_ | (intro e; exfalso; omega) | (intro e; subst e) | intro _)
  refine tc_lp (ι := {i : Nat // i ≤ l.length ∧ ∀ j, j < i → (l.getD j default).1 ≠ k}) [5] (fun e i => (5, .int .i64 (i.1 : Nat)) :: e) (fun _ => _) (fun i => l.length - i.1) ⟨0, by omega, by omega⟩ ?_ (hl := Ent.refl _)
  rintro K ⟨i, hi, he⟩ hK
  dsimp only
  by_cases hlt : i < l.length
  · by_cases hk : (l.getD i default).1 = k
    · have hc : fnd l k = i := fnd_at hlt hk he
      rw [hc]
      repeat' (first | refine sty ?_ | refine And.intro ?_ ?_ | (intro e; exfalso; omega) | (intro e; subst e) | intro _)
      exact rt1 () rfl
    · repeat' (first | refine sty ?_ | refine And.intro ?_ ?_ | (intro e; exfalso; omega) | (intro e; subst e) | intro _)
      refine again hK ⟨i + 1, by omega, fun j hj => ?_⟩
      rcases Nat.lt_or_ge j i with x | x
      · exact he j x
      · obtain rfl : j = i := by omega
        exact hk
  · have hc : fnd l k = -1 := fnd_not fun h => by
      obtain ⟨y, hy, e⟩ := List.mem_map.1 h
      obtain ⟨j, hj, rfl⟩ := List.getElem_of_mem hy
      exact he j (by omega) (by rw [getD_get hj]; exact e)
    rw [hc]
    repeat' (first | refine sty ?_ | refine And.intro ?_ ?_ | (intro e; exfalso; omega) | (intro e; subst e) | intro _)
    exact rt1 () rfl⟩
instance whr_list : Known Tryd.prog 35 (∀ (a : Option Addr) (m c : Nat) (l : List It) (b : Int), MO 4194304 l → m = l.length → m ≤ 1024 → SpecH Tryd.prog 35 #[.slice a m c, .int .i64 b] [RoS 2 a m c (itv l)] (fun q : Option Addr × Nat => .slice q.1 (lstM l b).length q.2) (fun q => [RoS 1 q.1 (lstM l b).length q.2 (u32s (lstM l b))])) := ⟨fun a m c l b o hm hx => by
  subst hm
  rw [← lstR_eq o]
  refine spec_of Tryd.func35 rfl Tryd.ntmps35 rfl [(0, _), (1, _)] rfl ?_; intro base F l0 hl0; (try simp only [List.cons_append] at hl0); (try simp only [List.nil_append] at hl0); subst hl0
  repeat' (first | refine sty ?_ | refine And.intro ?_ ?_ | (intro e; exfalso; omega) | (intro e; subst e) | intro _)
  refine tc_lp (ι := {q : Nat × Option Addr × Nat × Nat × List Nat // q.1 ≤ l.length ∧ q.2.2.2.2 = lstR (l.take q.1) b ∧ q.2.2.1 = q.2.2.2.2.length}) [5, 6] (fun e q => (5, .slice q.1.2.1 q.1.2.2.1 q.1.2.2.2.1) :: (6, .int .i64 (q.1.1 : Nat)) :: e)
    (fun q => [Vec 31 1 q.1.2.1 q.1.2.2.1 q.1.2.2.2.1 (u32s q.1.2.2.2.2), RoS 2 a l.length c (itv l), F]) (fun q => l.length - q.1.1) ⟨(0, none, 0, 0, []), by dsimp only; omega, by dsimp only; rw [List.take_zero]; unfold lstR; rfl, rfl⟩ ?_
    (hl := by show Ent _ [Vec 31 1 none 0 0 [], _, _]; exact en)
  rintro K ⟨⟨i, a2, m2, c2, M⟩, hi, hM, hm2⟩ hK
  dsimp only at hi hM hm2 ⊢
  subst hm2
  have hl1 : M.length ≤ i := by
    rw [hM]; have := lstR_le (l := l.take i) (b := b); rw [List.length_take] at this; omega
  by_cases hlt : i < l.length
  · have hs := lstR_snoc (l := l.take i) (x := l.getD i default) (b := b)
    rw [← take_snoc' hlt, ← hM] at hs
    by_cases hb : ((l.getD i default).2 : Int) = b
    · rw [if_pos hb] at hs
      have hsn : u32s (M ++ [(l.getD i default).1]) = u32s M ++ [.int .u32 ((l.getD i default).1 : Nat)] := by simp [u32s]
      repeat' (first | refine sty ?_ | refine And.intro ?_ ?_ | (intro e; exfalso; omega) | (intro e; subst e) | intro _)
      rename_i b5 a5 c5
      rw [← hsn]
      exact again hK ⟨(i + 1, a5, M.length + 1, c5, M ++ [(l.getD i default).1]), by dsimp only; omega, hs.symm, by simp⟩
    · rw [if_neg hb] at hs
      repeat' (first | refine sty ?_ | refine And.intro ?_ ?_ | (intro e; exfalso; omega) | (intro e; subst e) | intro _)
      exact again hK ⟨(i + 1, a2, M.length, c2, M), by dsimp only; omega, hs.symm, rfl⟩
  · obtain rfl : i = l.length := by omega
    rw [List.take_length] at hM
    rw [← hM]
    repeat' (first | refine sty ?_ | refine And.intro ?_ ?_ | (intro e; exfalso; omega) | (intro e; subst e) | intro _)
    refine frz a2 ?_
    exact rt1 (a2, c2) rfl⟩
end Go.Proofs.YtmiblmoppdgnjaaDoor
