/- GhA: GhTheory, TbTheory, TqTheory, TyThr. -/
import Derived.Test.YtdpiglociolagaaGreatLkA
import Derived.Test.YtdpiglociolagaaGreatSlM
/- Ghost lists, plainly: nodes of two lists, keys of nodes, a map from keys to nodes. No program, no condition. -/
namespace Go.Lk
open Go.Sl
theorem inj_of_nodup {g : Nat → Nat} : ∀ {l : List Nat}, (l.map g).Nodup → ∀ a ∈ l, ∀ b ∈ l, g a = g b → a = b
  | [], _, a, ha, _, _, _ => by cases ha
  | x :: l, h, a, ha, b, hb, e => by
    rw [List.map_cons, List.nodup_cons] at h
    rcases List.mem_cons.1 ha with ea | ha'
    · rcases List.mem_cons.1 hb with eb | hb'
      · rw [ea, eb]
      · exact absurd (List.mem_map.2 ⟨b, hb', e.symm.trans (congrArg g ea)⟩) h.1
    · rcases List.mem_cons.1 hb with eb | hb'
      · exact absurd (List.mem_map.2 ⟨a, ha', e.trans (congrArg g eb)⟩) h.1
      · exact inj_of_nodup h.2 a ha' b hb' e
theorem map_erase_nodup {g : Nat → Nat} {n : Nat} : ∀ {l : List Nat}, (l.map g).Nodup → n ∈ l → (l.map g).erase (g n) = (l.erase n).map g
  | [], _, h => by cases h
  | x :: l, h, hn => by
    have h' := h
    rw [List.map_cons, List.nodup_cons] at h
    by_cases e : x = n
    · subst e; simp
    · have hn' : n ∈ l := by
        rcases List.mem_cons.1 hn with e2 | h2
        · exact absurd e2.symm e
        · exact h2
      have e2 : g x ≠ g n := fun e3 => h.1 (e3 ▸ List.mem_map.2 ⟨n, hn', rfl⟩)
      rw [List.map_cons, List.erase_cons_tail (by simpa using e2), List.erase_cons_tail (by simpa using e), List.map_cons, map_erase_nodup h.2 hn']
theorem filter_ne_erase {k : Nat} : ∀ {l : List Nat}, l.Nodup → l.filter (fun x => x != k) = l.erase k
  | [], _ => rfl
  | x :: l, h => by
    rw [List.nodup_cons] at h
    by_cases e : x = k
    · subst e
      have : l.filter (fun y => y != x) = l := List.filter_eq_self.2 fun y hy => by
        have : y ≠ x := fun e => h.1 (e ▸ hy)
        simpa using this
      simp [this]
    · rw [List.erase_cons_tail (by simpa using e), List.filter_cons_of_pos (by simpa using e), filter_ne_erase h.2]
namespace Fld
theorem remF_mem {f : Fld} (w : Wf f) {a n : Nat} (ha : a < f.L.length) (hn : n ∈ f.at a) : f.inE n = 0 ∧ f.remF n = f.set a ((f.at a).erase n) := by
  have hp := w.place ha hn
  have hlt := w.lt ha hn
  have h0 : f.inE n = 0 := by
    unfold Fld.inE
    rw [if_neg (by omega), if_neg (by rw [hp]; simp)]
  refine ⟨h0, ?_⟩
  unfold Fld.remF
  rw [if_pos h0, hp]
  simp only []
  congr 1
  rw [← List.eraseIdx_eq_take_drop_succ, List.erase_eq_eraseIdx_of_idxOf rfl]
theorem move {f : Fld} (w : Wf f) {a b n : Nat} {front : Bool} (ha : a < f.L.length) (hb : b < f.L.length) (hn : n ∈ f.at a) :
    f.inE n = 0 ∧ (f.remF n).addE b n = 0 ∧ (f.remF n).addF b n front = (f.set a ((f.at a).erase n)).set b (if front then n :: (f.set a ((f.at a).erase n)).at b else (f.set a ((f.at a).erase n)).at b ++ [n]) := by
  obtain ⟨h0, h1⟩ := remF_mem w ha hn
  have hg := w.gone h0
  have hlt := w.lt ha hn
  obtain ⟨h2, h3⟩ := Fld.addF_eq (f := f.remF n) (b := b) (n := n) (front := front) (by rw [h1, Fld.set_len]; exact hb) (by rw [h1]; exact hlt) hg
  refine ⟨h0, h2, ?_⟩
  rw [h3, h1]
end Fld
end Go.Lk
namespace Go.Gh
open Go.Lk Go.Sl
structure GInv (most : Nat) (f : Fld) (K : List Nat) (kv : List (Nat × Nat)) (L : List Nat) : Prop where
  wf : Wf f
  N : f.N = most + 1
  M : f.L.length = 2
  kl : K.length = most + 1
  eq : L = (f.at 0).map fun n => K.getD n 0
  nd : L.Nodup
  kn : (mkeys kv).Nodup
  at_iff : ∀ k n, mget kv k = some n ↔ n ∈ f.at 0 ∧ K.getD n 0 = k
  len : kv.length = L.length
  tot : (f.at 0).length + (f.at 1).length = most + 1
  lt : ∀ k ∈ K, k < 4294967296
namespace GInv
variable {most : Nat} {f : Fld} {K : List Nat} {kv : List (Nat × Nat)} {L : List Nat}
theorem fresh {N i : Nat} (hi : i < N) : (⟨N, [[], List.range i]⟩ : Fld).addE 1 i = 0 ∧ (⟨N, [[], List.range i]⟩ : Fld).addF 1 i false = ⟨N, [[], List.range (i + 1)]⟩ := by
  have hp : (⟨N, [[], List.range i]⟩ : Fld).place i = none := by
    rw [Fld.place_none]
    intro h hh
    match h, hh with
    | 0, _ => simp [Fld.at]
    | 1, _ => simp [Fld.at]
  obtain ⟨h1, h2⟩ := Fld.addF_eq (f := ⟨N, [[], List.range i]⟩) (b := 1) (n := i) (front := false) (by simp) hi hp
  refine ⟨h1, h2.trans ?_⟩
  simp [Fld.set, Fld.at, List.range_succ]
theorem inj (g : GInv most f K kv L) {a b : Nat} (ha : a ∈ f.at 0) (hb : b ∈ f.at 0) (e : K.getD a 0 = K.getD b 0) : a = b :=
  inj_of_nodup (g := fun n => K.getD n 0) (by have := g.nd; rw [g.eq] at this; exact this) a ha b hb e
theorem mem (g : GInv most f K kv L) {k : Nat} : k ∈ L ↔ (mget kv k).isSome = true := by
  rw [g.eq]
  constructor
  · intro h
    obtain ⟨n, hn, e⟩ := List.mem_map.1 h
    rw [(g.at_iff k n).2 ⟨hn, e⟩]; rfl
  · intro h
    obtain ⟨n, hn⟩ := Option.isSome_iff_exists.1 h
    obtain ⟨h1, h2⟩ := (g.at_iff k n).1 hn
    exact List.mem_map.2 ⟨n, h1, h2⟩
theorem take (g : GInv most f K kv L) {n : Nat} (hn : n ∈ f.at 0) : f.inE n = 0 ∧ (f.remF n).addE 1 n = 0 ∧ GInv most ((f.remF n).addF 1 n false) K (mdel kv (K.getD n 0)) (L.erase (K.getD n 0)) := by
  have hM := g.M
  obtain ⟨h0, h1, h2⟩ := Fld.move g.wf (front := false) (a := 0) (b := 1) (by omega) (by omega) hn
  have h1 : (f.remF n).addE 1 n = 0 := h1
  have h2 : (f.remF n).addF 1 n false = _ := h2
  refine ⟨h0, h1, ?_⟩
  have w2 : Wf ((f.remF n).addF 1 n false) := (g.wf.remF n).addF 1 n false
  have a0 : ((f.remF n).addF 1 n false).at 0 = (f.at 0).erase n := by
    rw [h2, Fld.at_set (by rw [Fld.set_len]; omega), if_neg (by decide), Fld.at_set (by omega), if_pos rfl]
  have a1 : ((f.remF n).addF 1 n false).at 1 = f.at 1 ++ [n] := by
    rw [h2, Fld.at_set (by rw [Fld.set_len]; omega), if_pos rfl]
    simp only [Bool.false_eq_true, if_false]
    rw [Fld.at_set (by omega), if_neg (by decide)]
  have nd := g.nd
  rw [g.eq] at nd
  have hd : (f.at 0).Nodup := g.wf.nodup (by omega)
  have hk : K.getD n 0 ∈ L := by rw [g.eq]; exact List.mem_map.2 ⟨n, hn, rfl⟩
  refine ⟨w2, by rw [h2]; exact g.N, by rw [h2, Fld.set_len, Fld.set_len]; exact g.M, g.kl, ?_, g.nd.erase _, mdel_nodup g.kn, fun k m => ?_, ?_, ?_, g.lt⟩
  · rw [a0, g.eq]
    exact map_erase_nodup (g := fun n => K.getD n 0) nd hn
  · rw [mget_del g.kn, a0]
    by_cases e : k = K.getD n 0
    · rw [if_pos e]
      constructor
      · intro h; cases h
      · rintro ⟨h3, h4⟩
        have h5 := List.mem_of_mem_erase h3
        have h6 := g.inj h5 hn (by rw [h4, e])
        subst h6
        exact absurd h3 (fun h => by rw [hd.mem_erase_iff] at h; exact h.1 rfl)
    · rw [if_neg e, g.at_iff, hd.mem_erase_iff]
      constructor
      · rintro ⟨h3, h4⟩
        exact ⟨⟨fun e2 => e (by rw [← h4, e2]), h3⟩, h4⟩
      · rintro ⟨⟨_, h3⟩, h4⟩
        exact ⟨h3, h4⟩
  · rw [mdel_len, if_pos (g.mem.1 hk), List.length_erase_of_mem hk, g.len]
  · rw [a0, a1, List.length_erase_of_mem hn, List.length_append]
    have := List.length_pos_of_mem hn
    have := g.tot
    simp only [List.length_cons, List.length_nil]
    omega
theorem use (g : GInv most f K kv L) {n : Nat} (hn : n ∈ f.at 0) : f.inE n = 0 ∧ (f.remF n).addE 0 n = 0 ∧ GInv most ((f.remF n).addF 0 n true) K kv (K.getD n 0 :: L.erase (K.getD n 0)) := by
  have hM := g.M
  obtain ⟨h0, h1, h2⟩ := Fld.move g.wf (front := true) (a := 0) (b := 0) (by omega) (by omega) hn
  have h1 : (f.remF n).addE 0 n = 0 := h1
  have h2 : (f.remF n).addF 0 n true = _ := h2
  refine ⟨h0, h1, ?_⟩
  have w2 : Wf ((f.remF n).addF 0 n true) := (g.wf.remF n).addF 0 n true
  have a0 : ((f.remF n).addF 0 n true).at 0 = n :: (f.at 0).erase n := by
    rw [h2, Fld.at_set (by rw [Fld.set_len]; omega), if_pos rfl, if_pos rfl, Fld.at_set (by omega), if_pos rfl]
  have a1 : ((f.remF n).addF 0 n true).at 1 = f.at 1 := by
    rw [h2, Fld.at_set (by rw [Fld.set_len]; omega), if_neg (by decide), Fld.at_set (by omega), if_neg (by decide)]
  have nd := g.nd
  rw [g.eq] at nd
  have hd : (f.at 0).Nodup := g.wf.nodup (by omega)
  have hk : K.getD n 0 ∈ L := by rw [g.eq]; exact List.mem_map.2 ⟨n, hn, rfl⟩
  have hpos := List.length_pos_of_mem hn
  have hpos2 := List.length_pos_of_mem hk
  refine ⟨w2, by rw [h2]; exact g.N, by rw [h2, Fld.set_len, Fld.set_len]; exact g.M, g.kl, ?_, ?_, g.kn, fun k m => ?_, ?_, ?_, g.lt⟩
  · rw [a0, List.map_cons, g.eq]
    congr 1
    exact map_erase_nodup (g := fun n => K.getD n 0) nd hn
  · rw [List.nodup_cons]
    exact ⟨fun h => by rw [g.nd.mem_erase_iff] at h; exact h.1 rfl, g.nd.erase _⟩
  · rw [g.at_iff, a0, List.mem_cons, hd.mem_erase_iff]
    constructor
    · rintro ⟨h3, h4⟩
      refine ⟨?_, h4⟩
      by_cases e : m = n
      · exact .inl e
      · exact .inr ⟨e, h3⟩
    · rintro ⟨h3, h4⟩
      refine ⟨?_, h4⟩
      rcases h3 with rfl | ⟨_, h3⟩
      · exact hn
      · exact h3
  · rw [List.length_cons, List.length_erase_of_mem hk, g.len]; omega
  · rw [a0, a1, List.length_cons, List.length_erase_of_mem hn]
    have := g.tot
    omega
theorem add (g : GInv most f K kv L) {k n : Nat} {t : List Nat} (hk : k < 4294967296) (hnot : k ∉ L) (h1 : f.at 1 = n :: t) : f.inE n = 0 ∧ (f.remF n).addE 0 n = 0 ∧ n < most + 1 ∧ GInv most ((f.remF n).addF 0 n true) (K.set n k) (mput kv k n) (k :: L) := by
  have hM := g.M
  have hn : n ∈ f.at 1 := by rw [h1]; exact List.mem_cons_self ..
  have hlt := g.wf.lt (by omega) hn
  rw [g.N] at hlt
  obtain ⟨h0, h2, h3⟩ := Fld.move g.wf (front := true) (a := 1) (b := 0) (by omega) (by omega) hn
  have h2 : (f.remF n).addE 0 n = 0 := h2
  have h3 : (f.remF n).addF 0 n true = _ := h3
  have n0 : n ∉ f.at 0 := fun h => by
    have := g.wf.uniq (h := 0) (k := 1) (by omega) (by omega) h hn
    omega
  refine ⟨h0, h2, hlt, ?_⟩
  have w2 : Wf ((f.remF n).addF 0 n true) := (g.wf.remF n).addF 0 n true
  have a0 : ((f.remF n).addF 0 n true).at 0 = n :: f.at 0 := by
    rw [h3, Fld.at_set (by rw [Fld.set_len]; omega), if_pos rfl, if_pos rfl, Fld.at_set (by omega), if_neg (by decide)]
  have a1 : ((f.remF n).addF 0 n true).at 1 = t := by
    rw [h3, Fld.at_set (by rw [Fld.set_len]; omega), if_neg (by decide), Fld.at_set (by omega), if_pos rfl, h1]
    simp
  have kl := g.kl
  have gd : ∀ m ∈ f.at 0, (K.set n k).getD m 0 = K.getD m 0 := fun m hm => by
    have : n ≠ m := fun e => n0 (e ▸ hm)
    rw [List.getD_eq_getElem?_getD, List.getD_eq_getElem?_getD, List.getElem?_set_ne this]
  have gn : (K.set n k).getD n 0 = k := by rw [List.getD_eq_getElem?_getD, List.getElem?_set_self (by omega)]; rfl
  have hnone : mget kv k = none := by
    cases hm : mget kv k with
    | none => rfl
    | some m => exact absurd (g.mem.2 (by rw [hm]; rfl)) hnot
  refine ⟨w2, by rw [h3]; exact g.N, by rw [h3, Fld.set_len, Fld.set_len]; exact g.M, by simpa using kl, ?_, List.nodup_cons.2 ⟨hnot, g.nd⟩, mput_nodup g.kn, fun j m => ?_, ?_, ?_, fun j hj => ?_⟩
  · rw [a0, List.map_cons, gn, g.eq]
    congr 1
    exact List.map_congr_left fun m hm => (gd m hm).symm
  · rw [mget_put, a0, List.mem_cons]
    by_cases e : j = k
    · subst e
      rw [if_pos rfl]
      constructor
      · intro h; cases h; exact ⟨.inl rfl, gn⟩
      · rintro ⟨h4 | h4, h5⟩
        · rw [h4]
        · rw [gd m h4] at h5
          have := (g.at_iff j m).2 ⟨h4, h5⟩
          rw [hnone] at this; cases this
    · rw [if_neg e, g.at_iff]
      constructor
      · rintro ⟨h4, h5⟩
        exact ⟨.inr h4, by rw [gd m h4]; exact h5⟩
      · rintro ⟨h4 | h4, h5⟩
        · subst h4; exact absurd (h5.symm.trans gn) e
        · exact ⟨h4, by rw [← gd m h4]; exact h5⟩
  · rw [mput_len, hnone]
    simp [g.len]
  · rw [a0, a1, List.length_cons]
    have := g.tot
    rw [h1, List.length_cons] at this
    omega
  · rcases List.mem_or_eq_of_mem_set hj with h | h
    · exact g.lt j h
    · omega
end GInv
end Go.Gh

/- A table of keys and slots, plainly: a map from keys to slots, the key of each slot, the free slots. No program, no condition. -/
namespace Go.Tb
open Go.Lk Go.Sl
theorem nodup_rev {l : List Nat} : l.reverse.Nodup ↔ l.Nodup := by
  unfold List.Nodup
  rw [List.pairwise_reverse]
  exact ⟨fun h => h.imp fun e => Ne.symm e, fun h => h.imp fun e => Ne.symm e⟩
structure Tab (size : Nat) (kv : List (Nat × Nat)) (K fr U : List Nat) : Prop where
  kl : K.length = size
  kn : (mkeys kv).Nodup
  und : U.Nodup
  at_iff : ∀ k z, mget kv k = some z ↔ z ∈ U ∧ K.getD z 0 = k
  ult : ∀ z ∈ U, z < size
  fnd : fr.Nodup
  flt : ∀ z ∈ fr, z < size ∧ z ∉ U
  len : kv.length = U.length
  tot : U.length + fr.length = size
  lt : ∀ k ∈ K, k < 4294967296
def keysR (K L : List Nat) : List Nat := (L.map fun z => K.getD z 0).reverse
namespace Tab
variable {size : Nat} {kv : List (Nat × Nat)} {K fr U : List Nat} {k z : Nat}
theorem perm {U' : List Nat} (t : Tab size kv K fr U) (h : U.Perm U') : Tab size kv K fr U' :=
  ⟨t.kl, t.kn, h.nodup_iff.1 t.und, fun k z => by rw [t.at_iff, h.mem_iff], fun z hz => t.ult z (h.mem_iff.2 hz), t.fnd, fun z hz => ⟨(t.flt z hz).1, fun h2 => (t.flt z hz).2 (h.mem_iff.2 h2)⟩, by rw [t.len, h.length_eq], by rw [← h.length_eq]; exact t.tot, t.lt⟩
theorem klt (t : Tab size kv K fr U) (hz : z < size) : K.getD z 0 < 4294967296 := by
  rw [List.getD_eq_getElem?_getD, List.getElem?_eq_getElem (by rw [t.kl]; exact hz)]; exact t.lt _ (List.getElem_mem _)
theorem of_mem (t : Tab size kv K fr U) (hz : z ∈ U) : mget kv (K.getD z 0) = some z := (t.at_iff _ _).2 ⟨hz, rfl⟩
theorem inj (t : Tab size kv K fr U) {a b : Nat} (ha : a ∈ U) (hb : b ∈ U) (e : K.getD a 0 = K.getD b 0) : a = b := by
  have h1 := t.of_mem ha
  rw [e, t.of_mem hb] at h1
  exact (Option.some.inj h1).symm
theorem some_of (t : Tab size kv K fr U) (h : mget kv k = some z) : z ∈ U ∧ K.getD z 0 = k ∧ z < size := by
  obtain ⟨h1, h2⟩ := (t.at_iff k z).1 h
  exact ⟨h1, h2, t.ult z h1⟩
theorem none_of (t : Tab size kv K fr U) (h : mget kv k = none) : ∀ z ∈ U, K.getD z 0 ≠ k := fun z hz e => by
  have := (t.at_iff k z).2 ⟨hz, e⟩
  rw [h] at this; cases this
theorem knd (t : Tab size kv K fr U) {L : List Nat} (hs : L.Nodup) (hL : ∀ z ∈ L, z ∈ U) : (L.map fun z => K.getD z 0).Nodup := by
  unfold List.Nodup
  rw [List.pairwise_map]
  exact (List.Pairwise.and_mem.1 hs).imp fun {a b} ⟨ha, hb, hne⟩ e => hne (t.inj (hL a ha) (hL b hb) e)
theorem new : Tab size [] (List.replicate size 0) (List.range size).reverse [] := by
  refine ⟨List.length_replicate, List.nodup_nil, List.nodup_nil, fun k z => ?_, fun z hz => (by cases hz), nodup_rev.2 List.nodup_range, fun z hz => ⟨by simpa using hz, List.not_mem_nil⟩, rfl, by simp, fun k hk => ?_⟩
  · constructor
    · intro h; cases h
    · rintro ⟨h, _⟩; cases h
  · obtain rfl := List.eq_of_mem_replicate hk; omega
theorem add {r : List Nat} (t : Tab size kv K (r ++ [z]) U) (h : mget kv k = none) (hk : k < 4294967296) : Tab size (mput kv k z) (K.set z k) r (U ++ [z]) ∧ (∀ y ∈ U, (K.set z k).getD y 0 = K.getD y 0) ∧ (K.set z k).getD z 0 = k ∧ z < size ∧ z ∉ U := by
  obtain ⟨z1, z2⟩ := t.flt z (by simp)
  have hset : ∀ y, (K.set z k).getD y 0 = if y = z then k else K.getD y 0 := fun y => by
    rw [List.getD_eq_getElem?_getD, List.getD_eq_getElem?_getD, List.getElem?_set]
    by_cases e : z = y
    · subst e; rw [if_pos rfl, if_pos rfl, if_pos (by rw [t.kl]; exact z1)]; rfl
    · rw [if_neg e, if_neg (fun h => e h.symm)]
  have hU : ∀ y ∈ U, (K.set z k).getD y 0 = K.getD y 0 := fun y hy => by
    rw [hset, if_neg (fun e : y = z => z2 (by rw [← e]; exact hy))]
  have hn := t.none_of h
  refine ⟨⟨by rw [List.length_set]; exact t.kl, mput_nodup t.kn, ?_, fun j y => ?_, fun y hy => ?_, ?_, fun y hy => ?_, ?_, ?_, fun j hj => ?_⟩, hU, by rw [hset, if_pos rfl], z1, z2⟩
  · rw [List.nodup_append]
    exact ⟨t.und, by simp, fun a ha b hb e => z2 (by simp at hb; rw [← hb, ← e]; exact ha)⟩
  · rw [mget_put, List.mem_append, List.mem_singleton, hset]
    by_cases e : j = k
    · subst e
      rw [if_pos rfl]
      constructor
      · intro h1; obtain rfl := Option.some.inj h1; exact ⟨.inr rfl, by rw [if_pos rfl]⟩
      · rintro ⟨h1 | rfl, h2⟩
        · rw [if_neg (fun e : y = z => z2 (by rw [← e]; exact h1))] at h2
          exact absurd h2 (hn y h1)
        · rfl
    · rw [if_neg e, t.at_iff]
      constructor
      · rintro ⟨h1, h2⟩
        exact ⟨.inl h1, by rw [if_neg (fun e : y = z => z2 (by rw [← e]; exact h1))]; exact h2⟩
      · rintro ⟨h1 | rfl, h2⟩
        · rw [if_neg (fun e : y = z => z2 (by rw [← e]; exact h1))] at h2; exact ⟨h1, h2⟩
        · rw [if_pos rfl] at h2; exact absurd h2.symm e
  · rcases List.mem_append.1 hy with h1 | h1
    · exact t.ult y h1
    · obtain rfl : y = z := by simpa using h1
      exact z1
  · exact t.fnd.sublist (List.sublist_append_left _ _)
  · obtain ⟨h1, h2⟩ := t.flt y (List.mem_append_left _ hy)
    refine ⟨h1, fun h3 => ?_⟩
    rcases List.mem_append.1 h3 with h3 | h3
    · exact h2 h3
    · obtain rfl : y = z := by simpa using h3
      have := t.fnd
      rw [List.nodup_append] at this
      exact this.2.2 y hy y (by simp) rfl
  · rw [mput_len, h]; simp [t.len]
  · have := t.tot
    simp only [List.length_append, List.length_singleton] at this ⊢
    omega
  · rcases List.mem_or_eq_of_mem_set hj with h1 | rfl
    · exact t.lt j h1
    · exact hk
theorem remove (t : Tab size kv K fr U) (h : mget kv k = some z) : Tab size (mdel kv k) K (fr ++ [z]) (U.erase z) := by
  obtain ⟨z1, z2, z3⟩ := t.some_of h
  have hpos := List.length_pos_of_mem z1
  refine ⟨t.kl, mdel_nodup t.kn, t.und.erase z, fun j y => ?_, fun y hy => t.ult y (List.mem_of_mem_erase hy), ?_, fun y hy => ?_, ?_, ?_, t.lt⟩
  · rw [mget_del t.kn, t.und.mem_erase_iff]
    by_cases e : j = k
    · subst e
      rw [if_pos rfl]
      constructor
      · intro h1; cases h1
      · rintro ⟨⟨h1, h2⟩, h3⟩
        exact absurd (t.inj h2 z1 (h3.trans z2.symm)) h1
    · rw [if_neg e, t.at_iff]
      constructor
      · rintro ⟨h1, h2⟩
        exact ⟨⟨fun e2 => e (by rw [← h2, e2, z2]), h1⟩, h2⟩
      · rintro ⟨⟨_, h1⟩, h2⟩; exact ⟨h1, h2⟩
  · rw [List.nodup_append]
    exact ⟨t.fnd, by simp, fun a ha b hb e => (t.flt a ha).2 (by simp at hb; rw [e, hb]; exact z1)⟩
  · rcases List.mem_append.1 hy with h1 | h1
    · exact ⟨(t.flt y h1).1, fun h2 => (t.flt y h1).2 (List.mem_of_mem_erase h2)⟩
    · obtain rfl : y = z := by simpa using h1
      exact ⟨z3, fun h2 => by rw [t.und.mem_erase_iff] at h2; exact h2.1 rfl⟩
  · rw [mdel_len, h, List.length_erase_of_mem z1]; simp [t.len]
  · have := t.tot
    rw [List.length_erase_of_mem z1]
    simp only [List.length_append, List.length_singleton]
    omega
theorem free (t : Tab size kv K fr U) (h : U.length < size) : ∃ r z, fr = r ++ [z] ∧ z < size := by
  have := t.tot
  have h0 : fr ≠ [] := fun e => by rw [e] at this; simp at this; omega
  refine ⟨fr.dropLast, fr.getLast h0, (List.dropLast_concat_getLast h0).symm, (t.flt _ (List.getLast_mem h0)).1⟩
end Tab
section
variable {size : Nat} {kv : List (Nat × Nat)} {K fr U L : List Nat} {k z : Nat}
theorem keysR_len : (keysR K L).length = L.length := by unfold keysR; simp
theorem mem_keysR : k ∈ keysR K L ↔ ∃ z ∈ L, K.getD z 0 = k := by unfold keysR; simp
theorem keysR_snoc : keysR K (L ++ [z]) = K.getD z 0 :: keysR K L := by unfold keysR; simp
theorem keysR_cons : keysR K (z :: L) = keysR K L ++ [K.getD z 0] := by unfold keysR; simp
theorem keysR_congr {K' : List Nat} (h : ∀ y ∈ L, K'.getD y 0 = K.getD y 0) : keysR K' L = keysR K L := by
  unfold keysR; rw [List.map_congr_left h]
theorem keysR_nodup (t : Tab size kv K fr U) (hs : L.Nodup) (hL : ∀ z ∈ L, z ∈ U) : (keysR K L).Nodup := nodup_rev.2 (t.knd hs hL)
theorem erase_rev {k : Nat} {l : List Nat} (h : l.Nodup) : l.reverse.erase k = (l.erase k).reverse := by
  rw [← filter_ne_erase h, ← filter_ne_erase (nodup_rev.2 h), List.filter_reverse]
theorem keysR_erase (t : Tab size kv K fr U) (hs : L.Nodup) (hL : ∀ z ∈ L, z ∈ U) (hz : z ∈ L) : keysR K (L.erase z) = (keysR K L).erase (K.getD z 0) := by
  unfold keysR
  rw [erase_rev (t.knd hs hL), map_erase_nodup (g := fun z => K.getD z 0) (t.knd hs hL) hz]
theorem mem_keysR_at (t : Tab size kv K fr U) (hL : ∀ z ∈ L, z ∈ U) (h : mget kv k = some z) : k ∈ keysR K L ↔ z ∈ L := by
  obtain ⟨h1, h2, _⟩ := t.some_of h
  rw [mem_keysR]
  constructor
  · rintro ⟨y, hy, e⟩
    obtain rfl := t.inj (hL y hy) h1 (e.trans h2.symm)
    exact hy
  · intro hz; exact ⟨z, hz, h2⟩
theorem not_keysR (t : Tab size kv K fr U) (hL : ∀ z ∈ L, z ∈ U) (h : mget kv k = none) : k ∉ keysR K L := by
  rw [mem_keysR]
  rintro ⟨y, hy, e⟩
  exact t.none_of h y (hL y hy) e
end
end Go.Tb

/- Two lists of keys over a table of slots, plainly; two queues and ghosts. No program, no condition. -/
namespace Go.Tb
open Go.Lk Go.Sl
theorem getLastD_snoc {l : List Nat} {x : Nat} : (l ++ [x]).getLastD 0 = x := by
  rw [List.getLastD_eq_getLast?, List.getLast?_append]; rfl
structure Two (size : Nat) (Q M : List Nat) (kv : List (Nat × Nat)) (K fr Lq Lm : List Nat) : Prop where
  tab : Tab size kv K fr (Lq ++ Lm)
  q : Q = keysR K Lq
  m : M = keysR K Lm
namespace Two
variable {size : Nat} {Q M : List Nat} {kv : List (Nat × Nat)} {K fr Lq Lm : List Nat} {k z : Nat}
theorem nd (t : Two size Q M kv K fr Lq Lm) : Lq.Nodup ∧ Lm.Nodup ∧ ∀ z ∈ Lq, z ∉ Lm := by
  have h := t.tab.und
  rw [List.nodup_append] at h
  exact ⟨h.1, h.2.1, fun z h1 h2 => h.2.2 z h1 z h2 rfl⟩
theorem swap (t : Two size Q M kv K fr Lq Lm) : Two size M Q kv K fr Lm Lq := ⟨t.tab.perm List.perm_append_comm, t.m, t.q⟩
theorem qlen (t : Two size Q M kv K fr Lq Lm) : Q.length = Lq.length := by rw [t.q, keysR_len]
theorem mlen (t : Two size Q M kv K fr Lq Lm) : M.length = Lm.length := by rw [t.m, keysR_len]
theorem len (t : Two size Q M kv K fr Lq Lm) : kv.length = Q.length + M.length := by rw [t.tab.len, List.length_append, t.qlen, t.mlen]
theorem le (t : Two size Q M kv K fr Lq Lm) : Q.length + M.length ≤ size := by
  have := t.tab.tot
  rw [List.length_append, ← t.qlen, ← t.mlen] at this
  omega
theorem disj (t : Two size Q M kv K fr Lq Lm) (h : k ∈ Q) : k ∉ M := by
  rw [t.q, mem_keysR] at h
  obtain ⟨z, hz, rfl⟩ := h
  rw [t.m, mem_keysR]
  rintro ⟨y, hy, e⟩
  obtain rfl := t.tab.inj (List.mem_append_right _ hy) (List.mem_append_left _ hz) e
  exact t.nd.2.2 y hz hy
theorem none_of (t : Two size Q M kv K fr Lq Lm) (h : mget kv k = none) : k ∉ Q ∧ k ∉ M :=
  ⟨by rw [t.q]; exact not_keysR t.tab (fun z h => List.mem_append_left _ h) h, by rw [t.m]; exact not_keysR t.tab (fun z h => List.mem_append_right _ h) h⟩
theorem some_of (t : Two size Q M kv K fr Lq Lm) (h : mget kv k = some z) : (k ∈ Q ↔ z ∈ Lq) ∧ (k ∈ M ↔ z ∈ Lm) ∧ (k ∈ Q ∨ k ∈ M) ∧ z < size ∧ K.getD z 0 = k := by
  obtain ⟨h1, h2, h3⟩ := t.tab.some_of h
  have a1 : k ∈ Q ↔ z ∈ Lq := by rw [t.q]; exact mem_keysR_at t.tab (fun z h => List.mem_append_left _ h) h
  have a2 : k ∈ M ↔ z ∈ Lm := by rw [t.m]; exact mem_keysR_at t.tab (fun z h => List.mem_append_right _ h) h
  refine ⟨a1, a2, ?_, h3, h2⟩
  rw [a1, a2]
  exact List.mem_append.1 h1
theorem mem_iff (t : Two size Q M kv K fr Lq Lm) : (k ∈ Q ∨ k ∈ M) ↔ (mget kv k).isSome = true := by
  cases h : mget kv k with
  | none => have := t.none_of h; simp [this.1, this.2]
  | some z => exact ⟨fun _ => rfl, fun _ => (t.some_of h).2.2.1⟩
theorem useM (t : Two size Q M kv K fr Lq Lm) (hz : z ∈ Lm) (e : K.getD z 0 = k) : Two size Q (k :: M.erase k) kv K fr Lq (Lm.erase z ++ [z]) := by
  refine ⟨t.tab.perm (List.Perm.append_left _ ?_), t.q, ?_⟩
  · exact ((List.perm_cons_erase hz).trans (List.perm_append_comm (l₁ := [z])))
  · rw [keysR_snoc, e, keysR_erase t.tab t.nd.2.1 (fun z h => List.mem_append_right _ h) hz, e, ← t.m]
theorem drop (t : Two size Q M kv K fr Lq Lm) (h : mget kv k = some z) : Two size (Q.erase k) (M.erase k) (mdel kv k) K (fr ++ [z]) (Lq.erase z) (Lm.erase z) := by
  obtain ⟨h1, h2, h3, h4, h5⟩ := t.some_of h
  obtain ⟨n1, n2, n3⟩ := t.nd
  have hr := t.tab.remove h
  have hq : keysR K (Lq.erase z) = Q.erase k := by
    by_cases hz : z ∈ Lq
    · rw [keysR_erase t.tab n1 (fun z h => List.mem_append_left _ h) hz, h5, ← t.q]
    · rw [List.erase_of_not_mem hz, List.erase_of_not_mem (fun h => hz (h1.1 h)), t.q]
  have hm : keysR K (Lm.erase z) = M.erase k := by
    by_cases hz : z ∈ Lm
    · rw [keysR_erase t.tab n2 (fun z h => List.mem_append_right _ h) hz, h5, ← t.m]
    · rw [List.erase_of_not_mem hz, List.erase_of_not_mem (fun h => hz (h2.1 h)), t.m]
  refine ⟨?_, hq.symm, hm.symm⟩
  rw [List.erase_append] at hr
  by_cases hz : z ∈ Lq
  · rw [if_pos hz] at hr
    rw [List.erase_of_not_mem (n3 z hz)]; exact hr
  · rw [if_neg hz] at hr
    rw [List.erase_of_not_mem hz]; exact hr
theorem new : Two size [] [] [] (List.replicate size 0) (List.range size).reverse [] [] := ⟨Tab.new, rfl, rfl⟩
end Two
end Go.Tb

/- Three lists of keys over a table of slots, plainly. No program, no condition. -/
namespace Go.Tb
open Go.Lk Go.Sl
structure Thr (size : Nat) (W A B : List Nat) (kv : List (Nat × Nat)) (K fr Lw Lp Lt : List Nat) : Prop where
  tab : Tab size kv K fr (Lw ++ (Lp ++ Lt))
  w : W = keysR K Lw
  a : A = keysR K Lp
  b : B = keysR K Lt
namespace Thr
variable {size : Nat} {W A B : List Nat} {kv : List (Nat × Nat)} {K fr Lw Lp Lt : List Nat} {k z y : Nat}
theorem inW (h : z ∈ Lw) : z ∈ Lw ++ (Lp ++ Lt) := List.mem_append_left _ h
theorem inP (h : z ∈ Lp) : z ∈ Lw ++ (Lp ++ Lt) := List.mem_append_right _ (List.mem_append_left _ h)
theorem inT (h : z ∈ Lt) : z ∈ Lw ++ (Lp ++ Lt) := List.mem_append_right _ (List.mem_append_right _ h)
theorem nd (t : Thr size W A B kv K fr Lw Lp Lt) : Lw.Nodup ∧ Lp.Nodup ∧ Lt.Nodup ∧ (∀ z ∈ Lw, z ∉ Lp ∧ z ∉ Lt) ∧ (∀ z ∈ Lp, z ∉ Lt) := by
  have h := t.tab.und
  rw [List.nodup_append, List.nodup_append] at h
  obtain ⟨h1, ⟨h2, h3, h4⟩, h5⟩ := h
  exact ⟨h1, h2, h3, fun z hz => ⟨fun x => h5 z hz z (List.mem_append_left _ x) rfl, fun x => h5 z hz z (List.mem_append_right _ x) rfl⟩, fun z hz x => h4 z hz z x rfl⟩
theorem wlen (t : Thr size W A B kv K fr Lw Lp Lt) : W.length = Lw.length := by rw [t.w, keysR_len]
theorem alen (t : Thr size W A B kv K fr Lw Lp Lt) : A.length = Lp.length := by rw [t.a, keysR_len]
theorem blen (t : Thr size W A B kv K fr Lw Lp Lt) : B.length = Lt.length := by rw [t.b, keysR_len]
theorem len (t : Thr size W A B kv K fr Lw Lp Lt) : kv.length = W.length + A.length + B.length := by rw [t.tab.len, List.length_append, List.length_append, t.wlen, t.alen, t.blen]; omega
theorem le (t : Thr size W A B kv K fr Lw Lp Lt) : W.length + A.length + B.length ≤ size := by
  have := t.tab.tot
  rw [List.length_append, List.length_append, ← t.wlen, ← t.alen, ← t.blen] at this
  omega
theorem lt (t : Thr size W A B kv K fr Lw Lp Lt) (h : z ∈ Lw ++ (Lp ++ Lt)) : z < size := t.tab.ult z h
theorem wnd (t : Thr size W A B kv K fr Lw Lp Lt) : W.Nodup := by rw [t.w]; exact keysR_nodup t.tab t.nd.1 fun z h => inW h
theorem and' (t : Thr size W A B kv K fr Lw Lp Lt) : A.Nodup := by rw [t.a]; exact keysR_nodup t.tab t.nd.2.1 fun z h => inP h
theorem bnd (t : Thr size W A B kv K fr Lw Lp Lt) : B.Nodup := by rw [t.b]; exact keysR_nodup t.tab t.nd.2.2.1 fun z h => inT h
theorem klt (t : Thr size W A B kv K fr Lw Lp Lt) (h : k ∈ W ∨ k ∈ A ∨ k ∈ B) : k < 4294967296 := by
  rw [t.w, t.a, t.b, mem_keysR, mem_keysR, mem_keysR] at h
  rcases h with ⟨z, hz, rfl⟩ | ⟨z, hz, rfl⟩ | ⟨z, hz, rfl⟩
  · exact t.tab.klt (t.lt (inW hz))
  · exact t.tab.klt (t.lt (inP hz))
  · exact t.tab.klt (t.lt (inT hz))
theorem none_of (t : Thr size W A B kv K fr Lw Lp Lt) (h : mget kv k = none) : k ∉ W ∧ k ∉ A ∧ k ∉ B :=
  ⟨by rw [t.w]; exact not_keysR t.tab (fun z h => inW h) h, by rw [t.a]; exact not_keysR t.tab (fun z h => inP h) h, by rw [t.b]; exact not_keysR t.tab (fun z h => inT h) h⟩
theorem some_of (t : Thr size W A B kv K fr Lw Lp Lt) (h : mget kv k = some z) : (k ∈ W ↔ z ∈ Lw) ∧ (k ∈ A ↔ z ∈ Lp) ∧ (k ∈ B ↔ z ∈ Lt) ∧ (z ∈ Lw ∨ z ∈ Lp ∨ z ∈ Lt) ∧ z < size ∧ K.getD z 0 = k := by
  obtain ⟨h1, h2, h3⟩ := t.tab.some_of h
  refine ⟨by rw [t.w]; exact mem_keysR_at t.tab (fun z h => inW h) h, by rw [t.a]; exact mem_keysR_at t.tab (fun z h => inP h) h, by rw [t.b]; exact mem_keysR_at t.tab (fun z h => inT h) h, ?_, h3, h2⟩
  rcases List.mem_append.1 h1 with h | h
  · exact .inl h
  · exact .inr (List.mem_append.1 h)
theorem mem_iff (t : Thr size W A B kv K fr Lw Lp Lt) : (k ∈ W ∨ k ∈ A ∨ k ∈ B) ↔ (mget kv k).isSome = true := by
  cases h : mget kv k with
  | none => have := t.none_of h; simp [this.1, this.2.1, this.2.2]
  | some z =>
    obtain ⟨h1, h2, h3, h4, _⟩ := t.some_of h
    exact ⟨fun _ => rfl, fun _ => h4.imp h1.2 (fun x => x.imp h2.2 h3.2)⟩
theorem disj (t : Thr size W A B kv K fr Lw Lp Lt) : (∀ k ∈ W, k ∉ A ∧ k ∉ B) ∧ (∀ k ∈ A, k ∉ B) := by
  have hm : ∀ k, (k ∈ W ∨ k ∈ A ∨ k ∈ B) → ∃ z, mget kv k = some z := fun k h => Option.isSome_iff_exists.1 (t.mem_iff.1 h)
  obtain ⟨_, _, _, d1, d2⟩ := t.nd
  refine ⟨fun k hk => ?_, fun k hk hb => ?_⟩
  · obtain ⟨z, hz⟩ := hm k (.inl hk)
    obtain ⟨h1, h2, h3, _⟩ := t.some_of hz
    exact ⟨fun x => (d1 z (h1.1 hk)).1 (h2.1 x), fun x => (d1 z (h1.1 hk)).2 (h3.1 x)⟩
  · obtain ⟨z, hz⟩ := hm k (.inr (.inl hk))
    obtain ⟨_, h2, h3, _⟩ := t.some_of hz
    exact d2 z (h2.1 hk) (h3.1 hb)
theorem new : Thr size [] [] [] [] (List.replicate size 0) (List.range size).reverse [] [] [] := ⟨Tab.new, rfl, rfl, rfl⟩
theorem addW {r : List Nat} (t : Thr size W A B kv K (r ++ [z]) Lw Lp Lt) (h : mget kv k = none) (hk : k < 4294967296) : z ∉ Lw ∧ z ∉ Lp ∧ z ∉ Lt ∧ z < size ∧ Thr size (k :: W) A B (mput kv k z) (K.set z k) r (Lw ++ [z]) Lp Lt := by
  obtain ⟨h1, h2, h3, h4, h5⟩ := t.tab.add h hk
  rw [List.mem_append, List.mem_append, not_or, not_or] at h5
  refine ⟨h5.1, h5.2.1, h5.2.2, h4, h1.perm ?_, ?_, ?_, ?_⟩
  · rw [List.append_assoc Lw (Lp ++ Lt) [z], List.append_assoc Lw [z] (Lp ++ Lt)]
    exact List.Perm.append_left _ List.perm_append_comm
  · rw [keysR_snoc, h3, keysR_congr fun y hy => h2 y (inW hy), t.w]
  · rw [keysR_congr fun y hy => h2 y (inP hy), t.a]
  · rw [keysR_congr fun y hy => h2 y (inT hy), t.b]
theorem useW (t : Thr size W A B kv K fr Lw Lp Lt) (hz : z ∈ Lw) (e : K.getD z 0 = k) : Thr size (k :: W.erase k) A B kv K fr (Lw.erase z ++ [z]) Lp Lt := by
  refine ⟨t.tab.perm (List.Perm.append_right _ ?_), ?_, t.a, t.b⟩
  · exact (List.perm_cons_erase hz).trans (List.perm_append_comm (l₁ := [z]))
  · rw [keysR_snoc, e, keysR_erase t.tab t.nd.1 (fun z h => inW h) hz, e, ← t.w]
theorem eraseP (t : Thr size W A B kv K fr Lw Lp Lt) (h : mget kv k = some z) : keysR K (Lp.erase z) = A.erase k ∧ keysR K (Lt.erase z) = B.erase k ∧ keysR K (Lw.erase z) = W.erase k := by
  obtain ⟨h1, h2, h3, _, _, e⟩ := t.some_of h
  obtain ⟨n1, n2, n3, _, _⟩ := t.nd
  refine ⟨?_, ?_, ?_⟩
  · by_cases hz : z ∈ Lp
    · rw [keysR_erase t.tab n2 (fun z h => inP h) hz, e, ← t.a]
    · rw [List.erase_of_not_mem hz, List.erase_of_not_mem (fun h => hz (h2.1 h)), t.a]
  · by_cases hz : z ∈ Lt
    · rw [keysR_erase t.tab n3 (fun z h => inT h) hz, e, ← t.b]
    · rw [List.erase_of_not_mem hz, List.erase_of_not_mem (fun h => hz (h3.1 h)), t.b]
  · by_cases hz : z ∈ Lw
    · rw [keysR_erase t.tab n1 (fun z h => inW h) hz, e, ← t.w]
    · rw [List.erase_of_not_mem hz, List.erase_of_not_mem (fun h => hz (h1.1 h)), t.w]
theorem useM (t : Thr size W A B kv K fr Lw Lp Lt) (h : mget kv k = some z) (hz : z ∈ Lp ∨ z ∈ Lt) : Thr size W (A.erase k) (k :: B.erase k) kv K fr Lw (Lp.erase z) (Lt.erase z ++ [z]) := by
  obtain ⟨_, _, _, _, _, e⟩ := t.some_of h
  obtain ⟨e1, e2, _⟩ := t.eraseP h
  obtain ⟨_, n2, n3, _, d⟩ := t.nd
  refine ⟨t.tab.perm (List.Perm.append_left _ ?_), t.w, e1.symm, ?_⟩
  · rcases hz with hz | hz
    · rw [List.erase_of_not_mem (d z hz), ← List.append_assoc]
      refine ((List.perm_cons_erase hz).append_right Lt).trans ?_
      rw [List.cons_append]
      exact List.perm_append_comm (l₁ := [z]) (l₂ := Lp.erase z ++ Lt)
    · rw [List.erase_of_not_mem (fun x => d z x hz)]
      exact List.Perm.append_left _ ((List.perm_cons_erase hz).trans (List.perm_append_comm (l₁ := [z])))
  · rw [keysR_snoc, e, e2]
theorem dem (t : Thr size W A B kv K fr Lw Lp (y :: Lt)) : B ≠ [] ∧ Thr size W (B.getLastD 0 :: A) B.dropLast kv K fr Lw (Lp ++ [y]) Lt := by
  have hB : B = keysR K Lt ++ [K.getD y 0] := by rw [t.b, keysR_cons]
  refine ⟨by rw [hB]; simp, t.tab.perm (List.Perm.append_left _ ?_), t.w, ?_, ?_⟩
  · rw [List.append_assoc]; exact List.Perm.refl _
  · rw [keysR_snoc, hB, getLastD_snoc, t.a]
  · rw [hB, List.dropLast_concat]
theorem cand (t : Thr size W A B kv K fr (y :: Lw) Lp Lt) : W ≠ [] ∧ K.getD y 0 = W.getLastD 0 ∧ Thr size W.dropLast (W.getLastD 0 :: A) B kv K fr Lw (Lp ++ [y]) Lt := by
  have hW : W = keysR K Lw ++ [K.getD y 0] := by rw [t.w, keysR_cons]
  refine ⟨by rw [hW]; simp, by rw [hW, getLastD_snoc], t.tab.perm ?_, ?_, ?_, t.b⟩
  · rw [List.append_assoc Lp]
    refine (List.perm_middle (a := y) (l₁ := []) (l₂ := Lw ++ (Lp ++ Lt))).trans ?_
    rw [List.nil_append]
    refine List.Perm.trans (l₂ := Lw ++ y :: (Lp ++ Lt)) (List.perm_middle (a := y)).symm ?_
    exact List.Perm.append_left _ (List.perm_middle (a := y)).symm
  · rw [hW, List.dropLast_concat]
  · rw [keysR_snoc, hW, getLastD_snoc, t.a]
theorem drop (t : Thr size W A B kv K fr Lw Lp Lt) (h : mget kv k = some z) : Thr size (W.erase k) (A.erase k) (B.erase k) (mdel kv k) K (fr ++ [z]) (Lw.erase z) (Lp.erase z) (Lt.erase z) := by
  obtain ⟨e1, e2, e3⟩ := t.eraseP h
  obtain ⟨_, _, _, _, _⟩ := t.some_of h
  obtain ⟨_, _, _, d1, d2⟩ := t.nd
  have hr := t.tab.remove h
  refine ⟨?_, e3.symm, e1.symm, e2.symm⟩
  rw [List.erase_append] at hr
  by_cases hw : z ∈ Lw
  · rw [if_pos hw] at hr
    rw [List.erase_of_not_mem (d1 z hw).1, List.erase_of_not_mem (d1 z hw).2]; exact hr
  · rw [if_neg hw, List.erase_append] at hr
    rw [List.erase_of_not_mem hw]
    by_cases hp : z ∈ Lp
    · rw [if_pos hp] at hr
      rw [List.erase_of_not_mem (d2 z hp)]; exact hr
    · rw [if_neg hp] at hr
      rw [List.erase_of_not_mem hp]; exact hr
theorem slot (t : Thr size W A B kv K fr Lw Lp Lt) (h : z ∈ Lw ++ (Lp ++ Lt)) : mget kv (K.getD z 0) = some z := t.tab.of_mem h
end Thr
end Go.Tb
