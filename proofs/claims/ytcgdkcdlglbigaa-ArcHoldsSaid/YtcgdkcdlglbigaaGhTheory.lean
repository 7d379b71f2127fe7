/- Ghost lists, plainly: nodes of two lists, keys of nodes, a map from keys to nodes. No program, no condition. -/
import Derived.Test.YtcgdkcdlglbigaaLkA
import Derived.Test.YtcgdkcdlglbigaaSlM
namespace Go.Lk
open Go.Sl
theorem inj_of_nodup {g : Nat → Nat} : ∀ {l : List Nat}, (l.map g).Nodup → ∀ a ∈ l, ∀ b ∈ l, g a = g b → a = b
  | [], _, a, ha, _, _, _ => by cases ha
  | x :: l, h, a, ha, b, hb, e => by
    rw [List.map_cons, List.nodup_cons] at h
    rcases List.mem_cons.1 ha with ea | ha'
    · rcases List.mem_cons.1 hb with eb | hb'
      · rw [ea, eb]
      · exact absurd (List.mem_map.2 ⟨b, hb', e.symm.trans (congrArg g ea)⟩) h.1
    · rcases List.mem_cons.1 hb with eb | hb'
      · exact absurd (List.mem_map.2 ⟨a, ha', e.trans (congrArg g eb)⟩) h.1
      · exact inj_of_nodup h.2 a ha' b hb' e
theorem map_erase_nodup {g : Nat → Nat} {n : Nat} : ∀ {l : List Nat}, (l.map g).Nodup → n ∈ l → (l.map g).erase (g n) = (l.erase n).map g
  | [], _, h => by cases h
  | x :: l, h, hn => by
    have h' := h
    rw [List.map_cons, List.nodup_cons] at h
    by_cases e : x = n
    · subst e; simp
    · have hn' : n ∈ l := by
        rcases List.mem_cons.1 hn with e2 | h2
        · exact absurd e2.symm e
        · exact h2
      have e2 : g x ≠ g n := fun e3 => h.1 (e3 ▸ List.mem_map.2 ⟨n, hn', rfl⟩)
      rw [List.map_cons, List.erase_cons_tail (by simpa using e2), List.erase_cons_tail (by simpa using e), List.map_cons, map_erase_nodup h.2 hn']
theorem filter_ne_erase {k : Nat} : ∀ {l : List Nat}, l.Nodup → l.filter (fun x => x != k) = l.erase k
  | [], _ => rfl
  | x :: l, h => by
    rw [List.nodup_cons] at h
    by_cases e : x = k
    · subst e
      have : l.filter (fun y => y != x) = l := List.filter_eq_self.2 fun y hy => by
        have : y ≠ x := fun e => h.1 (e ▸ hy)
        simpa using this
      simp [this]
    · rw [List.erase_cons_tail (by simpa using e), List.filter_cons_of_pos (by simpa using e), filter_ne_erase h.2]
namespace Fld
theorem remF_mem {f : Fld} (w : Wf f) {a n : Nat} (ha : a < f.L.length) (hn : n ∈ f.at a) : f.inE n = 0 ∧ f.remF n = f.set a ((f.at a).erase n) := by
  have hp := w.place ha hn
  have hlt := w.lt ha hn
  have h0 : f.inE n = 0 := by
    unfold Fld.inE
    rw [if_neg (by omega), if_neg (by rw [hp]; simp)]
  refine ⟨h0, ?_⟩
  unfold Fld.remF
  rw [if_pos h0, hp]
  simp only []
  congr 1
  rw [← List.eraseIdx_eq_take_drop_succ, List.erase_eq_eraseIdx_of_idxOf rfl]
/-- A node goes from one list to another. -/
theorem move {f : Fld} (w : Wf f) {a b n : Nat} {front : Bool} (ha : a < f.L.length) (hb : b < f.L.length) (hn : n ∈ f.at a) :
    f.inE n = 0 ∧ (f.remF n).addE b n = 0 ∧ (f.remF n).addF b n front = (f.set a ((f.at a).erase n)).set b (if front then n :: (f.set a ((f.at a).erase n)).at b else (f.set a ((f.at a).erase n)).at b ++ [n]) := by
  obtain ⟨h0, h1⟩ := remF_mem w ha hn
  have hg := w.gone h0
  have hlt := w.lt ha hn
  obtain ⟨h2, h3⟩ := Fld.addF_eq (f := f.remF n) (b := b) (n := n) (front := front) (by rw [h1, Fld.set_len]; exact hb) (by rw [h1]; exact hlt) hg
  refine ⟨h0, h2, ?_⟩
  rw [h3, h1]
end Fld
end Go.Lk
namespace Go.Gh
open Go.Lk Go.Sl
/-- The state of a ghost list: 'L': its keys, the newest first. -/
structure GInv (most : Nat) (f : Fld) (K : List Nat) (kv : List (Nat × Nat)) (L : List Nat) : Prop where
  wf : Wf f
  N : f.N = most + 1
  M : f.L.length = 2
  kl : K.length = most + 1
  eq : L = (f.at 0).map fun n => K.getD n 0
  nd : L.Nodup
  kn : (mkeys kv).Nodup
  at_iff : ∀ k n, mget kv k = some n ↔ n ∈ f.at 0 ∧ K.getD n 0 = k
  len : kv.length = L.length
  tot : (f.at 0).length + (f.at 1).length = most + 1
  lt : ∀ k ∈ K, k < 4294967296
namespace GInv
variable {most : Nat} {f : Fld} {K : List Nat} {kv : List (Nat × Nat)} {L : List Nat}
theorem fresh {N i : Nat} (hi : i < N) : (⟨N, [[], List.range i]⟩ : Fld).addE 1 i = 0 ∧ (⟨N, [[], List.range i]⟩ : Fld).addF 1 i false = ⟨N, [[], List.range (i + 1)]⟩ := by
  have hp : (⟨N, [[], List.range i]⟩ : Fld).place i = none := by
    rw [Fld.place_none]
    intro h hh
    match h, hh with
    | 0, _ => simp [Fld.at]
    | 1, _ => simp [Fld.at]
  obtain ⟨h1, h2⟩ := Fld.addF_eq (f := ⟨N, [[], List.range i]⟩) (b := 1) (n := i) (front := false) (by simp) hi hp
  refine ⟨h1, h2.trans ?_⟩
  simp [Fld.set, Fld.at, List.range_succ]
theorem inj (g : GInv most f K kv L) {a b : Nat} (ha : a ∈ f.at 0) (hb : b ∈ f.at 0) (e : K.getD a 0 = K.getD b 0) : a = b :=
  inj_of_nodup (g := fun n => K.getD n 0) (by have := g.nd; rw [g.eq] at this; exact this) a ha b hb e
theorem llen (g : GInv most f K kv L) : L.length = (f.at 0).length := by rw [g.eq, List.length_map]
theorem lt0 (g : GInv most f K kv L) {n : Nat} (h : n ∈ f.at 0) : n < most + 1 := by rw [← g.N]; exact g.wf.lt (by rw [g.M]; decide) h
theorem mem (g : GInv most f K kv L) {k : Nat} : k ∈ L ↔ (mget kv k).isSome = true := by
  rw [g.eq]
  constructor
  · intro h
    obtain ⟨n, hn, e⟩ := List.mem_map.1 h
    rw [(g.at_iff k n).2 ⟨hn, e⟩]; rfl
  · intro h
    obtain ⟨n, hn⟩ := Option.isSome_iff_exists.1 h
    obtain ⟨h1, h2⟩ := (g.at_iff k n).1 hn
    exact List.mem_map.2 ⟨n, h1, h2⟩
theorem keylt (g : GInv most f K kv L) {n : Nat} (h : n ∈ f.at 0) : K.getD n 0 < 4294967296 := by
  refine g.lt _ ?_
  have := g.lt0 h
  have hk := g.kl
  rw [List.getD_eq_getElem?_getD, List.getElem?_eq_getElem (by omega)]
  exact List.getElem_mem _
theorem llt (g : GInv most f K kv L) : ∀ k ∈ L, k < 4294967296 := by
  intro k hk
  rw [g.eq] at hk
  obtain ⟨n, hn, rfl⟩ := List.mem_map.1 hk
  exact g.keylt hn
/-- A key leaves. -/
theorem take (g : GInv most f K kv L) {n : Nat} (hn : n ∈ f.at 0) : f.inE n = 0 ∧ (f.remF n).addE 1 n = 0 ∧ GInv most ((f.remF n).addF 1 n false) K (mdel kv (K.getD n 0)) (L.erase (K.getD n 0)) := by
  have hM := g.M
  obtain ⟨h0, h1, h2⟩ := Fld.move g.wf (front := false) (a := 0) (b := 1) (by omega) (by omega) hn
  have h1 : (f.remF n).addE 1 n = 0 := h1
  have h2 : (f.remF n).addF 1 n false = _ := h2
  refine ⟨h0, h1, ?_⟩
  have w2 : Wf ((f.remF n).addF 1 n false) := (g.wf.remF n).addF 1 n false
  have a0 : ((f.remF n).addF 1 n false).at 0 = (f.at 0).erase n := by
    rw [h2, Fld.at_set (by rw [Fld.set_len]; omega), if_neg (by decide), Fld.at_set (by omega), if_pos rfl]
  have a1 : ((f.remF n).addF 1 n false).at 1 = f.at 1 ++ [n] := by
    rw [h2, Fld.at_set (by rw [Fld.set_len]; omega), if_pos rfl]
    simp only [Bool.false_eq_true, if_false]
    rw [Fld.at_set (by omega), if_neg (by decide)]
  have nd := g.nd
  rw [g.eq] at nd
  have hd : (f.at 0).Nodup := g.wf.nodup (by omega)
  have hk : K.getD n 0 ∈ L := by rw [g.eq]; exact List.mem_map.2 ⟨n, hn, rfl⟩
  refine ⟨w2, by rw [h2]; exact g.N, by rw [h2, Fld.set_len, Fld.set_len]; exact g.M, g.kl, ?_, g.nd.erase _, mdel_nodup g.kn, fun k m => ?_, ?_, ?_, g.lt⟩
  · rw [a0, g.eq]
    exact map_erase_nodup (g := fun n => K.getD n 0) nd hn
  · rw [mget_del g.kn, a0]
    by_cases e : k = K.getD n 0
    · rw [if_pos e]
      constructor
      · intro h; cases h
      · rintro ⟨h3, h4⟩
        have h5 := List.mem_of_mem_erase h3
        have h6 := g.inj h5 hn (by rw [h4, e])
        subst h6
        exact absurd h3 (fun h => by rw [hd.mem_erase_iff] at h; exact h.1 rfl)
    · rw [if_neg e, g.at_iff, hd.mem_erase_iff]
      constructor
      · rintro ⟨h3, h4⟩
        exact ⟨⟨fun e2 => e (by rw [← h4, e2]), h3⟩, h4⟩
      · rintro ⟨⟨_, h3⟩, h4⟩
        exact ⟨h3, h4⟩
  · rw [mdel_len, if_pos (g.mem.1 hk), List.length_erase_of_mem hk, g.len]
  · rw [a0, a1, List.length_erase_of_mem hn, List.length_append]
    have := List.length_pos_of_mem hn
    have := g.tot
    simp only [List.length_cons, List.length_nil]
    omega
/-- A key that is there becomes the newest. -/
theorem use (g : GInv most f K kv L) {n : Nat} (hn : n ∈ f.at 0) : f.inE n = 0 ∧ (f.remF n).addE 0 n = 0 ∧ GInv most ((f.remF n).addF 0 n true) K kv (K.getD n 0 :: L.erase (K.getD n 0)) := by
  have hM := g.M
  obtain ⟨h0, h1, h2⟩ := Fld.move g.wf (front := true) (a := 0) (b := 0) (by omega) (by omega) hn
  have h1 : (f.remF n).addE 0 n = 0 := h1
  have h2 : (f.remF n).addF 0 n true = _ := h2
  refine ⟨h0, h1, ?_⟩
  have w2 : Wf ((f.remF n).addF 0 n true) := (g.wf.remF n).addF 0 n true
  have a0 : ((f.remF n).addF 0 n true).at 0 = n :: (f.at 0).erase n := by
    rw [h2, Fld.at_set (by rw [Fld.set_len]; omega), if_pos rfl, if_pos rfl, Fld.at_set (by omega), if_pos rfl]
  have a1 : ((f.remF n).addF 0 n true).at 1 = f.at 1 := by
    rw [h2, Fld.at_set (by rw [Fld.set_len]; omega), if_neg (by decide), Fld.at_set (by omega), if_neg (by decide)]
  have nd := g.nd
  rw [g.eq] at nd
  have hd : (f.at 0).Nodup := g.wf.nodup (by omega)
  have hk : K.getD n 0 ∈ L := by rw [g.eq]; exact List.mem_map.2 ⟨n, hn, rfl⟩
  have hpos := List.length_pos_of_mem hn
  have hpos2 := List.length_pos_of_mem hk
  refine ⟨w2, by rw [h2]; exact g.N, by rw [h2, Fld.set_len, Fld.set_len]; exact g.M, g.kl, ?_, ?_, g.kn, fun k m => ?_, ?_, ?_, g.lt⟩
  · rw [a0, List.map_cons, g.eq]
    congr 1
    exact map_erase_nodup (g := fun n => K.getD n 0) nd hn
  · rw [List.nodup_cons]
    exact ⟨fun h => by rw [g.nd.mem_erase_iff] at h; exact h.1 rfl, g.nd.erase _⟩
  · rw [g.at_iff, a0, List.mem_cons, hd.mem_erase_iff]
    constructor
    · rintro ⟨h3, h4⟩
      refine ⟨?_, h4⟩
      by_cases e : m = n
      · exact .inl e
      · exact .inr ⟨e, h3⟩
    · rintro ⟨h3, h4⟩
      refine ⟨?_, h4⟩
      rcases h3 with rfl | ⟨_, h3⟩
      · exact hn
      · exact h3
  · rw [List.length_cons, List.length_erase_of_mem hk, g.len]; omega
  · rw [a0, a1, List.length_cons, List.length_erase_of_mem hn]
    have := g.tot
    omega
/-- A new key. -/
theorem add (g : GInv most f K kv L) {k n : Nat} {t : List Nat} (hk : k < 4294967296) (hnot : k ∉ L) (h1 : f.at 1 = n :: t) : f.inE n = 0 ∧ (f.remF n).addE 0 n = 0 ∧ n < most + 1 ∧ GInv most ((f.remF n).addF 0 n true) (K.set n k) (mput kv k n) (k :: L) := by
  have hM := g.M
  have hn : n ∈ f.at 1 := by rw [h1]; exact List.mem_cons_self ..
  have hlt := g.wf.lt (by omega) hn
  rw [g.N] at hlt
  obtain ⟨h0, h2, h3⟩ := Fld.move g.wf (front := true) (a := 1) (b := 0) (by omega) (by omega) hn
  have h2 : (f.remF n).addE 0 n = 0 := h2
  have h3 : (f.remF n).addF 0 n true = _ := h3
  have n0 : n ∉ f.at 0 := fun h => by
    have := g.wf.uniq (h := 0) (k := 1) (by omega) (by omega) h hn
    omega
  refine ⟨h0, h2, hlt, ?_⟩
  have w2 : Wf ((f.remF n).addF 0 n true) := (g.wf.remF n).addF 0 n true
  have a0 : ((f.remF n).addF 0 n true).at 0 = n :: f.at 0 := by
    rw [h3, Fld.at_set (by rw [Fld.set_len]; omega), if_pos rfl, if_pos rfl, Fld.at_set (by omega), if_neg (by decide)]
  have a1 : ((f.remF n).addF 0 n true).at 1 = t := by
    rw [h3, Fld.at_set (by rw [Fld.set_len]; omega), if_neg (by decide), Fld.at_set (by omega), if_pos rfl, h1]
    simp
  have kl := g.kl
  have gd : ∀ m ∈ f.at 0, (K.set n k).getD m 0 = K.getD m 0 := fun m hm => by
    have : n ≠ m := fun e => n0 (e ▸ hm)
    rw [List.getD_eq_getElem?_getD, List.getD_eq_getElem?_getD, List.getElem?_set_ne this]
  have gn : (K.set n k).getD n 0 = k := by rw [List.getD_eq_getElem?_getD, List.getElem?_set_self (by omega)]; rfl
  have hnone : mget kv k = none := by
    cases hm : mget kv k with
    | none => rfl
    | some m => exact absurd (g.mem.2 (by rw [hm]; rfl)) hnot
  refine ⟨w2, by rw [h3]; exact g.N, by rw [h3, Fld.set_len, Fld.set_len]; exact g.M, by simpa using kl, ?_, List.nodup_cons.2 ⟨hnot, g.nd⟩, mput_nodup g.kn, fun j m => ?_, ?_, ?_, fun j hj => ?_⟩
  · rw [a0, List.map_cons, gn, g.eq]
    congr 1
    exact List.map_congr_left fun m hm => (gd m hm).symm
  · rw [mget_put, a0, List.mem_cons]
    by_cases e : j = k
    · subst e
      rw [if_pos rfl]
      constructor
      · intro h; cases h; exact ⟨.inl rfl, gn⟩
      · rintro ⟨h4 | h4, h5⟩
        · rw [h4]
        · rw [gd m h4] at h5
          have := (g.at_iff j m).2 ⟨h4, h5⟩
          rw [hnone] at this; cases this
    · rw [if_neg e, g.at_iff]
      constructor
      · rintro ⟨h4, h5⟩
        exact ⟨.inr h4, by rw [gd m h4]; exact h5⟩
      · rintro ⟨h4 | h4, h5⟩
        · subst h4; exact absurd (h5.symm.trans gn) e
        · exact ⟨h4, by rw [← gd m h4]; exact h5⟩
  · rw [mput_len, hnone]
    simp [g.len]
  · rw [a0, a1, List.length_cons]
    have := g.tot
    rw [h1, List.length_cons] at this
    omega
  · rcases List.mem_or_eq_of_mem_set hj with h | h
    · exact g.lt j h
    · omega
end GInv
end Go.Gh
