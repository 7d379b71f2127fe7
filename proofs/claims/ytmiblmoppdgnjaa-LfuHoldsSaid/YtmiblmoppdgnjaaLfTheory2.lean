/- Counted keys in the lists of a field, plainly. -/
import Derived.Test.YtmiblmoppdgnjaaLfTheory
namespace Go.Lf
open Go.Lk Go.Sl
/-- 'l' lies in the lists of a field, but for the nodes 'x', which lie in none. -/
structure LC (size : Nat) (l : List It) (f : Fld) (K : List Nat) (x : List Nat) : Prop where
  wf : Wf f
  N : f.N = size
  M : f.L.length = 256
  kl : K.length = size
  srt : Srt l
  cnt : ∀ y ∈ l, 1 ≤ y.2 ∧ y.2 ≤ 255
  nd : (ks l).Nodup
  g : ∀ n, 1 ≤ n → n ≤ 255 → (f.at n).map (fun z => K.getD z 0) = grp l n
  tot : (f.at 0).length + l.length + x.length = size
  fl : ∀ z ∈ x, z < size ∧ f.place z = none
  lt : ∀ k ∈ K, k < 4294967296
/-- The node of a key. -/
def InK (f : Fld) (K : List Nat) (z k : Nat) : Prop := ∃ n, 1 ≤ n ∧ n ≤ 255 ∧ z ∈ f.at n ∧ K.getD z 0 = k
namespace LC
variable {size : Nat} {l : List It} {f : Fld} {K x : List Nat} {z n k : Nat}
theorem head (c : LC size l f K x) (h1 : n ≤ 255) : f.head (n : Nat) = true := by
  unfold Fld.head
  rw [c.M]
  exact decide_eq_true ⟨by omega, by omega⟩
theorem zlt (c : LC size l f K x) (h : n ≤ 255) (hz : z ∈ f.at n) : z < size := by rw [← c.N]; exact c.wf.lt (by rw [c.M]; omega) hz
theorem key (c : LC size l f K x) (h1 : 1 ≤ n) (h2 : n ≤ 255) (hz : z ∈ f.at n) : (K.getD z 0, n) ∈ l := by
  refine mem_grp.1 ?_
  rw [← c.g n h1 h2]
  exact List.mem_map.2 ⟨z, hz, rfl⟩
theorem key_lt (c : LC size l f K x) (hz : z < size) : K.getD z 0 < 4294967296 := by
  have := c.kl
  rw [List.getD_eq_getElem?_getD, List.getElem?_eq_getElem (by omega)]
  exact c.lt _ (List.getElem_mem _)
theorem same (c : LC size l f K x) {y m : Nat} (h1 : 1 ≤ n) (h2 : n ≤ 255) (hz : z ∈ f.at n) (m1 : 1 ≤ m) (m2 : m ≤ 255) (hy : y ∈ f.at m) (e : K.getD z 0 = K.getD y 0) : z = y := by
  have a := c.key h1 h2 hz
  have b := c.key m1 m2 hy
  rw [e] at a
  obtain rfl := uniq c.nd a b
  have hn : (grp l n).Nodup := c.nd.sublist grp_sub
  rw [← c.g n h1 h2] at hn
  exact inj_of_nodup hn z hz y hy e
/-- The node of a key is one. -/
theorem in_inj (c : LC size l f K x) {y : Nat} (a : InK f K z k) (b : InK f K y k) : z = y := by
  obtain ⟨n, n1, n2, h1, e1⟩ := a
  obtain ⟨m, m1, m2, h2, e2⟩ := b
  exact c.same n1 n2 h1 m1 m2 h2 (e1.trans e2.symm)
theorem of_mem (c : LC size l f K x) (h : (k, n) ∈ l) : ∃ z, z ∈ f.at n ∧ K.getD z 0 = k := by
  obtain ⟨h1, h2⟩ := c.cnt _ h
  have := mem_grp.2 h
  rw [← c.g n h1 h2] at this
  exact List.mem_map.1 this
theorem in_iff (c : LC size l f K x) : (∃ z, InK f K z k) ↔ k ∈ ks l := by
  constructor
  · rintro ⟨z, n, n1, n2, h, rfl⟩
    exact List.mem_map.2 ⟨_, c.key n1 n2 h, rfl⟩
  · intro h
    obtain ⟨⟨k', n⟩, hy, rfl⟩ := List.mem_map.1 h
    obtain ⟨n1, n2⟩ := c.cnt _ hy
    obtain ⟨z, h1, h2⟩ := c.of_mem hy
    exact ⟨z, n, n1, n2, h1, h2⟩
/-- A node with a key is taken out. -/
theorem takeK (c : LC size l f K []) (h1 : 1 ≤ n) (h2 : n ≤ 255) (hz : z ∈ f.at n) :
    f.inE z = 0 ∧ LC size (wo l (K.getD z 0)) (f.remF z) K [z] ∧ ∀ y j, InK (f.remF z) K y j ↔ InK f K y j ∧ y ≠ z := by
  have hn : n < f.L.length := by rw [c.M]; omega
  obtain ⟨e0, e1⟩ := Fld.remF_mem c.wf hn hz
  have hat : ∀ m, (f.remF z).at m = if m = n then (f.at n).erase z else f.at m := fun m => by rw [e1, Fld.at_set hn]
  have hk := c.key h1 h2 hz
  have hks : K.getD z 0 ∈ ks l := List.mem_map.2 ⟨_, hk, rfl⟩
  have hgn : (grp l n).Nodup := c.nd.sublist grp_sub
  have hwl := wo_len c.nd hks
  refine ⟨e0, ⟨c.wf.remF z, by rw [e1]; exact c.N, by rw [e1, Fld.set_len]; exact c.M, c.kl, srt_sub c.srt List.filter_sublist, fun y hy => c.cnt y (mem_wo.1 hy).1, ?_, ?_, ?_, ?_, c.lt⟩, ?_⟩
  · rw [ks_wo]; exact c.nd.sublist List.filter_sublist
  · intro m m1 m2
    rw [hat, grp_wo]
    by_cases e : m = n
    · subst e
      rw [if_pos rfl, filter_ne_erase hgn, ← c.g m m1 m2]
      exact (map_erase_nodup (g := fun z => K.getD z 0) (by rw [c.g m m1 m2]; exact hgn) hz).symm
    · rw [if_neg e, c.g m m1 m2, List.filter_eq_self.2]
      intro y hy
      have : y ≠ K.getD z 0 := fun e2 => e (uniq c.nd (e2 ▸ mem_grp.1 hy) hk)
      simpa using this
  · rw [hat, if_neg (by omega)]
    have := c.tot
    simp only [List.length_nil, List.length_cons] at this ⊢
    omega
  · intro y hy
    rw [List.mem_singleton] at hy
    subst hy
    exact ⟨c.zlt h2 hz, c.wf.gone e0⟩
  · intro y j
    unfold InK
    constructor
    · rintro ⟨m, m1, m2, hy, e⟩
      rw [hat] at hy
      by_cases em : m = n
      · subst em
        rw [if_pos rfl, (c.wf.nodup hn).mem_erase_iff] at hy
        exact ⟨⟨m, m1, m2, hy.2, e⟩, hy.1⟩
      · rw [if_neg em] at hy
        refine ⟨⟨m, m1, m2, hy, e⟩, fun e2 => em (c.wf.uniq (by rw [c.M]; omega) hn (e2 ▸ hy) hz)⟩
    · rintro ⟨⟨m, m1, m2, hy, e⟩, hne⟩
      refine ⟨m, m1, m2, ?_, e⟩
      rw [hat]
      by_cases em : m = n
      · subst em
        rw [if_pos rfl, (c.wf.nodup hn).mem_erase_iff]
        exact ⟨hne, hy⟩
      · rw [if_neg em]; exact hy
/-- A node without a key is taken out. -/
theorem takeF (c : LC size l f K []) (hz : z ∈ f.at 0) : f.inE z = 0 ∧ LC size l (f.remF z) K [z] ∧ ∀ y j, InK (f.remF z) K y j ↔ InK f K y j := by
  have hn : 0 < f.L.length := by rw [c.M]; omega
  obtain ⟨e0, e1⟩ := Fld.remF_mem c.wf hn hz
  have hat : ∀ m, (f.remF z).at m = if m = 0 then (f.at 0).erase z else f.at m := fun m => by rw [e1, Fld.at_set hn]
  refine ⟨e0, ⟨c.wf.remF z, by rw [e1]; exact c.N, by rw [e1, Fld.set_len]; exact c.M, c.kl, c.srt, c.cnt, c.nd, ?_, ?_, ?_, c.lt⟩, ?_⟩
  · intro m m1 m2
    rw [hat, if_neg (by omega)]; exact c.g m m1 m2
  · rw [hat, if_pos rfl, List.length_erase_of_mem hz]
    have := c.tot
    have := List.length_pos_of_mem hz
    simp only [List.length_nil, List.length_cons] at *
    omega
  · intro y hy
    rw [List.mem_singleton] at hy
    subst hy
    exact ⟨c.zlt (by omega) hz, c.wf.gone e0⟩
  · intro y j
    unfold InK
    constructor
    · rintro ⟨m, m1, m2, hy, e⟩
      rw [hat, if_neg (by omega)] at hy
      exact ⟨m, m1, m2, hy, e⟩
    · rintro ⟨m, m1, m2, hy, e⟩
      exact ⟨m, m1, m2, by rw [hat, if_neg (by omega)]; exact hy, e⟩
theorem nowhere (c : LC size l f K [z]) {m : Nat} (hm : m ≤ 255) : z ∉ f.at m := by
  have := (c.fl z (by simp)).2
  exact Fld.place_none.1 this m (by rw [c.M]; omega)
/-- A node comes back to the free ones. -/
theorem putF (c : LC size l f K [z]) : f.addE 0 z = 0 ∧ LC size l (f.addF 0 z false) K [] ∧ ∀ y j, InK (f.addF 0 z false) K y j ↔ InK f K y j := by
  have hn : 0 < f.L.length := by rw [c.M]; omega
  obtain ⟨z1, z2⟩ := c.fl z (by simp)
  obtain ⟨e0, e1⟩ := Fld.addF_eq (f := f) (b := 0) (n := z) (front := false) hn (by rw [c.N]; exact z1) z2
  have e1' : f.addF 0 z false = f.set 0 (f.at 0 ++ [z]) := e1
  have hat : ∀ m, (f.addF 0 z false).at m = if m = 0 then f.at 0 ++ [z] else f.at m := fun m => by rw [e1', Fld.at_set hn]
  refine ⟨e0, ⟨c.wf.addF _ _ _, by rw [e1']; exact c.N, by rw [e1', Fld.set_len]; exact c.M, c.kl, c.srt, c.cnt, c.nd, ?_, ?_, ?_, c.lt⟩, ?_⟩
  · intro m m1 m2
    rw [hat, if_neg (by omega)]; exact c.g m m1 m2
  · rw [hat, if_pos rfl, List.length_append]
    have := c.tot
    simp only [List.length_nil, List.length_cons] at *
    omega
  · intro y hy; cases hy
  · intro y j
    unfold InK
    constructor
    · rintro ⟨m, m1, m2, hy, e⟩
      rw [hat, if_neg (by omega)] at hy
      exact ⟨m, m1, m2, hy, e⟩
    · rintro ⟨m, m1, m2, hy, e⟩
      exact ⟨m, m1, m2, by rw [hat, if_neg (by omega)]; exact hy, e⟩
/-- A node comes into the list of a count, with a key. -/
theorem putK (c : LC size l f K [z]) (h1 : 1 ≤ n) (h2 : n ≤ 255) (hk : k ∉ ks l) (hk32 : k < 4294967296) :
    f.addE n z = 0 ∧ LC size (ins l (k, n)) (f.addF n z false) (K.set z k) [] ∧ ∀ y j, InK (f.addF n z false) (K.set z k) y j ↔ (y = z ∧ j = k) ∨ InK f K y j := by
  have hn : n < f.L.length := by rw [c.M]; omega
  obtain ⟨z1, z2⟩ := c.fl z (by simp)
  obtain ⟨e0, e1⟩ := Fld.addF_eq (f := f) (b := n) (n := z) (front := false) hn (by rw [c.N]; exact z1) z2
  have e1' : f.addF n z false = f.set n (f.at n ++ [z]) := e1
  have hat : ∀ m, (f.addF n z false).at m = if m = n then f.at n ++ [z] else f.at m := fun m => by rw [e1', Fld.at_set hn]
  have hkl := c.kl
  have hKz : (K.set z k).getD z 0 = k := by rw [List.getD_eq_getElem?_getD, List.getElem?_set_self (by omega)]; rfl
  have hKo : ∀ y, y ≠ z → (K.set z k).getD y 0 = K.getD y 0 := fun y hy => by
    rw [List.getD_eq_getElem?_getD, List.getElem?_set_ne (fun e => hy e.symm), List.getD_eq_getElem?_getD]
  have hmap : ∀ m, m ≤ 255 → (f.at m).map (fun y => (K.set z k).getD y 0) = (f.at m).map (fun y => K.getD y 0) := fun m hm =>
    List.map_congr_left fun y hy => hKo y fun e => c.nowhere hm (e ▸ hy)
  refine ⟨e0, ⟨c.wf.addF _ _ _, by rw [e1']; exact c.N, by rw [e1', Fld.set_len]; exact c.M, by rw [List.length_set]; exact hkl, srt_ins c.srt, ?_, ?_, ?_, ?_, ?_, ?_⟩, ?_⟩
  · intro y hy
    rcases (mem_ins c.srt).1 hy with rfl | hy
    · exact ⟨h1, h2⟩
    · exact c.cnt y hy
  · have hp := (ins_perm c.srt (x := (k, n))).map (·.1)
    rw [hp.nodup_iff]
    exact List.nodup_cons.2 ⟨hk, c.nd⟩
  · intro m m1 m2
    rw [hat, grp_ins c.srt]
    by_cases e : m = n
    · subst e
      rw [if_pos rfl, if_pos rfl, List.map_append, hmap m m2, c.g m m1 m2]
      simp only [List.map_cons, List.map_nil, hKz]
    · rw [if_neg e, if_neg e, hmap m m2, c.g m m1 m2, List.append_nil]
  · rw [hat, if_neg (by omega), ins_len c.srt]
    have := c.tot
    simp only [List.length_nil, List.length_cons] at *
    omega
  · intro y hy; cases hy
  · intro y hy
    rcases List.mem_or_eq_of_mem_set hy with h | rfl
    · exact c.lt y h
    · exact hk32
  · intro y j
    unfold InK
    constructor
    · rintro ⟨m, m1, m2, hy, e⟩
      rw [hat] at hy
      by_cases ey : y = z
      · subst ey
        rw [hKz] at e
        exact .inl ⟨rfl, e.symm⟩
      · rw [hKo y ey] at e
        refine .inr ⟨m, m1, m2, ?_, e⟩
        by_cases em : m = n
        · subst em
          rw [if_pos rfl, List.mem_append, List.mem_singleton] at hy
          rcases hy with hy | hy
          · exact hy
          · exact absurd hy ey
        · rw [if_neg em] at hy; exact hy
    · rintro (⟨rfl, rfl⟩ | ⟨m, m1, m2, hy, e⟩)
      · exact ⟨n, h1, h2, by rw [hat, if_pos rfl]; simp, hKz⟩
      · have ey : y ≠ z := fun e => c.nowhere m2 (e ▸ hy)
        refine ⟨m, m1, m2, ?_, by rw [hKo y ey]; exact e⟩
        rw [hat]
        by_cases em : m = n
        · subst em; rw [if_pos rfl]; exact List.mem_append_left _ hy
        · rw [if_neg em]; exact hy
end LC
end Go.Lf
