/- Counted keys and a map from keys to nodes, plainly: what requests do; counts that are halved. -/
import Derived.Test.YtmiblmoppdgnjaaLfTheory2
namespace Go.Lf
open Go.Lk Go.Sl
/-- The state of a cache: its keys 'l'; the field, the keys of its nodes, the map. -/
structure LInv (size : Nat) (l : List It) (f : Fld) (K : List Nat) (kv : List (Nat × Nat)) : Prop where
  c : LC size l f K []
  kn : (mkeys kv).Nodup
  at_iff : ∀ k z, mget kv k = some z ↔ InK f K z k
  len : kv.length = l.length
namespace LInv
variable {size : Nat} {l : List It} {f : Fld} {K : List Nat} {kv : List (Nat × Nat)} {z n k : Nat}
/-- A key that is there. -/
theorem some_of (g : LInv size l f K kv) (h : mget kv k = some z) : ∃ n, 1 ≤ n ∧ n ≤ 255 ∧ z ∈ f.at n ∧ K.getD z 0 = k ∧ z < size ∧ (k, n) ∈ l ∧ cntOf l k = n ∧ f.ofR z = (n, 0) := by
  obtain ⟨n, n1, n2, h1, h2⟩ := (g.at_iff k z).1 h
  have hk := g.c.key n1 n2 h1
  have hz := g.c.zlt n2 h1
  rw [h2] at hk
  refine ⟨n, n1, n2, h1, h2, hz, hk, cntOf_mem g.c.nd hk, ?_⟩
  unfold Fld.ofR
  rw [if_neg (by rw [g.c.N]; omega), g.c.wf.place (by rw [g.c.M]; omega) h1]
theorem none_of (g : LInv size l f K kv) (h : mget kv k = none) : k ∉ ks l ∧ cntOf l k = 0 := by
  have hk : k ∉ ks l := fun h2 => by
    obtain ⟨z, hz⟩ := g.c.in_iff.2 h2
    rw [(g.at_iff k z).2 hz] at h; cases h
  exact ⟨hk, cntOf_not hk⟩
theorem isSome_iff (g : LInv size l f K kv) : (mget kv k).isSome = true ↔ k ∈ ks l := by
  rw [← g.c.in_iff]
  constructor
  · intro h
    obtain ⟨z, hz⟩ := Option.isSome_iff_exists.1 h
    exact ⟨z, (g.at_iff k z).1 hz⟩
  · rintro ⟨z, hz⟩
    rw [(g.at_iff k z).2 hz]; rfl
theorem set_self {z : Nat} (hz : z < K.length) : K.set z (K.getD z 0) = K := by
  rw [List.getD_eq_getElem?_getD, List.getElem?_eq_getElem hz]
  exact List.set_getElem_self hz
/-- A request for a key that is there. -/
theorem hit (g : LInv size l f K kv) (h : mget kv k = some z) (n1 : 1 ≤ n) (n2 : n ≤ 255) (hz : z ∈ f.at n) {m : Nat} (m1 : 1 ≤ m) (m2 : m ≤ 255) :
    f.inE z = 0 ∧ (f.remF z).addE m z = 0 ∧ LInv size (ins (wo l k) (k, m)) ((f.remF z).addF m z false) K kv := by
  obtain ⟨_, _, _, _, hKz, hzs, hk, _, _⟩ := g.some_of h
  obtain ⟨e0, c1, i1⟩ := g.c.takeK n1 n2 hz
  rw [hKz] at c1
  have hk32 : k < 4294967296 := hKz ▸ g.c.key_lt hzs
  have hno : k ∉ ks (wo l k) := by rw [ks_wo]; simp
  obtain ⟨e2, c2, i2⟩ := c1.putK m1 m2 hno hk32
  have hset : K.set z k = K := by rw [← hKz]; exact set_self (by rw [g.c.kl]; exact hzs)
  rw [hset] at c2 i2
  refine ⟨e0, e2, c2, g.kn, fun j y => ?_, ?_⟩
  · rw [g.at_iff, i2, i1]
    constructor
    · intro hj
      by_cases e : y = z
      · subst e
        obtain ⟨_, _, _, _, e3⟩ := hj
        exact .inl ⟨rfl, e3.symm.trans hKz⟩
      · exact .inr ⟨hj, e⟩
    · rintro (⟨rfl, rfl⟩ | ⟨hj, _⟩)
      · exact (g.at_iff _ _).1 h
      · exact hj
  · rw [ins_len c1.srt, g.len]
    exact (wo_len g.c.nd (List.mem_map.2 ⟨_, hk, rfl⟩)).symm
/-- A key goes. -/
theorem release (g : LInv size l f K kv) (h : mget kv k = some z) (n1 : 1 ≤ n) (n2 : n ≤ 255) (hz : z ∈ f.at n) :
    f.inE z = 0 ∧ (f.remF z).addE 0 z = 0 ∧ LInv size (wo l k) ((f.remF z).addF 0 z false) K (mdel kv k) := by
  obtain ⟨_, _, _, _, hKz, hzs, hk, _, _⟩ := g.some_of h
  obtain ⟨e0, c1, i1⟩ := g.c.takeK n1 n2 hz
  rw [hKz] at c1
  obtain ⟨e2, c2, i2⟩ := c1.putF
  refine ⟨e0, e2, c2, mdel_nodup g.kn, fun j y => ?_, ?_⟩
  · rw [mget_del g.kn, i2, i1]
    by_cases e : j = k
    · subst e
      rw [if_pos rfl]
      constructor
      · intro h2; cases h2
      · rintro ⟨h2, h3⟩
        exact absurd (g.c.in_inj h2 ((g.at_iff _ _).1 h)) h3
    · rw [if_neg e, g.at_iff]
      constructor
      · intro hj
        refine ⟨hj, fun e2 => e ?_⟩
        subst e2
        obtain ⟨_, _, _, _, e3⟩ := hj
        exact e3.symm.trans hKz
      · exact fun hj => hj.1
  · have h5 : (wo l k).length + 1 = l.length := wo_len g.c.nd (List.mem_map.2 ⟨_, hk, rfl⟩)
    rw [mdel_len, h, Option.isSome_some, if_pos rfl, g.len]
    omega
/-- A new key comes. -/
theorem miss (g : LInv size l f K kv) (h : mget kv k = none) (hl : l.length < size) (hk32 : k < 4294967296) : ∃ z t, f.at 0 = z :: t ∧ z < size ∧ f.first 0 = (z, 0) ∧ f.inE z = 0 ∧ (f.remF z).addE 1 z = 0 ∧ LInv size (ins l (k, 1)) ((f.remF z).addF 1 z false) (K.set z k) (mput kv k z) := by
  obtain ⟨hk, _⟩ := g.none_of h
  have htot := g.c.tot
  simp only [List.length_nil] at htot
  cases e : f.at 0 with
  | nil => rw [e] at htot; simp at htot; omega
  | cons z t =>
    have hz : z ∈ f.at 0 := by rw [e]; simp
    obtain ⟨e0, c1, i1⟩ := g.c.takeF hz
    obtain ⟨e2, c2, i2'⟩ := c1.putK (n := 1) (by omega) (by omega) hk hk32
    have i2 : ∀ y j, InK ((f.remF z).addF 1 z false) (K.set z k) y j ↔ (y = z ∧ j = k) ∨ InK (f.remF z) K y j := i2'
    refine ⟨z, t, rfl, g.c.zlt (by omega) hz, ?_, e0, e2, c2, mput_nodup g.kn, fun j y => ?_, ?_⟩
    · unfold Fld.first
      rw [show f.head 0 = true from g.c.head (n := 0) (by omega), if_pos rfl]
      show Fld.res (f.at 0).head? = _
      rw [e]; rfl
    · rw [mget_put, i2, i1]
      by_cases ej : j = k
      · subst ej
        rw [if_pos rfl]
        constructor
        · intro h2; obtain rfl := Option.some.inj h2; exact .inl ⟨rfl, rfl⟩
        · rintro (⟨rfl, _⟩ | h2)
          · rfl
          · rw [(g.at_iff _ _).2 h2] at h; cases h
      · rw [if_neg ej, g.at_iff]
        constructor
        · exact .inr
        · rintro (⟨_, e3⟩ | h2)
          · exact absurd e3 ej
          · exact h2
    · rw [mput_len, h, ins_len g.c.srt, g.len]; rfl
/-- The first key in the order in which they leave. -/
theorem front (g : LInv size l f K kv) {t : List It} (e : l = (k, n) :: t) : 1 ≤ n ∧ n ≤ 255 ∧ (∀ m, 1 ≤ m → m < n → f.at m = []) ∧ ∃ z s, f.at n = z :: s ∧ K.getD z 0 = k ∧ z < size ∧ mget kv k = some z ∧ wo l k = t := by
  obtain ⟨n1, n2⟩ := g.c.cnt (k, n) (by rw [e]; simp)
  refine ⟨n1, n2, fun m m1 m2 => ?_, ?_⟩
  · have h1 : grp l m = [] := grp_nil fun y hy => by
      have hs := g.c.srt
      rw [e] at hs hy
      unfold Srt at hs
      rw [List.pairwise_cons] at hs
      rcases List.mem_cons.1 hy with rfl | hy
      · show n ≠ m; omega
      · have := hs.1 y hy
        show y.2 ≠ m
        have : n ≤ y.2 := this
        omega
    rw [← g.c.g m m1 (by omega)] at h1
    exact List.map_eq_nil_iff.1 h1
  · have h1 : grp l n = k :: grp t n := by rw [e]; unfold grp; rw [List.filter_cons_of_pos (by simp)]; rfl
    have h2 := g.c.g n n1 n2
    rw [h1] at h2
    cases ez : f.at n with
    | nil => rw [ez] at h2; cases h2
    | cons z s =>
      rw [ez, List.map_cons] at h2
      have hK : K.getD z 0 = k := (List.cons.inj h2).1
      have hz : z ∈ f.at n := by rw [ez]; simp
      refine ⟨z, s, rfl, hK, g.c.zlt n2 hz, (g.at_iff _ _).2 ⟨n, n1, n2, hz, hK⟩, ?_⟩
      have hnd := g.c.nd
      rw [e] at hnd ⊢
      have hnd : (k :: ks t).Nodup := hnd
      rw [List.nodup_cons] at hnd
      unfold wo
      rw [List.filter_cons_of_neg (by simp)]
      exact wo_not hnd.1
end LInv
theorem wf_joinG {f : Fld} (w : Wf f) {a b : Nat} (ha : a < f.L.length) (hb : b < f.L.length) (hne : a ≠ b) : ∀ i, i ≤ (f.at a).length → Wf (joinG f a b i)
  | 0, _ => by rw [joinG_zero ha hb]; exact w
  | i + 1, h => by
    have w1 := wf_joinG w ha hb hne i (by omega)
    rw [← joinG_step w1 ha hb hne (by omega)]
    exact (w1.remF _).addF _ _ _
/-- The nodes of one list go to the back of another one. -/
theorem join {f : Fld} (w : Wf f) {a b : Nat} (ha : a < f.L.length) (hb : b < f.L.length) (hne : a ≠ b) : f.joinE a b = 0 ∧ Wf (f.joinF a b) ∧ (f.joinF a b).N = f.N ∧ (f.joinF a b).L.length = f.L.length ∧ ∀ n, (f.joinF a b).at n = if n = a then [] else if n = b then f.at b ++ f.at a else f.at n := by
  have h1 : f.joinE a b = 0 := by
    unfold Fld.joinE Fld.head
    rw [if_neg]
    rintro (h | h | h)
    · have := of_decide_eq_false h; omega
    · have := of_decide_eq_false h; omega
    · omega
  have h2 : f.joinF a b = (f.set b (f.at b ++ f.at a)).set a [] := by
    unfold Fld.joinF
    rw [if_pos h1, Int.toNat_natCast, Int.toNat_natCast]
  refine ⟨h1, ?_, by rw [h2]; rfl, by rw [h2, Fld.set_len, Fld.set_len], fun n => ?_⟩
  · rw [h2, ← joinG_end]
    exact wf_joinG w ha hb hne _ (Nat.le_refl _)
  · rw [h2, Fld.at_set (by rw [Fld.set_len]; exact ha), Fld.at_set hb]
/-- Two lists of counts go to the back of the list of half of them. -/
def halveF (f : Fld) : Nat → Fld
  | 0 => f
  | m + 1 => ((halveF f m).joinF (2 * m + 2 : Nat) (m + 1 : Nat)).joinF (2 * m + 3 : Nat) (m + 1 : Nat)
/-- The greatest count that has been moved. -/
def bnd (m : Nat) : Nat := if m = 0 then 0 else 2 * m + 1
def hal (f : Fld) (n : Nat) : List Nat := if n = 1 then f.at 1 ++ f.at 2 ++ f.at 3 else f.at (2 * n) ++ f.at (2 * n + 1)
theorem halveF_spec {f : Fld} (w : Wf f) (hM : f.L.length = 256) : ∀ m, m ≤ 127 → Wf (halveF f m) ∧ (halveF f m).N = f.N ∧ (halveF f m).L.length = 256 ∧ (halveF f m).at 0 = f.at 0 ∧ ∀ n, 1 ≤ n → n ≤ 255 → (halveF f m).at n = if n ≤ m then hal f n else if n ≤ bnd m then [] else f.at n
  | 0, _ => ⟨w, rfl, hM, rfl, fun n h1 _ => by rw [if_neg (by omega), if_neg (by unfold bnd; simp; omega)]; rfl⟩
  | m + 1, hm => by
    obtain ⟨i1, i2, i3, i4, i5⟩ := halveF_spec w hM m (by omega)
    obtain ⟨a1, a2, a3, a4, a5⟩ := join i1 (a := 2 * m + 2) (b := m + 1) (by omega) (by omega) (by omega)
    obtain ⟨b1, b2, b3, b4, b5⟩ := join a2 (a := 2 * m + 3) (b := m + 1) (by omega) (by omega) (by omega)
    refine ⟨b2, b3.trans (a3.trans i2), b4.trans (a4.trans i3), ?_, fun n n1 n2 => ?_⟩
    · show (Fld.joinF _ _ _).at 0 = _
      rw [b5, if_neg (by omega), if_neg (by omega), a5, if_neg (by omega), if_neg (by omega), i4]
    · show (Fld.joinF _ _ _).at n = _
      have g2 : (halveF f m).at (2 * m + 2) = f.at (2 * m + 2) := by
        rw [i5 _ (by omega) (by omega), if_neg (by omega), if_neg (by unfold bnd; split <;> omega)]
      have g3 : (halveF f m).at (2 * m + 3) = f.at (2 * m + 3) := by
        rw [i5 _ (by omega) (by omega), if_neg (by omega), if_neg (by unfold bnd; split <;> omega)]
      rw [b5, a5, a5, a5, g2, g3]
      by_cases c1 : n = 2 * m + 3
      · rw [if_pos c1, if_neg (by omega), if_pos (by unfold bnd; rw [if_neg (by omega)]; omega)]
      · rw [if_neg c1]
        by_cases c2 : n = m + 1
        · subst c2
          rw [if_pos rfl, if_neg (by omega), if_pos rfl, if_neg (by omega), if_neg (by omega), if_pos (Nat.le_refl _)]
          unfold hal
          rw [i5 _ (by omega) (by omega), if_neg (by omega)]
          unfold bnd
          by_cases c3 : m = 0
          · subst c3; simp
          · rw [if_neg c3, if_pos (by omega), if_neg (by omega), List.nil_append]
            rfl
        · rw [if_neg c2]
          by_cases c3 : n = 2 * m + 2
          · rw [if_pos c3, if_neg (by omega), if_pos (by unfold bnd; rw [if_neg (by omega)]; omega)]
          · rw [if_neg c3, if_neg c2, i5 n n1 n2]
            unfold bnd
            by_cases c4 : m = 0
            · subst c4
              (repeat' split) <;> first | rfl | (exfalso; omega)
            · by_cases c5 : n ≤ m
              · rw [if_pos c5, if_pos (by omega)]
              · rw [if_neg c5, if_neg c4, if_neg (by omega : ¬ n ≤ m + 1), if_neg (by omega : ¬ m + 1 = 0)]
                by_cases c6 : n ≤ 2 * m + 1
                · rw [if_pos c6, if_pos (by omega)]
                · rw [if_neg c6, if_neg (by omega)]
/-- All counts halved. -/
theorem LInv.halve {size : Nat} {l : List It} {f : Fld} {K : List Nat} {kv : List (Nat × Nat)} (g : LInv size l f K kv) : LInv size (halveL l) (halveF f 127) K kv := by
  obtain ⟨i1, i2, i3, i4, i5⟩ := halveF_spec g.c.wf g.c.M 127 (Nat.le_refl _)
  have hgrp : ∀ n, 1 ≤ n → n ≤ 255 → ((halveF f 127).at n).map (fun z => K.getD z 0) = grp (halveL l) n := fun n n1 n2 => by
    rw [i5 n n1 n2]
    by_cases c1 : n ≤ 127
    · rw [if_pos c1]
      unfold hal
      by_cases c2 : n = 1
      · subst c2
        rw [if_pos rfl, halve_grp1 g.c.srt (fun y hy => (g.c.cnt y hy).1), List.map_append, List.map_append, g.c.g 1 (by omega) (by omega), g.c.g 2 (by omega) (by omega), g.c.g 3 (by omega) (by omega)]
      · rw [if_neg c2, halve_grp g.c.srt (by omega), List.map_append, g.c.g _ (by omega) (by omega), g.c.g _ (by omega) (by omega)]
    · rw [if_neg c1, if_pos (by unfold bnd; rw [if_neg (by omega)]; omega)]
      rw [grp_nil]; rfl
      intro y hy
      unfold halveL at hy
      obtain ⟨x, hx, rfl⟩ := List.mem_map.1 hy
      have := g.c.cnt x hx
      show max 1 (x.2 / 2) ≠ n
      omega
  have hin : ∀ y j, InK (halveF f 127) K y j ↔ InK f K y j := fun y j => by
    unfold InK
    constructor
    · rintro ⟨n, n1, n2, hy, e⟩
      rw [i5 n n1 n2] at hy
      by_cases c1 : n ≤ 127
      · rw [if_pos c1] at hy
        unfold hal at hy
        by_cases c2 : n = 1
        · rw [if_pos c2, List.mem_append, List.mem_append] at hy
          rcases hy with (hy | hy) | hy
          · exact ⟨1, by omega, by omega, hy, e⟩
          · exact ⟨2, by omega, by omega, hy, e⟩
          · exact ⟨3, by omega, by omega, hy, e⟩
        · rw [if_neg c2, List.mem_append] at hy
          rcases hy with hy | hy
          · exact ⟨2 * n, by omega, by omega, hy, e⟩
          · exact ⟨2 * n + 1, by omega, by omega, hy, e⟩
      · rw [if_neg c1, if_pos (by unfold bnd; rw [if_neg (by omega)]; omega)] at hy
        cases hy
    · rintro ⟨n, n1, n2, hy, e⟩
      refine ⟨max 1 (n / 2), by omega, by omega, ?_, e⟩
      rw [i5 _ (by omega) (by omega), if_pos (by omega)]
      unfold hal
      by_cases c2 : max 1 (n / 2) = 1
      · rw [if_pos c2, List.mem_append, List.mem_append]
        obtain rfl | rfl | rfl : n = 1 ∨ n = 2 ∨ n = 3 := by omega
        · exact .inl (.inl hy)
        · exact .inl (.inr hy)
        · exact .inr hy
      · rw [if_neg c2, List.mem_append]
        obtain h | h : n = 2 * max 1 (n / 2) ∨ n = 2 * max 1 (n / 2) + 1 := by omega
        · exact .inl (by rw [← h]; exact hy)
        · exact .inr (by rw [← h]; exact hy)
  refine ⟨⟨i1, i2.trans g.c.N, i3, g.c.kl, halve_srt g.c.srt, ?_, by rw [halve_ks]; exact g.c.nd, hgrp, by rw [i4, halve_len]; exact g.c.tot, fun z hz => (by cases hz), g.c.lt⟩, g.kn, fun j y => by rw [g.at_iff, hin], by rw [halve_len]; exact g.len⟩
  intro y hy
  unfold halveL at hy
  obtain ⟨x, hx, rfl⟩ := List.mem_map.1 hy
  have := g.c.cnt x hx
  show 1 ≤ max 1 (x.2 / 2) ∧ max 1 (x.2 / 2) ≤ 255
  omega
end Go.Lf
