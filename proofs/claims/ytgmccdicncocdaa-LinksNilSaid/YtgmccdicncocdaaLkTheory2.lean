/- Fields of linked lists: what putting and removing do to the lists. -/
import Derived.Test.YtgmccdicncocdaaLkTheory
namespace Go.Lk
open Go.Sl

/-- A field with another list. -/
def Fld.set (f : Fld) (h : Nat) (l : List Nat) : Fld := { f with L := f.L.set h l }
theorem Fld.at_set {f : Fld} {h : Nat} {l : List Nat} (hh : h < f.L.length) (k : Nat) : (f.set h l).at k = if k = h then l else f.at k := by
  unfold Fld.at Fld.set
  simp only [List.getD_eq_getElem?_getD]
  by_cases e : k = h
  · subst e; simp [List.getElem?_set_self hh]
  · rw [if_neg e, List.getElem?_set_ne (fun x => e x.symm)]
theorem Fld.set_set {f : Fld} {h : Nat} {l l' : List Nat} : (f.set h l).set h l' = f.set h l' := by simp [Fld.set]
theorem Fld.set_at {f : Fld} {h : Nat} (hh : h < f.L.length) : f.set h (f.at h) = f := by
  unfold Fld.set Fld.at
  cases f with | mk N L => ?_
  simp only [List.getD_eq_getElem?_getD, Fld.mk.injEq, true_and]
  rw [List.getElem?_eq_getElem hh]
  simp

section
variable {s : LS} {f : Fld}
theorem Repr.put (r : Repr s f) {h n o : Nat} {l' : List Nat} (hh : h < s.M) (hn : n < s.N) (h0 : s.of n = 0) (ho : s.of o = h + 1) (hob : o < s.N + s.M) (hm : ∀ x, x ∈ l' ↔ x = n ∨ x ∈ f.at h) (hd : l'.Nodup) (hl : l'.length = (f.at h).length + 1)
    (hs : Lk.seg (putS s n o).nx (putS s n o).pv (s.N + h) l' (s.N + h)) : Repr (putS s n o) (f.set h l') where
  N := r.N
  M := by show s.M = _; rw [r.M]; simp [Fld.set]
  n1 := r.n1
  n2 := r.n2
  m1 := r.m1
  m2 := r.m2
  pvb i hi := by
    show upd (upd s.pv n (s.pv o)) o n i < _
    unfold upd
    have := r.pvb o hob
    have := r.pvb i hi
    split
    · show n < s.N + s.M; omega
    · split <;> assumption
  nxb i hi := by
    show upd (upd s.nx n o) (s.pv o) n i < _
    unfold upd
    have := r.nxb i hi
    split
    · show n < s.N + s.M; omega
    · split <;> assumption
  ring k hk := by
    show upd s.of n (s.of o) (s.N + k) = _
    rw [upd_ne (by omega)]; exact r.ring k hk
  ofb i hi := by
    show upd s.of n (s.of o) i ≤ s.M
    unfold upd; split
    · omega
    · exact r.ofb i hi
  mem k hk i := by
    show _ ↔ i < s.N ∧ upd s.of n (s.of o) i = k + 1
    have hk : k < s.M := hk
    have hM := r.M
    rw [Fld.at_set (by omega)]
    by_cases e : k = h
    · subst e
      rw [if_pos rfl, hm i, r.mem k hk i]
      by_cases e2 : i = n
      · subst e2; simp [upd, ho, hn]
      · simp [upd, e2]
    · rw [if_neg e, r.mem k hk i]
      by_cases e2 : i = n
      · subst e2; simp only [upd, if_true, ho, h0]; omega
      · simp [upd, e2]
  nodup k hk := by
    have hk : k < s.M := hk
    have hM := r.M
    rw [Fld.at_set (by omega)]
    split
    · exact hd
    · exact r.nodup k hk
  seg k hk := by
    have hk : k < s.M := hk
    have hM := r.M
    rw [Fld.at_set (by omega)]
    by_cases e : k = h
    · subst e; rw [if_pos rfl]; exact hs
    · rw [if_neg e]
      have hp : s.pv o ∈ (s.N + h) :: f.at h := by
        obtain ⟨h', hh', e', hm'⟩ := r.home hob (by omega)
        have : h' = h := by omega
        subst this
        exact seg_begins (r.seg h' hh') o (by rcases List.mem_cons.1 hm' with rfl | hm' <;> simp [*])
      have hpo := r.of_seg hh hp
      have key : ∀ i ∈ (s.N + k) :: f.at k, i ≠ n ∧ i ≠ o ∧ i ≠ s.pv o := fun i hi => by
        have := r.of_seg hk hi
        refine ⟨fun x => ?_, fun x => ?_, fun x => ?_⟩ <;> (rw [x] at this; omega)
      refine seg_congr (fun i hi => ?_) (fun i hi => ?_) ?_ (r.seg k hk)
      · have := key i hi; show upd (upd s.nx n o) (s.pv o) n i = _; rw [upd_ne this.2.2, upd_ne this.1]
      · have := key i (List.mem_cons_of_mem _ hi); show upd (upd s.pv n (s.pv o)) o n i = _; rw [upd_ne this.2.1, upd_ne this.1]
      · have := key (s.N + k) (by simp); show upd (upd s.pv n (s.pv o)) o n _ = _; rw [upd_ne this.2.1, upd_ne this.1]
  ln k := by
    have hM := r.M
    show upd s.ln (s.of o - 1) (s.ln (s.of o - 1) + 1) k = _
    rw [Fld.at_set (by omega)]
    by_cases e : k = h
    · subst e; rw [if_pos rfl, hl, show s.of o - 1 = k by omega, upd_same, r.ln]
    · rw [if_neg e, upd_ne (by omega), r.ln]

theorem Repr.fresh (r : Repr s f) {h n : Nat} (hh : h < s.M) (_hn : n < s.N) (h0 : s.of n = 0) : n ∉ (s.N + h) :: f.at h := fun hm => by
  have := r.of_seg hh hm; omega
theorem Repr.segNodup (r : Repr s f) {h : Nat} (hh : h < s.M) : ((s.N + h) :: f.at h).Nodup := List.nodup_cons.2 ⟨fun hm => by have := r.lt hh hm; omega, r.nodup h hh⟩
/-- At the back. -/
theorem Repr.putBack (r : Repr s f) {h n : Nat} (hh : h < s.M) (hn : n < s.N) (h0 : s.of n = 0) : Repr (putS s n (s.N + h)) (f.set h (f.at h ++ [n])) := by
  have hf := r.fresh hh hn h0
  refine r.put hh hn h0 (r.ring h hh) (by omega) (fun x => by simp [or_comm]) ?_ (by simp) ?_
  · rw [List.nodup_append]
    refine ⟨r.nodup h hh, by simp, fun a ha b hb => ?_⟩
    simp at hb; subst hb
    exact fun e => hf (e ▸ List.mem_cons_of_mem _ ha)
  · exact seg_snoc (r.seg h hh) (seg_last (r.seg h hh)).1 hf (by omega) (fun hm => by have := r.lt hh hm; omega) (r.segNodup hh)
/-- Before another one. -/
theorem Repr.putBefore (r : Repr s f) {h n o : Nat} {l1 l2 : List Nat} (hh : h < s.M) (hn : n < s.N) (h0 : s.of n = 0) (hl : f.at h = l1 ++ o :: l2) : Repr (putS s n o) (f.set h (l1 ++ n :: o :: l2)) := by
  have hf := r.fresh hh hn h0
  have hom : o ∈ f.at h := by rw [hl]; simp
  have hno : n ≠ o := fun e => hf (by rw [e]; exact List.mem_cons_of_mem _ hom)
  have hd := r.nodup h hh
  have hsd := r.segNodup hh
  have hs := r.seg h hh
  have hf1 : n ∉ l1 := fun e => hf (by rw [hl]; simp [e])
  have hf2 : n ∉ l2 := fun e => hf (by rw [hl]; simp [e])
  rw [hl] at hd hsd hs hf
  have hd' := hd
  rw [List.nodup_append] at hd
  obtain ⟨hd1, hd2, hd3⟩ := hd
  obtain ⟨hs1, hs2⟩ := seg_append.1 hs
  have ho1 : o ∉ l1 := fun e => hd3 o e o (by simp) rfl
  have ho2 : o ∉ l2 := (List.nodup_cons.1 hd2).1
  have hx := seg_last hs1
  have hoN := r.lt hh hom
  have hob : o ∉ (s.N + h) :: l1 := fun e => by
    rcases List.mem_cons.1 e with e | e
    · omega
    · exact ho1 e
  refine r.put hh hn h0 (r.of_mem hh hom) (by omega) (fun x => ?_) ?_ (by rw [hl]; simp; omega) ?_
  · rw [hl]; simp only [List.mem_append, List.mem_cons]
    constructor
    · rintro (h | h | h | h) <;> simp [h]
    · rintro (h | h | h | h) <;> simp [h]
  · rw [List.nodup_append]
    refine ⟨hd1, List.nodup_cons.2 ⟨by simp [hno, hf2], hd2⟩, fun a ha b hb => ?_⟩
    rcases List.mem_cons.1 hb with rfl | hb
    · exact fun e => hf1 (e ▸ ha)
    · exact hd3 a ha b hb
  · rw [show l1 ++ n :: o :: l2 = (l1 ++ [n]) ++ o :: l2 by simp, seg_append]
    have hsd1 : ((s.N + h) :: l1).Nodup := by
      have := hsd; rw [show (s.N + h) :: (l1 ++ o :: l2) = ((s.N + h) :: l1) ++ o :: l2 by simp, List.nodup_append] at this; exact this.1
    refine ⟨seg_snoc hs1 hx.1 (fun e => hf (by rcases List.mem_cons.1 e with e | e <;> simp [e])) hno ho1 hsd1, ?_⟩
    have hpm : s.pv o ∈ (s.N + h) :: l1 := hx.1 ▸ lastOf_mem
    have hpo : ∀ i ∈ o :: l2, i ≠ s.pv o := fun i hi e => by
      rcases List.mem_cons.1 hpm with e2 | e2
      · have : i < s.N := r.lt hh (by rw [hl]; simp only [List.mem_append]; exact .inr hi)
        omega
      · exact hd3 _ e2 i hi e.symm
    refine seg_congr (fun i hi => ?_) (fun i hi => ?_) ?_ hs2
    · have h1 := hpo i hi
      have h2 : i ≠ n := fun e => by subst e; rcases List.mem_cons.1 hi with e | e; exact hno e; exact hf2 e
      show upd (upd s.nx n o) (s.pv o) n i = _
      rw [upd_ne h1, upd_ne h2]
    · have h1 : i ≠ o := fun e => ho2 (e ▸ hi)
      have h2 : i ≠ n := fun e => hf2 (e ▸ hi)
      show upd (upd s.pv n (s.pv o)) o n i = _
      rw [upd_ne h1, upd_ne h2]
    · show upd (upd s.pv n (s.pv o)) o n _ = _
      rw [upd_ne (by omega), upd_ne (by omega)]
/-- At the front. -/
theorem Repr.putFront (r : Repr s f) {h n : Nat} (hh : h < s.M) (hn : n < s.N) (h0 : s.of n = 0) : Repr (putS s n (s.nx (s.N + h))) (f.set h (n :: f.at h)) := by
  have hs := r.seg h hh
  cases hl : f.at h with
  | nil =>
    rw [hl] at hs
    rw [show s.nx (s.N + h) = s.N + h from hs.1]
    have := r.putBack hh hn h0
    rw [hl] at this; exact this
  | cons o l =>
    rw [hl] at hs
    rw [show s.nx (s.N + h) = o from hs.1.1]
    exact r.putBefore (l1 := []) hh hn h0 hl
/-- Without a node. -/
theorem Repr.remove (r : Repr s f) {h n : Nat} {l1 l2 : List Nat} (hh : h < s.M) (hl : f.at h = l1 ++ n :: l2) : Repr (remS s n) (f.set h (l1 ++ l2)) := by
  have hM := r.M
  have hnm : n ∈ f.at h := by rw [hl]; simp
  have hn := r.lt hh hnm
  have ho := r.of_mem hh hnm
  have hd := r.nodup h hh
  have hsd := r.segNodup hh
  have hs := r.seg h hh
  rw [hl] at hd hsd hs
  rw [List.nodup_append] at hd
  obtain ⟨hd1, hd2, hd3⟩ := hd
  obtain ⟨hs1, hs2⟩ := seg_append.1 hs
  have hn1 : n ∉ l1 := fun e => hd3 n e n (by simp) rfl
  have hn2 : n ∉ l2 := (List.nodup_cons.1 hd2).1
  have hlt1 : ∀ i ∈ l1, i < s.N := fun i hi => r.lt hh (by rw [hl]; simp [hi])
  have hlt2 : ∀ i ∈ l2, i < s.N := fun i hi => r.lt hh (by rw [hl]; simp [hi])
  have hcut := seg_cut hs2 hn2 (b := s.N + h) (by omega) (fun e => by have := hlt2 _ e; omega) (List.nodup_cons.1 hd2).2 hs1 (fun e => by rcases List.mem_cons.1 e with e | e; omega; exact hn1 e)
    (List.nodup_cons.2 ⟨fun e => by have := hlt1 _ e; omega, hd1⟩) (fun e => by have := hlt1 _ e; omega) (fun i hi e => by
      rcases List.mem_cons.1 hi with rfl | hi
      · have := hlt2 _ e; omega
      · exact hd3 i hi i (List.mem_cons_of_mem _ e) rfl)
  have hpv : s.of (s.pv n) = h + 1 := r.of_seg hh (by
    have := (seg_last hs1).1 ▸ lastOf_mem (l := l1) (a := s.N + h)
    rw [hl]; rcases List.mem_cons.1 this with e | e
    · rw [e]; simp
    · simp [e])
  have hnx : s.of (s.nx n) = h + 1 := r.of_seg hh (by
    have := seg_ends hs2 n (by simp)
    simp only [List.mem_append, List.mem_cons, List.not_mem_nil, or_false] at this; rw [hl]; simp only [List.mem_append, List.mem_cons]
    rcases this with e | e
    · exact .inr (.inr (.inr e))
    · exact .inl e)
  have hbp := r.pvb n (by omega)
  have hbn := r.nxb n (by omega)
  exact {
    N := r.N
    M := by show s.M = _; simp [Fld.set, hM]
    n1 := r.n1
    n2 := r.n2
    m1 := r.m1
    m2 := r.m2
    pvb := fun i hi => by
      show upd (upd s.pv (s.nx n) (s.pv n)) n 0 i < s.N + s.M
      have := r.pvb i hi
      have := r.n1
      unfold upd; split
      · omega
      · split <;> assumption
    nxb := fun i hi => by
      show upd (upd s.nx (s.pv n) (s.nx n)) n 0 i < s.N + s.M
      have := r.nxb i hi
      have := r.n1
      unfold upd; split
      · omega
      · split <;> assumption
    ring := fun k hk => by
      show upd s.of n 0 (s.N + k) = _
      rw [upd_ne (by omega)]; exact r.ring k hk
    ofb := fun i hi => by
      show upd s.of n 0 i ≤ s.M
      unfold upd; split
      · omega
      · exact r.ofb i hi
    mem := fun k hk i => by
      have hk : k < s.M := hk
      show _ ↔ i < s.N ∧ upd s.of n 0 i = k + 1
      rw [Fld.at_set (by omega)]
      by_cases e : k = h
      · subst e
        rw [if_pos rfl]
        have := r.mem k hk i
        rw [hl] at this
        by_cases e2 : i = n
        · subst e2; simp [upd, hn1, hn2]
        · rw [upd_ne e2, ← this]; simp [e2]
      · rw [if_neg e, r.mem k hk i]
        by_cases e2 : i = n
        · subst e2; simp only [upd, if_true]; omega
        · rw [upd_ne e2]
    nodup := fun k hk => by
      have hk : k < s.M := hk
      rw [Fld.at_set (by omega)]
      split
      · rw [List.nodup_append]
        exact ⟨hd1, (List.nodup_cons.1 hd2).2, fun a ha b hb => hd3 a ha b (List.mem_cons_of_mem _ hb)⟩
      · exact r.nodup k hk
    seg := fun k hk => by
      have hk : k < s.M := hk
      rw [Fld.at_set (by omega)]
      by_cases e : k = h
      · subst e; rw [if_pos rfl]; exact hcut
      · rw [if_neg e]
        have key : ∀ i ∈ (s.N + k) :: f.at k, i ≠ n ∧ i ≠ s.nx n ∧ i ≠ s.pv n := fun i hi => by
          have := r.of_seg hk hi
          refine ⟨fun x => ?_, fun x => ?_, fun x => ?_⟩ <;> (rw [x] at this; omega)
        refine seg_congr (fun i hi => ?_) (fun i hi => ?_) ?_ (r.seg k hk)
        · have := key i hi; show upd (upd s.nx (s.pv n) (s.nx n)) n 0 i = _; rw [upd_ne this.1, upd_ne this.2.2]
        · have := key i (List.mem_cons_of_mem _ hi); show upd (upd s.pv (s.nx n) (s.pv n)) n 0 i = _; rw [upd_ne this.1, upd_ne this.2.1]
        · have := key (s.N + k) (by simp); show upd (upd s.pv (s.nx n) (s.pv n)) n 0 _ = _; rw [upd_ne this.1, upd_ne this.2.1]
    ln := fun k => by
      show upd s.ln (s.of n - 1) (s.ln (s.of n - 1) - 1) k = _
      rw [Fld.at_set (by omega)]
      by_cases e : k = h
      · subst e; rw [if_pos rfl, show s.of n - 1 = k by omega, upd_same, r.ln, hl]; simp
      · rw [if_neg e, upd_ne (by omega), r.ln] }
/-- A new field. -/
theorem repr_new {N M : Nat} (g1 : 1 ≤ N) (g2 : N ≤ 4194304) (g3 : 1 ≤ M) (g4 : M ≤ 4096) : Repr (newS N M M) ⟨N, List.replicate M []⟩ where
  N := rfl
  M := by simp [newS]
  n1 := g1
  n2 := g2
  m1 := g3
  m2 := g4
  pvb i hi := by simp only [newS] at *; split <;> omega
  nxb i hi := by simp only [newS] at *; split <;> omega
  ring h hh := by simp only [newS] at *; rw [if_pos (by omega)]; omega
  ofb n hn := by simp only [newS] at *; rw [if_neg (by omega)]; omega
  mem h hh n := by
    simp only [newS, Fld.at] at *
    rw [List.getD_eq_getElem?_getD, List.getElem?_replicate, if_pos hh]
    simp only [Option.getD_some, List.not_mem_nil, false_iff]
    intro ⟨h1, h2⟩
    rw [if_neg (by omega)] at h2; omega
  nodup h hh := by
    simp only [newS, Fld.at] at *
    rw [List.getD_eq_getElem?_getD, List.getElem?_replicate, if_pos hh]; simp
  seg h hh := by
    simp only [newS, Fld.at] at *
    rw [List.getD_eq_getElem?_getD, List.getElem?_replicate, if_pos hh]
    simp only [Option.getD_some, Lk.seg]
    rw [if_pos (by omega)]; exact ⟨rfl, rfl⟩
  ln h := by
    simp only [newS, Fld.at]
    rw [List.getD_eq_getElem?_getD, List.getElem?_replicate]; split <;> simp
/-- From the list's own node on, the list. -/
theorem follows_seg {nx pv : Nat → Nat} {own : Nat} : ∀ {l : List Nat} {a : Nat}, seg nx pv a l own → own ∉ l → follows nx own (nx a) l
  | [], a, h, _ => h.1
  | c :: l, a, h, hn => ⟨h.1.1, fun e => hn (by simp [e]), follows_seg h.2 (fun hm => hn (List.mem_cons_of_mem _ hm))⟩
end
end Go.Lk
