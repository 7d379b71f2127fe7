/- Counted keys, plainly: keys in the order in which they would leave; and how the lists of a field hold them. No program, no condition. -/
import Derived.Test.YtmiblmoppdgnjaaDoorGhTheory
namespace Go.Lf
open Go.Lk Go.Sl
/-- A key with its count. -/
abbrev It := Nat × Nat
abbrev ks (l : List It) : List Nat := l.map (·.1)
/-- In the order of the counts. -/
def Srt (l : List It) : Prop := l.Pairwise fun a b => a.2 ≤ b.2
/-- The keys of a count. -/
def grp (l : List It) (n : Nat) : List Nat := (l.filter fun x => x.2 == n).map (·.1)
def lo (l : List It) (n : Nat) : List It := l.filter fun x => decide (x.2 ≤ n)
def hi (l : List It) (n : Nat) : List It := l.filter fun x => decide (n < x.2)
/-- With one more, as the newest one of its count. -/
def ins (l : List It) (x : It) : List It := lo l x.2 ++ x :: hi l x.2
/-- Without a key. -/
def wo (l : List It) (k : Nat) : List It := l.filter fun x => x.1 != k
/-- The count of a key. -/
def cntOf (l : List It) (k : Nat) : Nat := ((l.find? fun x => x.1 == k).map (·.2)).getD 0
/-- All counts halved. -/
def halveL (l : List It) : List It := l.map fun x => (x.1, max 1 (x.2 / 2))
variable {l : List It} {x : It} {k n m : Nat}
theorem srt_split : ∀ {l : List It}, Srt l → ∀ n, lo l n ++ hi l n = l
  | [], _, _ => rfl
  | a :: l, h, n => by
    unfold Srt at h
    rw [List.pairwise_cons] at h
    have ih := srt_split h.2 n
    unfold lo hi at *
    by_cases e : a.2 ≤ n
    · rw [List.filter_cons_of_pos (by simpa using e), List.filter_cons_of_neg (by simpa using e), List.cons_append, ih]
    · rw [List.filter_cons_of_neg (by simpa using e), List.filter_cons_of_pos (by simp; omega)]
      have h1 : l.filter (fun x => decide (x.2 ≤ n)) = [] := List.filter_eq_nil_iff.2 fun y hy => by have := h.1 y hy; simp; omega
      rw [h1] at ih ⊢
      rw [List.nil_append] at ih ⊢
      rw [ih]
theorem ins_perm (h : Srt l) : (ins l x).Perm (x :: l) := by
  unfold ins
  refine List.perm_middle.trans ?_
  rw [srt_split h]
theorem mem_ins (h : Srt l) {y : It} : y ∈ ins l x ↔ y = x ∨ y ∈ l := by rw [(ins_perm h).mem_iff, List.mem_cons]
theorem ins_len (h : Srt l) : (ins l x).length = l.length + 1 := by rw [(ins_perm h).length_eq]; rfl
theorem srt_sub {l' : List It} (h : Srt l) (hs : l'.Sublist l) : Srt l' := h.sublist hs
theorem srt_ins (h : Srt l) : Srt (ins l x) := by
  unfold ins Srt
  rw [List.pairwise_append, List.pairwise_cons]
  refine ⟨srt_sub h List.filter_sublist, ⟨fun y hy => ?_, srt_sub h List.filter_sublist⟩, fun a ha b hb => ?_⟩
  · have := (List.mem_filter.1 hy).2; simp at this; omega
  · have h1 := (List.mem_filter.1 ha).2
    simp at h1
    rcases List.mem_cons.1 hb with rfl | hb
    · exact h1
    · have := (List.mem_filter.1 hb).2; simp at this; omega
theorem grp_app {a b : List It} : grp (a ++ b) n = grp a n ++ grp b n := by unfold grp; rw [List.filter_append, List.map_append]
theorem grp_nil (h : ∀ y ∈ l, y.2 ≠ n) : grp l n = [] := by
  unfold grp
  rw [List.filter_eq_nil_iff.2 fun y hy => by have := h y hy; simpa using this]; rfl
theorem grp_ins (h : Srt l) : grp (ins l x) n = grp l n ++ if n = x.2 then [x.1] else [] := by
  have h1 : grp l n = grp (lo l x.2) n ++ grp (hi l x.2) n := by rw [← grp_app, srt_split h]
  have h2 : grp (ins l x) n = grp (lo l x.2) n ++ (grp [x] n ++ grp (hi l x.2) n) := by
    rw [← grp_app, ← grp_app]; rfl
  rw [h1, h2]
  by_cases e : n = x.2
  · have h3 : grp (hi l x.2) n = [] := grp_nil fun y hy => by have := (List.mem_filter.1 hy).2; simp at this; omega
    have h4 : grp [x] n = [x.1] := by unfold grp; rw [List.filter_cons_of_pos (by simp [e])]; rfl
    rw [if_pos e, h3, h4]; simp
  · have h4 : grp [x] n = [] := grp_nil fun y hy => by simp at hy; subst hy; exact fun e2 => e e2.symm
    rw [if_neg e, h4]; simp
theorem mem_grp : k ∈ grp l n ↔ (k, n) ∈ l := by
  unfold grp
  rw [List.mem_map]
  constructor
  · rintro ⟨y, hy, rfl⟩
    obtain ⟨h1, h2⟩ := List.mem_filter.1 hy
    have : y.2 = n := by simpa using h2
    rw [← this]; exact h1
  · intro h; exact ⟨(k, n), List.mem_filter.2 ⟨h, by simp⟩, rfl⟩
theorem grp_sub : (grp l n).Sublist (ks l) := List.Sublist.map _ List.filter_sublist
theorem grp_wo : grp (wo l k) n = (grp l n).filter fun x => x != k := by
  unfold grp wo
  rw [List.filter_filter, List.filter_map, List.filter_filter]
  congr 1
  refine List.filter_congr fun y _ => ?_
  simp [Bool.and_comm]
theorem ks_wo : ks (wo l k) = (ks l).filter fun x => x != k := by
  unfold wo ks
  rw [List.filter_map]; rfl
theorem mem_wo {y : It} : y ∈ wo l k ↔ y ∈ l ∧ y.1 ≠ k := by unfold wo; rw [List.mem_filter]; simp
theorem wo_len (h : (ks l).Nodup) (hk : k ∈ ks l) : (wo l k).length + 1 = l.length := by
  have h1 : (ks (wo l k)).length = (wo l k).length := List.length_map _
  rw [← h1, ks_wo, filter_ne_erase h, List.length_erase_of_mem hk]
  have := List.length_pos_of_mem hk
  rw [List.length_map] at *
  omega
theorem wo_not (hk : k ∉ ks l) : wo l k = l := List.filter_eq_self.2 fun y hy => by
  have : y.1 ≠ k := fun e => hk (e ▸ List.mem_map.2 ⟨y, hy, rfl⟩)
  simpa using this
theorem uniq (h : (ks l).Nodup) {a b : Nat} (ha : (k, a) ∈ l) (hb : (k, b) ∈ l) : a = b := by
  induction l with
  | nil => cases ha
  | cons y l ih =>
    have h : (y.1 :: ks l).Nodup := h
    rw [List.nodup_cons] at h
    rcases List.mem_cons.1 ha with e1 | h1 <;> rcases List.mem_cons.1 hb with e2 | h2
    · have := e1.trans e2.symm; exact (Prod.mk.inj this).2
    · exact absurd (List.mem_map.2 ⟨_, h2, by rw [← e1]⟩) h.1
    · exact absurd (List.mem_map.2 ⟨_, h1, by rw [← e2]⟩) h.1
    · exact ih h.2 h1 h2
theorem cntOf_mem (h : (ks l).Nodup) (hk : (k, n) ∈ l) : cntOf l k = n := by
  unfold cntOf
  cases e : l.find? fun x => x.1 == k with
  | none =>
    have := List.find?_eq_none.1 e _ hk
    simp at this
  | some y =>
    have h1 := List.mem_of_find?_eq_some e
    have h2 := List.find?_some e
    have h3 : y.1 = k := by simpa using h2
    have : (k, y.2) ∈ l := by rw [← h3]; exact h1
    exact uniq h this hk
theorem cntOf_not (hk : k ∉ ks l) : cntOf l k = 0 := by
  unfold cntOf
  rw [List.find?_eq_none.2 fun y hy => by
    have : y.1 ≠ k := fun e => hk (e ▸ List.mem_map.2 ⟨y, hy, rfl⟩)
    simpa using this]; rfl
theorem fil2 (h : Srt l) (a : Nat) : l.filter (fun x => x.2 == a || x.2 == a + 1) = l.filter (fun x => x.2 == a) ++ l.filter (fun x => x.2 == a + 1) := by
  have h1 := srt_split (srt_sub h (List.filter_sublist (p := fun x => x.2 == a || x.2 == a + 1))) a
  rw [← h1]
  unfold lo hi
  rw [List.filter_filter, List.filter_filter]
  congr 1
  · refine List.filter_congr fun y _ => ?_
    rw [Bool.eq_iff_iff]
    simp only [beq_iff_eq, Bool.or_eq_true, Bool.and_eq_true, decide_eq_true_eq]
    omega
  · refine List.filter_congr fun y _ => ?_
    rw [Bool.eq_iff_iff]
    simp only [beq_iff_eq, Bool.or_eq_true, Bool.and_eq_true, decide_eq_true_eq]
    omega
theorem halve_grp (h : Srt l) (hm : 2 ≤ m) : grp (halveL l) m = grp l (2 * m) ++ grp l (2 * m + 1) := by
  have e : grp (halveL l) m = (l.filter (fun x => x.2 == 2 * m || x.2 == 2 * m + 1)).map (·.1) := by
    unfold grp halveL
    rw [List.filter_map, List.map_map]
    congr 1
    refine List.filter_congr fun y _ => ?_
    rw [Bool.eq_iff_iff]
    simp only [Function.comp, beq_iff_eq, Bool.or_eq_true]
    omega
  rw [e, fil2 h, List.map_append]; rfl
theorem halve_grp1 (h : Srt l) (hc : ∀ y ∈ l, 1 ≤ y.2) : grp (halveL l) 1 = grp l 1 ++ grp l 2 ++ grp l 3 := by
  have e : grp (halveL l) 1 = (l.filter (fun x => x.2 == 1 || (x.2 == 2 || x.2 == 3))).map (·.1) := by
    unfold grp halveL
    rw [List.filter_map, List.map_map]
    congr 1
    refine List.filter_congr fun y hy => ?_
    have := hc y hy
    rw [Bool.eq_iff_iff]
    simp only [Function.comp, beq_iff_eq, Bool.or_eq_true]
    omega
  have h1 := srt_split (srt_sub h (List.filter_sublist (p := fun x => x.2 == 1 || (x.2 == 2 || x.2 == 3)))) 1
  have h2 : l.filter (fun x => x.2 == 2 || x.2 == 3) = l.filter (fun x => x.2 == 2) ++ l.filter (fun x => x.2 == 3) := fil2 h 2
  rw [e, ← h1, List.append_assoc]
  unfold grp
  rw [← List.map_append, ← h2, ← List.map_append]
  unfold lo hi
  rw [List.filter_filter, List.filter_filter]
  congr 2
  · refine List.filter_congr fun y hy => ?_
    have := hc y hy
    rw [Bool.eq_iff_iff]
    simp only [beq_iff_eq, Bool.or_eq_true, Bool.and_eq_true, decide_eq_true_eq]
    omega
  · refine List.filter_congr fun y hy => ?_
    have := hc y hy
    rw [Bool.eq_iff_iff]
    simp only [beq_iff_eq, Bool.or_eq_true, Bool.and_eq_true, decide_eq_true_eq]
    omega
theorem halve_ks : ks (halveL l) = ks l := by unfold ks halveL; rw [List.map_map]; rfl
theorem halve_len : (halveL l).length = l.length := List.length_map _
theorem halve_srt (h : Srt l) : Srt (halveL l) := by
  unfold halveL Srt
  rw [List.pairwise_map]
  refine List.Pairwise.imp (fun {a b} hab => ?_) h
  show max 1 (a.2 / 2) ≤ max 1 (b.2 / 2)
  have : a.2 / 2 ≤ b.2 / 2 := Nat.div_le_div_right hab
  omega
/-- The keys of counts up to one more. -/
theorem lo_succ (h : Srt l) : ks (lo l (n + 1)) = ks (lo l n) ++ grp l (n + 1) := by
  have h1 := srt_split (srt_sub h (List.filter_sublist (p := fun x => decide (x.2 ≤ n + 1)))) n
  show ks (l.filter fun x => decide (x.2 ≤ n + 1)) = _
  rw [← h1]
  unfold lo hi grp ks
  rw [List.map_append, List.filter_filter, List.filter_filter]
  congr 2
  · refine List.filter_congr fun y _ => ?_
    rw [Bool.eq_iff_iff]
    simp only [Bool.and_eq_true, decide_eq_true_eq]
    omega
  · refine List.filter_congr fun y _ => ?_
    rw [Bool.eq_iff_iff]
    simp only [Bool.and_eq_true, decide_eq_true_eq, beq_iff_eq]
    omega
theorem lo_zero (hc : ∀ y ∈ l, 1 ≤ y.2) : lo l 0 = [] := List.filter_eq_nil_iff.2 fun y hy => by have := hc y hy; simp; omega
theorem lo_all (hc : ∀ y ∈ l, y.2 ≤ n) : lo l n = l := List.filter_eq_self.2 fun y hy => by have := hc y hy; simpa using this
end Go.Lf
