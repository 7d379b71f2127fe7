/- Counted keys, plainly: requests; what the laws of the chapter ask for. -/
import Derived.Test.YtmiblmoppdgnjaaLfTheory3
namespace Go.Lf
open Go.Lk Go.Sl
/-- A list of counted keys as a cache holds it. -/
structure Ok (size : Nat) (l : List It) : Prop where
  srt : Srt l
  cnt : ∀ y ∈ l, 1 ≤ y.2 ∧ y.2 ≤ 255
  nd : (ks l).Nodup
  len : l.length ≤ size
theorem LInv.ok {size : Nat} {l : List It} {f : Fld} {K : List Nat} {kv : List (Nat × Nat)} (g : LInv size l f K kv) : Ok size l :=
  ⟨g.c.srt, g.c.cnt, g.c.nd, by have := g.c.tot; simp only [List.length_nil] at this; omega⟩
variable {size age req k n m : Nat} {l : List It}
/-- The keys after a request. -/
def useL (size : Nat) (l : List It) (k : Nat) : List It := if k ∈ ks l then ins (wo l k) (k, min 255 (cntOf l k + 1)) else ins (if l.length = size then l.tail else l) (k, 1)
/-- Whether the key is there, whether one leaves, and which. -/
def useH (l : List It) (k : Nat) : Bool := decide (k ∈ ks l)
def useB (size : Nat) (l : List It) (k : Nat) : Bool := decide (k ∉ ks l ∧ l.length = size)
def useO (size : Nat) (l : List It) (k : Nat) : Nat := if k ∉ ks l ∧ l.length = size then (ks l).headD 0 else 0
/-- The requests since the counts were halved, and the keys, after a request. -/
def useS (size age : Nat) (s : Nat × List It) (k : Nat) : Nat × List It := if s.1 + 1 = age then (0, halveL (useL size s.2 k)) else (s.1 + 1, useL size s.2 k)
namespace Ok
theorem sub {l' : List It} (o : Ok size l) (hs : l'.Sublist l) : Ok size l' := ⟨srt_sub o.srt hs, fun y hy => o.cnt y (hs.subset hy), o.nd.sublist (hs.map _), Nat.le_trans hs.length_le o.len⟩
theorem wo (o : Ok size l) : Ok size (wo l k) := o.sub List.filter_sublist
theorem ins' (o : Ok size l) (hk : k ∉ ks l) (m1 : 1 ≤ m) (m2 : m ≤ 255) (hl : l.length < size) : Ok size (ins l (k, m)) := by
  refine ⟨srt_ins o.srt, fun y hy => ?_, ?_, by rw [ins_len o.srt]; omega⟩
  · rcases (mem_ins o.srt).1 hy with rfl | hy
    · exact ⟨m1, m2⟩
    · exact o.cnt y hy
  · have hp := (ins_perm o.srt (x := (k, m))).map (·.1)
    rw [hp.nodup_iff]
    exact List.nodup_cons.2 ⟨hk, o.nd⟩
theorem not_wo : k ∉ ks (Lf.wo l k) := by rw [ks_wo]; simp
theorem halve (o : Ok size l) : Ok size (halveL l) := by
  refine ⟨halve_srt o.srt, fun y hy => ?_, by rw [halve_ks]; exact o.nd, by rw [halve_len]; exact o.len⟩
  unfold halveL at hy
  obtain ⟨x, hx, rfl⟩ := List.mem_map.1 hy
  have := o.cnt x hx
  show 1 ≤ max 1 (x.2 / 2) ∧ max 1 (x.2 / 2) ≤ 255
  omega
theorem useL (o : Ok size l) (h1 : 1 ≤ size) : Ok size (useL size l k) := by
  unfold Lf.useL
  by_cases hk : k ∈ ks l
  · rw [if_pos hk]
    have := wo_len o.nd hk
    have := o.len
    exact o.wo.ins' not_wo (by omega) (by omega) (by omega)
  · rw [if_neg hk]
    by_cases hs : l.length = size
    · rw [if_pos hs]
      refine (o.sub (List.tail_sublist l)).ins' (fun h => hk ((List.tail_sublist l).map _ |>.subset h)) (by omega) (by omega) ?_
      rw [List.length_tail]; omega
    · rw [if_neg hs]
      exact o.ins' hk (by omega) (by omega) (by have := o.len; omega)
theorem useS (o : Ok size l) (h1 : 1 ≤ size) : Ok size (useS size age (req, l) k).2 := by
  unfold Lf.useS
  split
  · exact (o.useL h1).halve
  · exact o.useL h1
end Ok
/-- Where one more count would stand: as far as the counts are not greater. -/
theorem lo_at (h : Srt l) {i : Nat} (hil : i < l.length) : l[i].2 ≤ n ↔ i < (lo l n).length := by
  have hs := srt_split h n
  constructor
  · intro h1
    refine Nat.lt_of_not_le fun h2 => ?_
    have hj : i - (lo l n).length < (hi l n).length := by
      have := congrArg List.length hs
      rw [List.length_append] at this
      have : (lo l n).length + (hi l n).length = l.length := this
      show i - (lo l n).length < (hi l n).length
      omega
    have e : l[i] = (hi l n)[i - (lo l n).length]'hj := by
      have : l[i] = (lo l n ++ hi l n)[i]'(by rw [hs]; exact hil) := by congr 1; exact hs.symm
      rw [this, List.getElem_append_right h2]
    have h3 := (List.mem_filter.1 (List.getElem_mem hj)).2
    rw [← e] at h3
    simp at h3
    omega
  · intro h1
    have e : l[i] = (lo l n)[i]'h1 := by
      have : l[i] = (lo l n ++ hi l n)[i]'(by rw [hs]; exact hil) := by congr 1; exact hs.symm
      rw [this, List.getElem_append_left h1]
    have h3 := (List.mem_filter.1 (List.getElem_mem h1)).2
    rw [← e] at h3
    simpa using h3
theorem lo_take (h : Srt l) : l.take (lo l n).length = lo l n ∧ l.drop (lo l n).length = hi l n := by
  have hs := srt_split h n
  constructor
  · exact (congrArg (List.take (lo l n).length) hs).symm.trans List.take_left
  · exact (congrArg (List.drop (lo l n).length) hs).symm.trans List.drop_left
/-- What is counted beside a cache: how often each key was requested since it came. -/
structure HI (age i : Nat) (l : List It) (ov : List (Nat × Nat)) : Prop where
  kn : (mkeys ov).Nodup
  mem : ∀ k, (mget ov k).isSome = true ↔ k ∈ ks l
  cnt : ∀ k n, (k, n) ∈ l → ∃ o, mget ov k = some o ∧ n ≤ o ∧ o ≤ i ∧ (age = 0 → n = o)
  len : ov.length = l.length
namespace HI
variable {i : Nat} {ov : List (Nat × Nat)}
theorem nil : HI age 0 [] [] := ⟨List.nodup_nil, fun k => by simp [mget], fun k n h => (by cases h), rfl⟩
theorem later (h : HI age i l ov) : HI age (i + 1) l ov := ⟨h.kn, h.mem, fun k n hk => by obtain ⟨o, a, b, c, d⟩ := h.cnt k n hk; exact ⟨o, a, b, by omega, d⟩, h.len⟩
theorem halve (h : HI age i l ov) (o : Ok size l) (ha : age ≠ 0) : HI age i (halveL l) ov := by
  refine ⟨h.kn, fun k => by rw [halve_ks]; exact h.mem k, fun k n hk => ?_, by rw [halve_len]; exact h.len⟩
  unfold halveL at hk
  obtain ⟨⟨k', n'⟩, hx, e⟩ := List.mem_map.1 hk
  obtain ⟨rfl, rfl⟩ := Prod.mk.inj e
  obtain ⟨q, a, b, c, d⟩ := h.cnt k' n' hx
  have h1 : 1 ≤ n' := (o.cnt _ hx).1
  refine ⟨q, a, ?_, c, fun h0 => absurd h0 ha⟩
  show max 1 (n' / 2) ≤ q
  omega
theorem del (h : HI age i l ov) (o : Ok size l) (hk : k ∈ ks l) : HI age i (wo l k) (mdel ov k) := by
  refine ⟨mdel_nodup h.kn, fun j => ?_, fun j n hj => ?_, ?_⟩
  · rw [mget_del h.kn, ks_wo, List.mem_filter]
    by_cases e : j = k
    · subst e; simp
    · rw [if_neg e, h.mem]; simp [e]
  · obtain ⟨h1, h2⟩ := mem_wo.1 hj
    obtain ⟨q, a, b⟩ := h.cnt j n h1
    exact ⟨q, by rw [mget_del h.kn, if_neg h2]; exact a, b⟩
  · have := wo_len o.nd hk
    rw [mdel_len, (h.mem k).2 hk, if_pos rfl, h.len]
    omega
theorem put (h : HI age i l ov) (o : Ok size l) (hk : k ∉ ks l) : HI age (i + 1) (ins l (k, 1)) (mput ov k 1) := by
  have hp := ins_perm o.srt (x := (k, 1))
  refine ⟨mput_nodup h.kn, fun j => ?_, fun j n hj => ?_, ?_⟩
  · have : ks (ins l (k, 1)) = (ins l (k, 1)).map (·.1) := rfl
    rw [mget_put, this, (hp.map (·.1)).mem_iff, List.map_cons, List.mem_cons]
    by_cases e : j = k
    · subst e; simp
    · rw [if_neg e, h.mem]; simp [e]
  · rcases (mem_ins o.srt).1 hj with e | h1
    · obtain ⟨rfl, rfl⟩ := Prod.mk.inj e
      exact ⟨1, by rw [mget_put, if_pos rfl], by omega, by omega, fun _ => rfl⟩
    · have e : j ≠ k := fun e => hk (e ▸ List.mem_map.2 ⟨_, h1, rfl⟩)
      obtain ⟨q, a, b, c, d⟩ := h.cnt j n h1
      exact ⟨q, by rw [mget_put, if_neg e]; exact a, b, by omega, d⟩
  · have hn : mget ov k = none := by
      cases e : mget ov k with
      | none => rfl
      | some v => exact absurd ((h.mem k).1 (by rw [e]; rfl)) hk
    rw [mput_len, hn, ins_len o.srt, h.len]; rfl
theorem again (h : HI age i l ov) (o : Ok size l) (hk : (k, n) ∈ l) {q : Nat} (hq : mget ov k = some q) (hi : i < 250) : HI age (i + 1) (ins (wo l k) (k, min 255 (n + 1))) (mput ov k (q + 1)) := by
  have hs : Srt (wo l k) := srt_sub o.srt List.filter_sublist
  have hp := ins_perm hs (x := (k, min 255 (n + 1)))
  have hks : k ∈ ks l := List.mem_map.2 ⟨_, hk, rfl⟩
  obtain ⟨q', a, b, c, d⟩ := h.cnt k n hk
  obtain rfl : q = q' := Option.some.inj (hq.symm.trans a)
  refine ⟨mput_nodup h.kn, fun j => ?_, fun j m hj => ?_, ?_⟩
  · have : ks (ins (wo l k) (k, min 255 (n + 1))) = (ins (wo l k) (k, min 255 (n + 1))).map (·.1) := rfl
    rw [mget_put, this, (hp.map (·.1)).mem_iff, List.map_cons, List.mem_cons]
    by_cases e : j = k
    · subst e; simp
    · rw [if_neg e, h.mem]
      have : j ∈ List.map (·.1) (wo l k) ↔ j ∈ ks l := by
        have h3 := ks_wo (l := l) (k := k)
        show j ∈ ks (wo l k) ↔ _
        rw [h3, List.mem_filter]; simp [e]
      rw [this]; simp [e]
  · rcases (mem_ins hs).1 hj with e | h1
    · obtain ⟨rfl, rfl⟩ := Prod.mk.inj e
      refine ⟨q + 1, by rw [mget_put, if_pos rfl], by omega, by omega, fun h0 => ?_⟩
      have := d h0
      omega
    · obtain ⟨h1, h2⟩ := mem_wo.1 h1
      obtain ⟨q2, a2, b2, c2, d2⟩ := h.cnt j m h1
      exact ⟨q2, by rw [mget_put, if_neg h2]; exact a2, b2, by omega, d2⟩
  · have h5 : (wo l k).length + 1 = l.length := wo_len o.nd hks
    have h6 : (ins (wo l k) (k, min 255 (n + 1))).length = (wo l k).length + 1 := ins_len hs
    rw [mput_len, hq, Option.isSome_some, if_pos rfl, h.len, h6, h5]
end HI
/-- The first key has the least count. -/
theorem least (o : Ok size l) {t : List It} (e : l = (k, n) :: t) : ∀ j m, (j, m) ∈ l → n ≤ m := fun j m h => by
  have hs := o.srt
  rw [e] at hs h
  unfold Srt at hs
  rw [List.pairwise_cons] at hs
  rcases List.mem_cons.1 h with e2 | h
  · obtain ⟨_, rfl⟩ := Prod.mk.inj e2; exact Nat.le_refl _
  · exact hs.1 _ h
end Go.Lf
