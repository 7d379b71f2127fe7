/- What LfuHolds counts beside a cache, plainly, with whole numbers. -/
import Derived.Test.YtmiblmoppdgnjaaLfTheory6
namespace Go.Lf
open Go.Lk Go.Sl
/-- Entries with whole numbers. -/
def IM (ov : List (Nat × Nat)) : List (Nat × Int) := ov.map fun q => (q.1, (q.2 : Int))
section
variable {ov : List (Nat × Nat)} {k n : Nat}
theorem im_get : ∀ {ov : List (Nat × Nat)}, mget (IM ov) k = (mget ov k).map fun n : Nat => (n : Int)
  | [] => rfl
  | (a, v) :: r => by
    show (if a = k then some (v : Int) else mget (IM r) k) = _
    rw [im_get (ov := r)]
    simp only [mget]
    split <;> rfl
theorem im_put : ∀ {ov : List (Nat × Nat)}, mput (IM ov) k (n : Int) = IM (mput ov k n)
  | [] => rfl
  | (a, v) :: r => by
    show (if a = k then (a, (n : Int)) :: IM r else (a, (v : Int)) :: mput (IM r) k n) = _
    rw [im_put (ov := r)]
    simp only [mput]
    split <;> rfl
theorem im_del : ∀ {ov : List (Nat × Nat)}, mdel (IM ov) k = IM (mdel ov k)
  | [] => rfl
  | (a, v) :: r => by
    show (if a = k then IM r else (a, (v : Int)) :: mdel (IM r) k) = _
    rw [im_del (ov := r)]
    simp only [mdel]
    split <;> rfl
theorem im_len : (IM ov).length = ov.length := List.length_map _
theorem im_some (h : mget ov k = some n) : mget (IM ov) k = some (n : Int) := by rw [im_get, h]; rfl
theorem im_none (h : mget ov k = none) : mget (IM ov) k = none := by rw [im_get, h]; rfl
end
/-- The counts of keys, noted one after the other; those of 'T' are not noted yet. -/
structure BI (l : List It) (kv T bf : List (Nat × Int)) : Prop where
  nd : (mkeys bf).Nodup
  of : ∀ k v, mget bf k = some v → k ∈ ks l ∧ v = (cntOf l k : Nat)
  all : ∀ k, (mget kv k).isSome = true → (∃ v, (k, v) ∈ T) ∨ mget bf k = some ((cntOf l k : Nat) : Int)
namespace BI
variable {l : List It} {kv T bf : List (Nat × Int)} {k : Nat} {v : Int}
theorem start : BI l kv kv [] := ⟨List.nodup_nil, fun k v h => (by cases h), fun k h => by
  obtain ⟨v, hv⟩ := Option.isSome_iff_exists.1 h
  exact .inl ⟨v, mem_of_mget hv⟩⟩
theorem step (b : BI l kv T bf) (hk : k ∈ ks l) : BI l kv (T.filter fun q => q.1 != k) (mput bf k ((cntOf l k : Nat) : Int)) := by
  refine ⟨mput_nodup b.nd, fun j w hj => ?_, fun j hj => ?_⟩
  · rw [mget_put] at hj
    by_cases e : j = k
    · subst e; rw [if_pos rfl] at hj; exact ⟨hk, (Option.some.inj hj).symm⟩
    · rw [if_neg e] at hj; exact b.of j w hj
  · rw [mget_put]
    by_cases e : j = k
    · subst e; rw [if_pos rfl]; exact .inr rfl
    · rw [if_neg e]
      rcases b.all j hj with ⟨w, hw⟩ | h
      · exact .inl ⟨w, List.mem_filter.2 ⟨hw, by simpa using e⟩⟩
      · exact .inr h
theorem done (b : BI l kv [] bf) (h : (mget kv k).isSome = true) : mget bf k = some ((cntOf l k : Nat) : Int) := by
  rcases b.all k h with ⟨v, hv⟩ | h
  · cases hv
  · exact h
end BI
namespace HI
variable {age i size k n : Nat} {l : List It} {ov : List (Nat × Nat)}
theorem some_of (h : HI age i l ov) (o : Ok size l) (hk : k ∈ ks l) : ∃ q, mget ov k = some q ∧ 1 ≤ q ∧ 1 ≤ cntOf l k ∧ cntOf l k ≤ q ∧ (age = 0 → cntOf l k = q) ∧ q ≤ i := by
  obtain ⟨⟨k', n⟩, hy, rfl⟩ := List.mem_map.1 hk
  obtain ⟨q, a, b, c, d⟩ := h.cnt k' n hy
  have h1 := (o.cnt _ hy).1
  have h2 := cntOf_mem o.nd hy
  dsimp only at h1 h2 ⊢
  exact ⟨q, a, by omega, by omega, by omega, fun e => by have := d e; omega, c⟩
theorem none_of (h : HI age i l ov) (hk : k ∉ ks l) : mget ov k = none := by
  cases hg : mget ov k with
  | none => rfl
  | some q => exact absurd ((h.mem k).1 (by rw [hg]; rfl)) hk
/-- After a request. -/
theorem use (h : HI age i l ov) (o : Ok size l) (h1 : 1 ≤ size) {req : Nat} (hi : i < 250) :
    (k ∈ ks l → ∀ q, mget ov k = some q → HI age (i + 1) (useS size age (req, l) k).2 (mput ov k (q + 1))) ∧
    (k ∉ ks l → l.length ≠ size → HI age (i + 1) (useS size age (req, l) k).2 (mput ov k 1)) ∧
    (k ∉ ks l → l.length = size → HI age (i + 1) (useS size age (req, l) k).2 (mput (mdel ov (useO size l k)) k 1) ∧ useO size l k ∈ ks l ∧ useO size l k ≠ k ∧ mget (mdel ov (useO size l k)) k = none ∧ ∀ j, j ∈ ks l → cntOf l (useO size l k) ≤ cntOf l j) := by
  have hal : ∀ ov', HI age (i + 1) (useL size l k) ov' → HI age (i + 1) (useS size age (req, l) k).2 ov' := fun ov' hh => by
    unfold useS
    by_cases hq : req + 1 = age
    · rw [if_pos hq]; exact hh.halve (o.useL h1) (by omega)
    · rw [if_neg hq]; exact hh
  refine ⟨fun hk q hq => hal _ ?_, fun hk hl => hal _ ?_, fun hk hl => ?_⟩
  · obtain ⟨⟨k', n⟩, hy, rfl⟩ := List.mem_map.1 hk
    have h2 := cntOf_mem o.nd hy
    dsimp only at h2 hq hk ⊢
    unfold useL
    rw [if_pos hk, h2]
    exact h.again o hy hq hi
  · unfold useL
    rw [if_neg hk, if_neg hl]
    exact h.put o hk
  · obtain ⟨⟨k0, n0⟩, t, el⟩ : ∃ x t, l = x :: t := by
      cases l with
      | nil => rw [List.length_nil] at hl; omega
      | cons x t => exact ⟨x, t, rfl⟩
    have hO : useO size l k = k0 := by rw [show useO size l k = (ks l).headD 0 from if_pos ⟨hk, hl⟩, el]; rfl
    have hk0 : k0 ∈ ks l := by rw [el]; simp
    have hy0 : (k0, n0) ∈ l := by rw [el]; simp
    have hne : k0 ≠ k := fun e => hk (e ▸ hk0)
    have hwo : wo l k0 = t := by
      have hnd := o.nd
      rw [el] at hnd ⊢
      have hnt : k0 ∉ ks t := by simp only [ks, List.map_cons, List.nodup_cons] at hnd; exact hnd.1
      show wo ((k0, n0) :: t) k0 = t
      unfold wo
      rw [List.filter_cons_of_neg (by simp)]
      exact wo_not hnt
    have hd := h.del o hk0
    rw [hwo] at hd
    have ot : Ok size t := hwo ▸ o.wo (k := k0)
    have hkt : k ∉ ks t := fun hh => hk (by rw [el]; exact List.mem_cons_of_mem _ hh)
    rw [hO]
    refine ⟨hal _ ?_, hk0, hne, ?_, fun j hj => ?_⟩
    · unfold useL
      rw [if_neg hk, if_pos hl, el]
      exact hd.put ot hkt
    · rw [mget_del h.kn, if_neg (fun e => hne e.symm)]; exact h.none_of hk
    · obtain ⟨⟨j', m⟩, hj2, rfl⟩ := List.mem_map.1 hj
      dsimp only
      rw [cntOf_mem o.nd hy0, cntOf_mem o.nd hj2]
      exact least o el j' m hj2
theorem drop (h : HI age i l ov) (o : Ok size l) : HI age (i + 1) (wo l k) (mdel ov k) := by
  by_cases hk : k ∈ ks l
  · exact (h.del o hk).later
  · rw [wo_not hk, mdel_of_not (mget_none.1 (h.none_of hk))]; exact h.later
end HI
end Go.Lf
