/- The laws of lru, walked: the last slots that there can be. -/
import Derived.Test.YtbdiabakcgafgaaLrL2
namespace Go.Lr
theorem addL_lt {L : List Nat} {s : Nat} (h : ∀ x ∈ L, x < 4194304) : ∀ x ∈ addL L s, x < 4194304 := by
  unfold addL
  split
  · exact h
  · intro x hx
    rw [List.mem_append, List.mem_singleton] at hx
    rcases hx with hx | rfl
    · exact h x hx
    · omega
theorem useL_lt {L : List Nat} {s : Nat} (h : ∀ x ∈ L, x < 4194304) : ∀ x ∈ useL L s, x < 4194304 := by
  unfold useL
  split
  · intro x hx
    rw [List.mem_append, List.mem_singleton] at hx
    rcases hx with hx | rfl
    · exact h x (List.mem_of_mem_erase hx)
    · exact h _ (by assumption)
  · exact h
theorem addL_nodup {L : List Nat} {s : Nat} (h : L.Nodup) : (addL L s).Nodup := by
  unfold addL
  split
  · exact h
  · rename_i hn
    rw [List.nodup_append]
    exact ⟨h, by simp, fun x hx y hy e => hn (.inr (by simp at hy; rw [← hy, ← e]; exact hx))⟩
end Go.Lr
namespace Go.Proofs.Ytbdiabakcgafgaa
open Go.Lk Go.Sl Go.Lr
attribute [local irreducible] TK TL TC Th Bk Nx fnPost WA TQ OpQ OpN SpecH Rd Ent IterH RoundH Rb Rp fnPostM
attribute [local irreducible] Lr.addE Lr.addL Lr.remE Lr.useL Lr.renE' Lr.renL Lr.findI
set_option maxHeartbeats 8000000 in
theorem llast_spec (less : Int) : SpecH Try.prog 9 #[.int .i64 less] [] (fun _ : Unit => .bool true) (fun _ => []) := by
  by_cases hb : less < -3 ∨ 3 < less
  · refine spec_of Try.func9 rfl Try.ntmps9 rfl [(0, _)] rfl ?_; intro base F l0 hl0; (try simp only [List.cons_append] at hl0); (try simp only [List.nil_append] at hl0); subst hl0
    repeat' (first | refine stx ?_ | refine And.intro ?_ ?_ | (intro e; exfalso; omega) | (intro e; subst e) | intro _)
    all_goals exact rt1 () rfl
  · obtain ⟨s, hs⟩ : ∃ s : Nat, 4194304 - less = s := ⟨(4194304 - less).toNat, by omega⟩
    haveI : NatI (4194304 - less) s := ⟨hs⟩
    have e0 : Lr.addE [] 3 = 0 := by decide +kernel
    have e1 : Lr.addL [] 3 = [3] := by decide +kernel
    have l0 : ∀ x ∈ ([] : List Nat), x < 4194304 := fun x h => by cases h
    have l1 := Lr.addL_lt (s := 3) l0
    have l2 := Lr.addL_lt (s := s) l1
    have l3 := Lr.useL_lt (s := 3) l2
    have n1 : (Lr.addL [] 3).length = 1 := by rw [e1]; rfl
    have n2 := Lr.addL_len (L := Lr.addL [] 3) (s := s)
    have n3 := Lr.useL_len (L := Lr.addL (Lr.addL [] 3) s) (s := 3)
    have n4 := (List.erase_sublist (a := s) (l := Lr.useL (Lr.addL (Lr.addL [] 3) s) 3)).length_le
    have d2 : (Lr.addL (Lr.addL [] 3) s).Nodup := Lr.addL_nodup (Lr.addL_nodup List.nodup_nil)
    refine spec_of Try.func9 rfl Try.ntmps9 rfl [(0, _)] rfl ?_; intro base F l0 hl0; (try simp only [List.cons_append] at hl0); (try simp only [List.nil_append] at hl0); subst hl0
    repeat' (first | refine stx ?_ | refine And.intro ?_ ?_ | (intro e; exfalso; omega) | (intro e; subst e) | intro _)
    refine call (lrr_add.out none 0 0 [] 3 3 rfl (by decide) (by decide)) ?_
    repeat' (first | refine stx ?_ | refine And.intro ?_ ?_ | (intro e; exfalso; omega) | (intro e; subst e) | intro _)
    exact rt1 () rfl
end Go.Proofs.Ytbdiabakcgafgaa
