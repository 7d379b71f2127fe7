/- A call on a field, in plain terms, and what it leaves of the field's size. Plain. -/
import Derived.Test.YtgmccdicncocdaaLkIs
import Derived.Test.YtgmccdicncocdaaLkRen
import Derived.Test.YtgmccdicncocdaaLkR6
open Go.Sl
namespace Go.Lk
open Go.Proofs.Ytgmccdicncocdaa
theorem renList_keeps {to : List Nat} {h : Nat} : ∀ {l : List Nat} {o o' : Fld}, renList to h l o = some o' → o'.N = o.N ∧ o'.L.length = o.L.length
  | [], o, o', e => by obtain rfl := Option.some.inj e; exact ⟨rfl, rfl⟩
  | n :: ns, o, o', e => by
    unfold renList at e
    split at e
    · have := renList_keeps e
      exact ⟨this.1.trans Fld.addF_N, this.2.trans Fld.addF_len⟩
    · cases e
theorem renLists_keeps {to : List Nat} : ∀ {L : List (List Nat)} {h : Nat} {o o' : Fld}, renLists to h L o = some o' → o'.N = o.N ∧ o'.L.length = o.L.length
  | [], h, o, o', e => by obtain rfl := Option.some.inj e; exact ⟨rfl, rfl⟩
  | l :: L, h, o, o', e => by
    unfold renLists at e
    cases h1 : renList to h l o with
    | none => rw [h1] at e; cases e
    | some o1 =>
      rw [h1] at e
      have e1 := renList_keeps h1
      have e2 := renLists_keeps (show renLists to (h + 1) L o1 = some o' from e)
      exact ⟨e2.1.trans e1.1, e2.2.trans e1.2⟩
theorem renG_keeps {f : Fld} {to : List Nat} {nodes : Int} : (renG f to nodes).L.length = f.L.length ∧ ((renG f to nodes).N = f.N ∨ ((renG f to nodes).N = nodes.toNat ∧ 1 ≤ nodes ∧ nodes ≤ 4194304)) := by
  cases h : f.renF to nodes with
  | none => rw [(ren_none h).2]; exact ⟨rfl, .inl rfl⟩
  | some o =>
    rw [(ren_some h).2]
    unfold Fld.renF at h
    split at h
    · cases h
    · rename_i hc
      have := renLists_keeps h
      exact ⟨by simpa using this.2, .inr ⟨this.1, by omega, by omega⟩⟩
theorem Fld.befF_keeps {f : Fld} {n o : Nat} : (f.befF n o).N = f.N ∧ (f.befF n o).L.length = f.L.length := by
  unfold Fld.befF; split
  · split
    · exact ⟨rfl, Fld.set_len⟩
    · exact ⟨rfl, rfl⟩
  · exact ⟨rfl, rfl⟩
theorem Fld.remF_keeps {f : Fld} {n : Nat} : (f.remF n).N = f.N ∧ (f.remF n).L.length = f.L.length := by
  unfold Fld.remF; split
  · split
    · exact ⟨rfl, Fld.set_len⟩
    · exact ⟨rfl, rfl⟩
  · exact ⟨rfl, rfl⟩
theorem Fld.joinF_keeps {f : Fld} {x y : Int} : (f.joinF x y).N = f.N ∧ (f.joinF x y).L.length = f.L.length := by
  unfold Fld.joinF; split
  · exact ⟨rfl, by rw [Fld.set_len, Fld.set_len]⟩
  · exact ⟨rfl, rfl⟩
theorem Fld.addF_keeps {f : Fld} {h : Int} {n : Nat} {b : Bool} : (f.addF h n b).N = f.N ∧ (f.addF h n b).L.length = f.L.length := ⟨Fld.addF_N, Fld.addF_len⟩
structure LAct where
  what : Int
  head : Int
  other : Int
  node : Nat
  beside : Nat
  to : List Nat
def stepF (f : Fld) (a : LAct) : Fld := if a.what = 0 then f.addF a.head a.node true else if a.what = 1 then f.addF a.head a.node false else if a.what = 2 then f.befF a.node a.beside else if a.what = 3 then f.remF a.node else if a.what = 4 then f.joinF a.head a.other
  else if a.what = 5 then (if 300 < a.other ∧ a.other ≤ 4194304 then f else renG f a.to a.other) else f
theorem stepF_keeps {f : Fld} {a : LAct} : (stepF f a).L.length = f.L.length ∧ (f.N ≤ 300 → (stepF f a).N ≤ 300) := by
  unfold stepF
  split
  · exact ⟨Fld.addF_keeps.2, fun h => by rw [Fld.addF_keeps.1]; exact h⟩
  split
  · exact ⟨Fld.addF_keeps.2, fun h => by rw [Fld.addF_keeps.1]; exact h⟩
  split
  · exact ⟨Fld.befF_keeps.2, fun h => by rw [Fld.befF_keeps.1]; exact h⟩
  split
  · exact ⟨Fld.remF_keeps.2, fun h => by rw [Fld.remF_keeps.1]; exact h⟩
  split
  · exact ⟨Fld.joinF_keeps.2, fun h => by rw [Fld.joinF_keeps.1]; exact h⟩
  split
  · split
    · exact ⟨rfl, id⟩
    · rename_i hc
      obtain ⟨h1, h2⟩ := renG_keeps (f := f) (to := a.to) (nodes := a.other)
      refine ⟨h1, fun h => ?_⟩
      rcases h2 with h2 | ⟨h2, h3, h4⟩
      · rw [h2]; exact h
      · rw [h2]; omega
  · exact ⟨rfl, id⟩
end Go.Lk
