/- TyI: TyR7, TyR8. -/
import Derived.Test.YtdpiglociolagaaGreatTyH
import Derived.Test.YtdpiglociolagaaGreatTyE
import Derived.Test.YtdpiglociolagaaGreatSlHt
/- The reference of tiny, walked: lists of keys; a new cache; what it remembers. -/
namespace Go.Ty
open Go.Lk Go.Sl Go.Proofs.YtdpiglociolagaaGreat
structure MemOk (w n : Nat) (m : Mem) : Prop where
  sk : SkL w m.c0 m.c1 m.c2 m.c3
  bits : Bits n
  bl : m.b.length = n
theorem MemOk.half {w n : Nat} {m : Mem} (h : MemOk w n m) : MemOk w n m.half := ⟨h.sk.half, h.bits, by show (List.replicate _ _).length = n; rw [List.length_replicate, h.bl]⟩
theorem MemOk.mid {w n : Nat} {m : Mem} {h : BitVec 64} (o : MemOk w n m) : MemOk w n (m.mid w h) := by
  cases e : hasB m.b h with
  | true => rw [mid_yes e]; exact ⟨o.sk.add, o.bits, o.bl⟩
  | false => rw [mid_no e]; exact ⟨o.sk, o.bits, by show (addB _ _).length = n; rw [addB_len, o.bl]⟩
theorem MemOk.note {w n mst : Nat} {m : Mem} {h : BitVec 64} (o : MemOk w n m) : MemOk w n (m.note mst w h) := by
  unfold Mem.note
  split
  · exact o.mid.half
  · have := o.mid (h := h)
    exact ⟨this.sk, this.bits, this.bl⟩
theorem MemOk.new {w n : Nat} (hw : ∃ e, 4 ≤ e ∧ e ≤ 16 ∧ w = 2 ^ e) (hn : Bits n) : MemOk w n (Mem.new w n) := ⟨SkL.zero hw, hn, List.length_replicate⟩
def adN (m : Mem) (mst ad : Nat) (h : BitVec 64) : Nat := if m.req + 1 = mst then (if hasB m.b h then ad + 1 else ad) / 2 else if hasB m.b h then ad + 1 else ad
end Go.Ty
namespace Go.Proofs.YtdpiglociolagaaGreat
open Go.Lk Go.Sl Go.Gh Go.Ty
attribute [local irreducible] TK TL TC Th Bk Nx fnPost WA TQ OpQ OpN SpecH Rd Ent IterH RoundH Rb Rp fnPostM
attribute [local irreducible] Ty.shS Ty.sumB Ty.plS Ty.at64 Ty.cAdd Ty.plB Ty.bA Ty.bS Ty.hasB Ty.addB
end Go.Proofs.YtdpiglociolagaaGreat

/- The reference of tiny, walked: whether a key is there; a request remembered. -/
namespace Go.Ty
open Go.Lk Go.Sl Go.Proofs.YtdpiglociolagaaGreat
section
variable {m : Mem} {mst w ad : Nat} {h : BitVec 64}
theorem note_yn (hh : hasB m.b h = true) (hr : ¬ m.req + 1 = mst) : m.note mst w h = ⟨cAdd m.c0 (plS h w 0), cAdd m.c1 (plS h w 1), cAdd m.c2 (plS h w 2), cAdd m.c3 (plS h w 3), m.b, m.req + 1⟩ ∧ adN m mst ad h = ad + 1 := by
  refine ⟨?_, by unfold adN; rw [if_neg hr, if_pos hh]⟩
  unfold Mem.note; rw [mid_yes hh]; exact if_neg hr
theorem note_nn (hh : hasB m.b h = false) (hr : ¬ m.req + 1 = mst) : m.note mst w h = ⟨m.c0, m.c1, m.c2, m.c3, addB m.b h, m.req + 1⟩ ∧ adN m mst ad h = ad := by
  refine ⟨?_, by unfold adN; rw [if_neg hr, hh]; rfl⟩
  unfold Mem.note; rw [mid_no hh]; exact if_neg hr
end
end Go.Ty
namespace Go.Proofs.YtdpiglociolagaaGreat
open Go.Lk Go.Sl Go.Gh Go.Ty
attribute [local irreducible] TK TL TC Th Bk Nx fnPost WA TQ OpQ OpN SpecH Rd Ent IterH RoundH Rb Rp fnPostM
attribute [local irreducible] Ty.shS Ty.sumB Ty.plS Ty.at64 Ty.cAdd Ty.plB Ty.bA Ty.bS Ty.hasB Ty.addB
end Go.Proofs.YtdpiglociolagaaGreat
