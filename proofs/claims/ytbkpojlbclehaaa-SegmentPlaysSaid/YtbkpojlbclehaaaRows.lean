/-
  No cell of these rows narrows 'for every input' (looked for: loops, veiled, ifaces, maps, wideKeys, modest, calm, conditions, laid).
  DERIVED. THE GIVEN ROWS OF THIS SEAT. 10 by the template 'for every input the law returns true; each argument reads behind the call as it read before'; 0 by the template 'total and deterministic' (their statements: YtbkpojlbclehaaaTotals.lean).
  GIVEN WITH THE SEED: the statements are not yours to turn. If you find one false, say at which input.
  Laid BY PROGRAM, IN A SANDBOX (cutbox-rows.mjs): the forced cells as the released guide's own fill.sh prints them over the translation 5a8e66df01b48045… (all of the seat's roots in one cut). By AI agents, Wed Nov 11 2026. No macro, syntax, notation, axiom, sorry.
-/
import Derived.Test.YtbkpojlbclehaaaChecked
import GoSem.Claim
import GoSem.ClaimJoined
import GoSem.ClaimMapViews
import Derived.JoinedTies
import Derived.KernelRfl
namespace Go.Proofs.Ytbkpojlbclehaaa
/- THE CELL 'sum', in the pinned program and in every row, IS THE sha256 OF THE DUMP (.gsa) THAT YtbkpojlbclehaaaProg.lean LOADS. Nothing in Lean hashes anything: it is a label: what it is worth is what the hold of that sum in a sandbox is worth. -/
noncomputable def Try.pinned : Pinned := { name := "ytbkpojlbclehaaa", sum := "5a8e66df01b480454864c875f5d8073e29d6a252113c8bec3ae29868877e5a1c", checked := Try.checked }
namespace Rows
def none {H : Type} : Left H := { results := [], args := [] }

/-- 'cubbyholelaw16.SegmentNew': WHATEVER THE INPUT: true; the input reads as it did. -/
def segmentNewSpec : ChangeSpec := { name := "segmentNew", fn := fun _ => fun
  | [d] => { results := [.lit (.bool true)], args := [d] }
  | _ => none }
def segmentNewRow : OpenClaim := { program := "ytbkpojlbclehaaa", sum := "5a8e66df01b480454864c875f5d8073e29d6a252113c8bec3ae29868877e5a1c", func := "cubbyhole/cubbyholelaw16.SegmentNew", spec := "segmentNew", unfollowed := true, recurses := true, apart := false }
def SegmentNewSaid : Prop := segmentNewRow.holds Try.pinned (OpenSpec.ofChange segmentNewSpec)

/-- ITS FALSE NEIGHBOUR: 'it returns false'. Refute it at one input. -/
def segmentNewWrong : ChangeSpec := { name := "segmentNew", fn := fun _ => fun
  | [d] => { results := [.lit (.bool false)], args := [d] }
  | _ => none }
def SegmentNewWrongFalsely : Prop := segmentNewRow.holds Try.pinned (OpenSpec.ofChange segmentNewWrong)

/-- 'cubbyholelaw16.SegmentHolds': WHATEVER THE INPUT: true; the input reads as it did. -/
def segmentHoldsSpec : ChangeSpec := { name := "segmentHolds", fn := fun _ => fun
  | [d1, d2] => { results := [.lit (.bool true)], args := [d1, d2] }
  | _ => none }
def segmentHoldsRow : OpenClaim := { program := "ytbkpojlbclehaaa", sum := "5a8e66df01b480454864c875f5d8073e29d6a252113c8bec3ae29868877e5a1c", func := "cubbyhole/cubbyholelaw16.SegmentHolds", spec := "segmentHolds", unfollowed := true, recurses := true, apart := false }
def SegmentHoldsSaid : Prop := segmentHoldsRow.holds Try.pinned (OpenSpec.ofChange segmentHoldsSpec)

/-- ITS FALSE NEIGHBOUR: 'it returns false'. Refute it at one input. -/
def segmentHoldsWrong : ChangeSpec := { name := "segmentHolds", fn := fun _ => fun
  | [d1, d2] => { results := [.lit (.bool false)], args := [d1, d2] }
  | _ => none }
def SegmentHoldsWrongFalsely : Prop := segmentHoldsRow.holds Try.pinned (OpenSpec.ofChange segmentHoldsWrong)

/-- 'cubbyholelaw16.SegmentPlain': WHATEVER THE INPUT: true; the input reads as it did. -/
def segmentPlainSpec : ChangeSpec := { name := "segmentPlain", fn := fun _ => fun
  | [d1, d2, d3] => { results := [.lit (.bool true)], args := [d1, d2, d3] }
  | _ => none }
def segmentPlainRow : OpenClaim := { program := "ytbkpojlbclehaaa", sum := "5a8e66df01b480454864c875f5d8073e29d6a252113c8bec3ae29868877e5a1c", func := "cubbyhole/cubbyholelaw16.SegmentPlain", spec := "segmentPlain", unfollowed := true, recurses := true, apart := false }
def SegmentPlainSaid : Prop := segmentPlainRow.holds Try.pinned (OpenSpec.ofChange segmentPlainSpec)

/-- ITS FALSE NEIGHBOUR: 'it returns false'. Refute it at one input. -/
def segmentPlainWrong : ChangeSpec := { name := "segmentPlain", fn := fun _ => fun
  | [d1, d2, d3] => { results := [.lit (.bool false)], args := [d1, d2, d3] }
  | _ => none }
def SegmentPlainWrongFalsely : Prop := segmentPlainRow.holds Try.pinned (OpenSpec.ofChange segmentPlainWrong)

/-- 'cubbyholelaw16.SegmentPlays': WHATEVER THE INPUT: true; the input reads as it did. -/
def segmentPlaysSpec : ChangeSpec := { name := "segmentPlays", fn := fun _ => fun
  | [d1, d2] => { results := [.lit (.bool true)], args := [d1, d2] }
  | _ => none }
def segmentPlaysRow : OpenClaim := { program := "ytbkpojlbclehaaa", sum := "5a8e66df01b480454864c875f5d8073e29d6a252113c8bec3ae29868877e5a1c", func := "cubbyhole/cubbyholelaw16.SegmentPlays", spec := "segmentPlays", unfollowed := true, recurses := true, apart := false }
def SegmentPlaysSaid : Prop := segmentPlaysRow.holds Try.pinned (OpenSpec.ofChange segmentPlaysSpec)

/-- ITS FALSE NEIGHBOUR: 'it returns false'. Refute it at one input. -/
def segmentPlaysWrong : ChangeSpec := { name := "segmentPlays", fn := fun _ => fun
  | [d1, d2] => { results := [.lit (.bool false)], args := [d1, d2] }
  | _ => none }
def SegmentPlaysWrongFalsely : Prop := segmentPlaysRow.holds Try.pinned (OpenSpec.ofChange segmentPlaysWrong)

/-- 'cubbyholelaw16.SegmentNil': WHATEVER THE INPUT: true; the input reads as it did. -/
def segmentNilSpec : ChangeSpec := { name := "segmentNil", fn := fun _ => fun
  | [d1, d2] => { results := [.lit (.bool true)], args := [d1, d2] }
  | _ => none }
def segmentNilRow : OpenClaim := { program := "ytbkpojlbclehaaa", sum := "5a8e66df01b480454864c875f5d8073e29d6a252113c8bec3ae29868877e5a1c", func := "cubbyhole/cubbyholelaw16.SegmentNil", spec := "segmentNil", unfollowed := true, recurses := true, apart := false }
def SegmentNilSaid : Prop := segmentNilRow.holds Try.pinned (OpenSpec.ofChange segmentNilSpec)

/-- ITS FALSE NEIGHBOUR: 'it returns false'. Refute it at one input. -/
def segmentNilWrong : ChangeSpec := { name := "segmentNil", fn := fun _ => fun
  | [d1, d2] => { results := [.lit (.bool false)], args := [d1, d2] }
  | _ => none }
def SegmentNilWrongFalsely : Prop := segmentNilRow.holds Try.pinned (OpenSpec.ofChange segmentNilWrong)

/-- 'cubbyholelaw37.ReuseDistances': WHATEVER THE INPUT: true; the input reads as it did. -/
def reuseDistancesSpec : ChangeSpec := { name := "reuseDistances", fn := fun _ => fun
  | [d] => { results := [.lit (.bool true)], args := [d] }
  | _ => none }
def reuseDistancesRow : OpenClaim := { program := "ytbkpojlbclehaaa", sum := "5a8e66df01b480454864c875f5d8073e29d6a252113c8bec3ae29868877e5a1c", func := "cubbyhole/cubbyholelaw37.ReuseDistances", spec := "reuseDistances", unfollowed := true, recurses := true, apart := false }
def ReuseDistancesSaid : Prop := reuseDistancesRow.holds Try.pinned (OpenSpec.ofChange reuseDistancesSpec)

/-- ITS FALSE NEIGHBOUR: 'it returns false'. Refute it at one input. -/
def reuseDistancesWrong : ChangeSpec := { name := "reuseDistances", fn := fun _ => fun
  | [d] => { results := [.lit (.bool false)], args := [d] }
  | _ => none }
def ReuseDistancesWrongFalsely : Prop := reuseDistancesRow.holds Try.pinned (OpenSpec.ofChange reuseDistancesWrong)

/-- 'cubbyholelaw37.ReuseHits': WHATEVER THE INPUT: true; the input reads as it did. -/
def reuseHitsSpec : ChangeSpec := { name := "reuseHits", fn := fun _ => fun
  | [d1, d2] => { results := [.lit (.bool true)], args := [d1, d2] }
  | _ => none }
def reuseHitsRow : OpenClaim := { program := "ytbkpojlbclehaaa", sum := "5a8e66df01b480454864c875f5d8073e29d6a252113c8bec3ae29868877e5a1c", func := "cubbyhole/cubbyholelaw37.ReuseHits", spec := "reuseHits", unfollowed := true, recurses := true, apart := false }
def ReuseHitsSaid : Prop := reuseHitsRow.holds Try.pinned (OpenSpec.ofChange reuseHitsSpec)

/-- ITS FALSE NEIGHBOUR: 'it returns false'. Refute it at one input. -/
def reuseHitsWrong : ChangeSpec := { name := "reuseHits", fn := fun _ => fun
  | [d1, d2] => { results := [.lit (.bool false)], args := [d1, d2] }
  | _ => none }
def ReuseHitsWrongFalsely : Prop := reuseHitsRow.holds Try.pinned (OpenSpec.ofChange reuseHitsWrong)

/-- 'cubbyholelaw37.ReuseLongs': WHATEVER THE INPUT: true; the input reads as it did. -/
def reuseLongsSpec : ChangeSpec := { name := "reuseLongs", fn := fun _ => fun
  | [d1, d2] => { results := [.lit (.bool true)], args := [d1, d2] }
  | _ => none }
def reuseLongsRow : OpenClaim := { program := "ytbkpojlbclehaaa", sum := "5a8e66df01b480454864c875f5d8073e29d6a252113c8bec3ae29868877e5a1c", func := "cubbyhole/cubbyholelaw37.ReuseLongs", spec := "reuseLongs", unfollowed := true, recurses := true, apart := false }
def ReuseLongsSaid : Prop := reuseLongsRow.holds Try.pinned (OpenSpec.ofChange reuseLongsSpec)

/-- ITS FALSE NEIGHBOUR: 'it returns false'. Refute it at one input. -/
def reuseLongsWrong : ChangeSpec := { name := "reuseLongs", fn := fun _ => fun
  | [d1, d2] => { results := [.lit (.bool false)], args := [d1, d2] }
  | _ => none }
def ReuseLongsWrongFalsely : Prop := reuseLongsRow.holds Try.pinned (OpenSpec.ofChange reuseLongsWrong)

/-- 'cubbyholelaw37.ReuseHolds': WHATEVER THE INPUT: true; the input reads as it did. -/
def reuseHoldsSpec : ChangeSpec := { name := "reuseHolds", fn := fun _ => fun
  | [d1, d2] => { results := [.lit (.bool true)], args := [d1, d2] }
  | _ => none }
def reuseHoldsRow : OpenClaim := { program := "ytbkpojlbclehaaa", sum := "5a8e66df01b480454864c875f5d8073e29d6a252113c8bec3ae29868877e5a1c", func := "cubbyhole/cubbyholelaw37.ReuseHolds", spec := "reuseHolds", unfollowed := true, recurses := true, apart := false }
def ReuseHoldsSaid : Prop := reuseHoldsRow.holds Try.pinned (OpenSpec.ofChange reuseHoldsSpec)

/-- ITS FALSE NEIGHBOUR: 'it returns false'. Refute it at one input. -/
def reuseHoldsWrong : ChangeSpec := { name := "reuseHolds", fn := fun _ => fun
  | [d1, d2] => { results := [.lit (.bool false)], args := [d1, d2] }
  | _ => none }
def ReuseHoldsWrongFalsely : Prop := reuseHoldsRow.holds Try.pinned (OpenSpec.ofChange reuseHoldsWrong)

/-- 'cubbyholelaw37.ReuseLists': WHATEVER THE INPUT: true; the input reads as it did. -/
def reuseListsSpec : ChangeSpec := { name := "reuseLists", fn := fun _ => fun
  | [d1, d2] => { results := [.lit (.bool true)], args := [d1, d2] }
  | _ => none }
def reuseListsRow : OpenClaim := { program := "ytbkpojlbclehaaa", sum := "5a8e66df01b480454864c875f5d8073e29d6a252113c8bec3ae29868877e5a1c", func := "cubbyhole/cubbyholelaw37.ReuseLists", spec := "reuseLists", unfollowed := true, recurses := true, apart := false }
def ReuseListsSaid : Prop := reuseListsRow.holds Try.pinned (OpenSpec.ofChange reuseListsSpec)

/-- ITS FALSE NEIGHBOUR: 'it returns false'. Refute it at one input. -/
def reuseListsWrong : ChangeSpec := { name := "reuseLists", fn := fun _ => fun
  | [d1, d2] => { results := [.lit (.bool false)], args := [d1, d2] }
  | _ => none }
def ReuseListsWrongFalsely : Prop := reuseListsRow.holds Try.pinned (OpenSpec.ofChange reuseListsWrong)

/- THE SECOND FORM. 'bulk': how many values and letters a reading holds, each counted each time it is reached (what is shared counts as often as it is met; a slice's spare places count too). A statement '..UptoSaid' is the law's where the arguments, and the package variables that the reading takes, are together of bulk at most 1048576: NARROWER than '..Said'. Prove '..Said' where nothing that the law and all that it calls make is longer than what came in: it says more and counts as full. Else prove '..UptoSaid'. A law counts once. -/
mutual
def uptoBulk {H : Type} : DataW H → Nat
  | .lit (.string bytes) => bytes.length + 1
  | .lit _ => 1
  | .nil => 1
  | .ptr d => uptoBulk d + 1
  | .slice elems spare => uptoBulkAll elems + uptoBulkAll spare + 1
  | .agg parts => uptoBulkAll parts + 1
  | .iface _ d => uptoBulk d + 1
  | .map entries => uptoBulkEntries entries + 1
  | .held _ => 1
def uptoBulkAll {H : Type} : List (DataW H) → Nat
  | [] => 0
  | d :: r => uptoBulk d + uptoBulkAll r
def uptoBulkEntries {H : Type} : List (Lit × DataW H) → Nat
  | [] => 0
  | x :: r => uptoBulkEntry x + uptoBulkEntries r
def uptoBulkEntry {H : Type} : Lit × DataW H → Nat
  | (.string bytes, d) => bytes.length + uptoBulk d + 1
  | (_, d) => uptoBulk d + 1
 end
def uptoSmall : (H : Type) → List (DataW H) → Bool := fun _ ds => decide (uptoBulkAll ds ≤ 1048576)
def OpenSpec.upto (s : _root_.Go.ChangeSpec) : _root_.Go.OpenSpec := { _root_.Go.OpenSpec.ofChange s with cond := some uptoSmall }

/-- 'cubbyholelaw16.SegmentNew', WHERE WHAT IT READS IS OF BULK AT MOST 1048576: true; the input reads as it did. -/
def segmentNewUptoRow : OpenClaim := { program := "ytbkpojlbclehaaa", sum := "5a8e66df01b480454864c875f5d8073e29d6a252113c8bec3ae29868877e5a1c", func := "cubbyhole/cubbyholelaw16.SegmentNew", spec := "segmentNew", unfollowed := true, recurses := true, apart := false, narrowed := true }
def SegmentNewUptoSaid : Prop := segmentNewUptoRow.holds Try.pinned (OpenSpec.upto segmentNewSpec)

/-- 'cubbyholelaw16.SegmentHolds', WHERE WHAT IT READS IS OF BULK AT MOST 1048576: true; the input reads as it did. -/
def segmentHoldsUptoRow : OpenClaim := { program := "ytbkpojlbclehaaa", sum := "5a8e66df01b480454864c875f5d8073e29d6a252113c8bec3ae29868877e5a1c", func := "cubbyhole/cubbyholelaw16.SegmentHolds", spec := "segmentHolds", unfollowed := true, recurses := true, apart := false, narrowed := true }
def SegmentHoldsUptoSaid : Prop := segmentHoldsUptoRow.holds Try.pinned (OpenSpec.upto segmentHoldsSpec)

/-- 'cubbyholelaw16.SegmentPlain', WHERE WHAT IT READS IS OF BULK AT MOST 1048576: true; the input reads as it did. -/
def segmentPlainUptoRow : OpenClaim := { program := "ytbkpojlbclehaaa", sum := "5a8e66df01b480454864c875f5d8073e29d6a252113c8bec3ae29868877e5a1c", func := "cubbyhole/cubbyholelaw16.SegmentPlain", spec := "segmentPlain", unfollowed := true, recurses := true, apart := false, narrowed := true }
def SegmentPlainUptoSaid : Prop := segmentPlainUptoRow.holds Try.pinned (OpenSpec.upto segmentPlainSpec)

/-- 'cubbyholelaw16.SegmentPlays', WHERE WHAT IT READS IS OF BULK AT MOST 1048576: true; the input reads as it did. -/
def segmentPlaysUptoRow : OpenClaim := { program := "ytbkpojlbclehaaa", sum := "5a8e66df01b480454864c875f5d8073e29d6a252113c8bec3ae29868877e5a1c", func := "cubbyhole/cubbyholelaw16.SegmentPlays", spec := "segmentPlays", unfollowed := true, recurses := true, apart := false, narrowed := true }
def SegmentPlaysUptoSaid : Prop := segmentPlaysUptoRow.holds Try.pinned (OpenSpec.upto segmentPlaysSpec)

/-- 'cubbyholelaw16.SegmentNil', WHERE WHAT IT READS IS OF BULK AT MOST 1048576: true; the input reads as it did. -/
def segmentNilUptoRow : OpenClaim := { program := "ytbkpojlbclehaaa", sum := "5a8e66df01b480454864c875f5d8073e29d6a252113c8bec3ae29868877e5a1c", func := "cubbyhole/cubbyholelaw16.SegmentNil", spec := "segmentNil", unfollowed := true, recurses := true, apart := false, narrowed := true }
def SegmentNilUptoSaid : Prop := segmentNilUptoRow.holds Try.pinned (OpenSpec.upto segmentNilSpec)

/-- 'cubbyholelaw37.ReuseDistances', WHERE WHAT IT READS IS OF BULK AT MOST 1048576: true; the input reads as it did. -/
def reuseDistancesUptoRow : OpenClaim := { program := "ytbkpojlbclehaaa", sum := "5a8e66df01b480454864c875f5d8073e29d6a252113c8bec3ae29868877e5a1c", func := "cubbyhole/cubbyholelaw37.ReuseDistances", spec := "reuseDistances", unfollowed := true, recurses := true, apart := false, narrowed := true }
def ReuseDistancesUptoSaid : Prop := reuseDistancesUptoRow.holds Try.pinned (OpenSpec.upto reuseDistancesSpec)

/-- 'cubbyholelaw37.ReuseHits', WHERE WHAT IT READS IS OF BULK AT MOST 1048576: true; the input reads as it did. -/
def reuseHitsUptoRow : OpenClaim := { program := "ytbkpojlbclehaaa", sum := "5a8e66df01b480454864c875f5d8073e29d6a252113c8bec3ae29868877e5a1c", func := "cubbyhole/cubbyholelaw37.ReuseHits", spec := "reuseHits", unfollowed := true, recurses := true, apart := false, narrowed := true }
def ReuseHitsUptoSaid : Prop := reuseHitsUptoRow.holds Try.pinned (OpenSpec.upto reuseHitsSpec)

/-- 'cubbyholelaw37.ReuseLongs', WHERE WHAT IT READS IS OF BULK AT MOST 1048576: true; the input reads as it did. -/
def reuseLongsUptoRow : OpenClaim := { program := "ytbkpojlbclehaaa", sum := "5a8e66df01b480454864c875f5d8073e29d6a252113c8bec3ae29868877e5a1c", func := "cubbyhole/cubbyholelaw37.ReuseLongs", spec := "reuseLongs", unfollowed := true, recurses := true, apart := false, narrowed := true }
def ReuseLongsUptoSaid : Prop := reuseLongsUptoRow.holds Try.pinned (OpenSpec.upto reuseLongsSpec)

/-- 'cubbyholelaw37.ReuseHolds', WHERE WHAT IT READS IS OF BULK AT MOST 1048576: true; the input reads as it did. -/
def reuseHoldsUptoRow : OpenClaim := { program := "ytbkpojlbclehaaa", sum := "5a8e66df01b480454864c875f5d8073e29d6a252113c8bec3ae29868877e5a1c", func := "cubbyhole/cubbyholelaw37.ReuseHolds", spec := "reuseHolds", unfollowed := true, recurses := true, apart := false, narrowed := true }
def ReuseHoldsUptoSaid : Prop := reuseHoldsUptoRow.holds Try.pinned (OpenSpec.upto reuseHoldsSpec)

/-- 'cubbyholelaw37.ReuseLists', WHERE WHAT IT READS IS OF BULK AT MOST 1048576: true; the input reads as it did. -/
def reuseListsUptoRow : OpenClaim := { program := "ytbkpojlbclehaaa", sum := "5a8e66df01b480454864c875f5d8073e29d6a252113c8bec3ae29868877e5a1c", func := "cubbyhole/cubbyholelaw37.ReuseLists", spec := "reuseLists", unfollowed := true, recurses := true, apart := false, narrowed := true }
def ReuseListsUptoSaid : Prop := reuseListsUptoRow.holds Try.pinned (OpenSpec.upto reuseListsSpec)

end Rows
end Go.Proofs.Ytbkpojlbclehaaa
