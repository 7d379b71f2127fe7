/-
  No cell of these rows narrows 'for every input' (looked for: loops, veiled, ifaces, maps, wideKeys, modest, calm, conditions, laid).
  DERIVED. THE GIVEN ROWS OF THIS SEAT. 11 by the template 'for every input the law returns true; each argument reads behind the call as it read before'; 0 by the template 'total and deterministic' (their statements: YtcgdkcdlglbigaaTotals.lean).
  GIVEN WITH THE SEED: the statements are not yours to turn. If you find one false, say at which input.
  Laid BY PROGRAM, IN A SANDBOX (cutbox-rows.mjs): the forced cells as the released guide's own fill.sh prints them over the translation 923c033a6d9ce063… (all of the seat's roots in one cut). By AI agents, Wed Nov 11 2026. No macro, syntax, notation, axiom, sorry.
-/
import Derived.Test.YtcgdkcdlglbigaaChecked
import GoSem.Claim
import GoSem.ClaimJoined
import GoSem.ClaimMapViews
import Derived.JoinedTies
import Derived.KernelRfl
namespace Go.Proofs.Ytcgdkcdlglbigaa
/- THE CELL 'sum', in the pinned program and in every row, IS THE sha256 OF THE DUMP (.gsa) THAT YtcgdkcdlglbigaaProg.lean LOADS. Nothing in Lean hashes anything: it is a label: what it is worth is what the hold of that sum in a sandbox is worth. -/
noncomputable def Try.pinned : Pinned := { name := "ytcgdkcdlglbigaa", sum := "923c033a6d9ce0637d2d4691811a6f3d84d4fbba9c9dfed73aeec94fcbd29ba0", checked := Try.checked }
namespace Rows
def none {H : Type} : Left H := { results := [], args := [] }

/-- 'cubbyholelaw32.TwoqScans': WHATEVER THE INPUT: true; the input reads as it did. -/
def twoqScansSpec : ChangeSpec := { name := "twoqScans", fn := fun _ => fun
  | [d1, d2, d3, d4, d5] => { results := [.lit (.bool true)], args := [d1, d2, d3, d4, d5] }
  | _ => none }
def twoqScansRow : OpenClaim := { program := "ytcgdkcdlglbigaa", sum := "923c033a6d9ce0637d2d4691811a6f3d84d4fbba9c9dfed73aeec94fcbd29ba0", func := "cubbyhole/cubbyholelaw32.TwoqScans", spec := "twoqScans", unfollowed := true, recurses := true, apart := false }
def TwoqScansSaid : Prop := twoqScansRow.holds Try.pinned (OpenSpec.ofChange twoqScansSpec)

/-- ITS FALSE NEIGHBOUR: 'it returns false'. Refute it at one input. -/
def twoqScansWrong : ChangeSpec := { name := "twoqScans", fn := fun _ => fun
  | [d1, d2, d3, d4, d5] => { results := [.lit (.bool false)], args := [d1, d2, d3, d4, d5] }
  | _ => none }
def TwoqScansWrongFalsely : Prop := twoqScansRow.holds Try.pinned (OpenSpec.ofChange twoqScansWrong)

/-- 'cubbyholelaw32.TwoqHolds': WHATEVER THE INPUT: true; the input reads as it did. -/
def twoqHoldsSpec : ChangeSpec := { name := "twoqHolds", fn := fun _ => fun
  | [d1, d2, d3, d4] => { results := [.lit (.bool true)], args := [d1, d2, d3, d4] }
  | _ => none }
def twoqHoldsRow : OpenClaim := { program := "ytcgdkcdlglbigaa", sum := "923c033a6d9ce0637d2d4691811a6f3d84d4fbba9c9dfed73aeec94fcbd29ba0", func := "cubbyhole/cubbyholelaw32.TwoqHolds", spec := "twoqHolds", unfollowed := true, recurses := true, apart := false }
def TwoqHoldsSaid : Prop := twoqHoldsRow.holds Try.pinned (OpenSpec.ofChange twoqHoldsSpec)

/-- ITS FALSE NEIGHBOUR: 'it returns false'. Refute it at one input. -/
def twoqHoldsWrong : ChangeSpec := { name := "twoqHolds", fn := fun _ => fun
  | [d1, d2, d3, d4] => { results := [.lit (.bool false)], args := [d1, d2, d3, d4] }
  | _ => none }
def TwoqHoldsWrongFalsely : Prop := twoqHoldsRow.holds Try.pinned (OpenSpec.ofChange twoqHoldsWrong)

/-- 'cubbyholelaw32.TwoqNew': WHATEVER THE INPUT: true; the input reads as it did. -/
def twoqNewSpec : ChangeSpec := { name := "twoqNew", fn := fun _ => fun
  | [d1, d2, d3] => { results := [.lit (.bool true)], args := [d1, d2, d3] }
  | _ => none }
def twoqNewRow : OpenClaim := { program := "ytcgdkcdlglbigaa", sum := "923c033a6d9ce0637d2d4691811a6f3d84d4fbba9c9dfed73aeec94fcbd29ba0", func := "cubbyhole/cubbyholelaw32.TwoqNew", spec := "twoqNew", unfollowed := true, recurses := true, apart := false }
def TwoqNewSaid : Prop := twoqNewRow.holds Try.pinned (OpenSpec.ofChange twoqNewSpec)

/-- ITS FALSE NEIGHBOUR: 'it returns false'. Refute it at one input. -/
def twoqNewWrong : ChangeSpec := { name := "twoqNew", fn := fun _ => fun
  | [d1, d2, d3] => { results := [.lit (.bool false)], args := [d1, d2, d3] }
  | _ => none }
def TwoqNewWrongFalsely : Prop := twoqNewRow.holds Try.pinned (OpenSpec.ofChange twoqNewWrong)

/-- 'cubbyholelaw32.TwoqPlays': WHATEVER THE INPUT: true; the input reads as it did. -/
def twoqPlaysSpec : ChangeSpec := { name := "twoqPlays", fn := fun _ => fun
  | [d1, d2, d3, d4] => { results := [.lit (.bool true)], args := [d1, d2, d3, d4] }
  | _ => none }
def twoqPlaysRow : OpenClaim := { program := "ytcgdkcdlglbigaa", sum := "923c033a6d9ce0637d2d4691811a6f3d84d4fbba9c9dfed73aeec94fcbd29ba0", func := "cubbyhole/cubbyholelaw32.TwoqPlays", spec := "twoqPlays", inPlace := ["maps.clone"], unfollowed := true, recurses := true, apart := false }
def TwoqPlaysSaid : Prop := twoqPlaysRow.holds Try.pinned (OpenSpec.ofChange twoqPlaysSpec)

/-- ITS FALSE NEIGHBOUR: 'it returns false'. Refute it at one input. -/
def twoqPlaysWrong : ChangeSpec := { name := "twoqPlays", fn := fun _ => fun
  | [d1, d2, d3, d4] => { results := [.lit (.bool false)], args := [d1, d2, d3, d4] }
  | _ => none }
def TwoqPlaysWrongFalsely : Prop := twoqPlaysRow.holds Try.pinned (OpenSpec.ofChange twoqPlaysWrong)

/-- 'cubbyholelaw32.TwoqOwn': WHATEVER THE INPUT: true; the input reads as it did. -/
def twoqOwnSpec : ChangeSpec := { name := "twoqOwn", fn := fun _ => fun
  | [d1, d2, d3, d4] => { results := [.lit (.bool true)], args := [d1, d2, d3, d4] }
  | _ => none }
def twoqOwnRow : OpenClaim := { program := "ytcgdkcdlglbigaa", sum := "923c033a6d9ce0637d2d4691811a6f3d84d4fbba9c9dfed73aeec94fcbd29ba0", func := "cubbyhole/cubbyholelaw32.TwoqOwn", spec := "twoqOwn", inPlace := ["maps.clone"], unfollowed := true, recurses := true, apart := false }
def TwoqOwnSaid : Prop := twoqOwnRow.holds Try.pinned (OpenSpec.ofChange twoqOwnSpec)

/-- ITS FALSE NEIGHBOUR: 'it returns false'. Refute it at one input. -/
def twoqOwnWrong : ChangeSpec := { name := "twoqOwn", fn := fun _ => fun
  | [d1, d2, d3, d4] => { results := [.lit (.bool false)], args := [d1, d2, d3, d4] }
  | _ => none }
def TwoqOwnWrongFalsely : Prop := twoqOwnRow.holds Try.pinned (OpenSpec.ofChange twoqOwnWrong)

/-- 'cubbyholelaw32.TwoqNone': WHATEVER THE INPUT: true; the input reads as it did. -/
def twoqNoneSpec : ChangeSpec := { name := "twoqNone", fn := fun _ => fun
  | [d] => { results := [.lit (.bool true)], args := [d] }
  | _ => none }
def twoqNoneRow : OpenClaim := { program := "ytcgdkcdlglbigaa", sum := "923c033a6d9ce0637d2d4691811a6f3d84d4fbba9c9dfed73aeec94fcbd29ba0", func := "cubbyhole/cubbyholelaw32.TwoqNone", spec := "twoqNone", inPlace := ["maps.clone"], unfollowed := true, recurses := true, apart := false }
def TwoqNoneSaid : Prop := twoqNoneRow.holds Try.pinned (OpenSpec.ofChange twoqNoneSpec)

/-- ITS FALSE NEIGHBOUR: 'it returns false'. Refute it at one input. -/
def twoqNoneWrong : ChangeSpec := { name := "twoqNone", fn := fun _ => fun
  | [d] => { results := [.lit (.bool false)], args := [d] }
  | _ => none }
def TwoqNoneWrongFalsely : Prop := twoqNoneRow.holds Try.pinned (OpenSpec.ofChange twoqNoneWrong)

/-- 'cubbyholelaw29.ArcHolds': WHATEVER THE INPUT: true; the input reads as it did. -/
def arcHoldsSpec : ChangeSpec := { name := "arcHolds", fn := fun _ => fun
  | [d1, d2] => { results := [.lit (.bool true)], args := [d1, d2] }
  | _ => none }
def arcHoldsRow : OpenClaim := { program := "ytcgdkcdlglbigaa", sum := "923c033a6d9ce0637d2d4691811a6f3d84d4fbba9c9dfed73aeec94fcbd29ba0", func := "cubbyhole/cubbyholelaw29.ArcHolds", spec := "arcHolds", unfollowed := true, recurses := true, apart := false }
def ArcHoldsSaid : Prop := arcHoldsRow.holds Try.pinned (OpenSpec.ofChange arcHoldsSpec)

/-- ITS FALSE NEIGHBOUR: 'it returns false'. Refute it at one input. -/
def arcHoldsWrong : ChangeSpec := { name := "arcHolds", fn := fun _ => fun
  | [d1, d2] => { results := [.lit (.bool false)], args := [d1, d2] }
  | _ => none }
def ArcHoldsWrongFalsely : Prop := arcHoldsRow.holds Try.pinned (OpenSpec.ofChange arcHoldsWrong)

/-- 'cubbyholelaw29.ArcNew': WHATEVER THE INPUT: true; the input reads as it did. -/
def arcNewSpec : ChangeSpec := { name := "arcNew", fn := fun _ => fun
  | [d] => { results := [.lit (.bool true)], args := [d] }
  | _ => none }
def arcNewRow : OpenClaim := { program := "ytcgdkcdlglbigaa", sum := "923c033a6d9ce0637d2d4691811a6f3d84d4fbba9c9dfed73aeec94fcbd29ba0", func := "cubbyhole/cubbyholelaw29.ArcNew", spec := "arcNew", unfollowed := true, recurses := true, apart := false }
def ArcNewSaid : Prop := arcNewRow.holds Try.pinned (OpenSpec.ofChange arcNewSpec)

/-- ITS FALSE NEIGHBOUR: 'it returns false'. Refute it at one input. -/
def arcNewWrong : ChangeSpec := { name := "arcNew", fn := fun _ => fun
  | [d] => { results := [.lit (.bool false)], args := [d] }
  | _ => none }
def ArcNewWrongFalsely : Prop := arcNewRow.holds Try.pinned (OpenSpec.ofChange arcNewWrong)

/-- 'cubbyholelaw29.ArcPlays': WHATEVER THE INPUT: true; the input reads as it did. -/
def arcPlaysSpec : ChangeSpec := { name := "arcPlays", fn := fun _ => fun
  | [d1, d2] => { results := [.lit (.bool true)], args := [d1, d2] }
  | _ => none }
def arcPlaysRow : OpenClaim := { program := "ytcgdkcdlglbigaa", sum := "923c033a6d9ce0637d2d4691811a6f3d84d4fbba9c9dfed73aeec94fcbd29ba0", func := "cubbyhole/cubbyholelaw29.ArcPlays", spec := "arcPlays", inPlace := ["maps.clone"], unfollowed := true, recurses := true, apart := false }
def ArcPlaysSaid : Prop := arcPlaysRow.holds Try.pinned (OpenSpec.ofChange arcPlaysSpec)

/-- ITS FALSE NEIGHBOUR: 'it returns false'. Refute it at one input. -/
def arcPlaysWrong : ChangeSpec := { name := "arcPlays", fn := fun _ => fun
  | [d1, d2] => { results := [.lit (.bool false)], args := [d1, d2] }
  | _ => none }
def ArcPlaysWrongFalsely : Prop := arcPlaysRow.holds Try.pinned (OpenSpec.ofChange arcPlaysWrong)

/-- 'cubbyholelaw29.ArcOwn': WHATEVER THE INPUT: true; the input reads as it did. -/
def arcOwnSpec : ChangeSpec := { name := "arcOwn", fn := fun _ => fun
  | [d1, d2] => { results := [.lit (.bool true)], args := [d1, d2] }
  | _ => none }
def arcOwnRow : OpenClaim := { program := "ytcgdkcdlglbigaa", sum := "923c033a6d9ce0637d2d4691811a6f3d84d4fbba9c9dfed73aeec94fcbd29ba0", func := "cubbyhole/cubbyholelaw29.ArcOwn", spec := "arcOwn", inPlace := ["maps.clone"], unfollowed := true, recurses := true, apart := false }
def ArcOwnSaid : Prop := arcOwnRow.holds Try.pinned (OpenSpec.ofChange arcOwnSpec)

/-- ITS FALSE NEIGHBOUR: 'it returns false'. Refute it at one input. -/
def arcOwnWrong : ChangeSpec := { name := "arcOwn", fn := fun _ => fun
  | [d1, d2] => { results := [.lit (.bool false)], args := [d1, d2] }
  | _ => none }
def ArcOwnWrongFalsely : Prop := arcOwnRow.holds Try.pinned (OpenSpec.ofChange arcOwnWrong)

/-- 'cubbyholelaw29.ArcNone': WHATEVER THE INPUT: true; the input reads as it did. -/
def arcNoneSpec : ChangeSpec := { name := "arcNone", fn := fun _ => fun
  | [d] => { results := [.lit (.bool true)], args := [d] }
  | _ => none }
def arcNoneRow : OpenClaim := { program := "ytcgdkcdlglbigaa", sum := "923c033a6d9ce0637d2d4691811a6f3d84d4fbba9c9dfed73aeec94fcbd29ba0", func := "cubbyhole/cubbyholelaw29.ArcNone", spec := "arcNone", inPlace := ["maps.clone"], unfollowed := true, recurses := true, apart := false }
def ArcNoneSaid : Prop := arcNoneRow.holds Try.pinned (OpenSpec.ofChange arcNoneSpec)

/-- ITS FALSE NEIGHBOUR: 'it returns false'. Refute it at one input. -/
def arcNoneWrong : ChangeSpec := { name := "arcNone", fn := fun _ => fun
  | [d] => { results := [.lit (.bool false)], args := [d] }
  | _ => none }
def ArcNoneWrongFalsely : Prop := arcNoneRow.holds Try.pinned (OpenSpec.ofChange arcNoneWrong)

/- THE SECOND FORM. 'bulk': how many values and letters a reading holds, each counted each time it is reached (what is shared counts as often as it is met; a slice's spare places count too). A statement '..UptoSaid' is the law's where the arguments, and the package variables that the reading takes, are together of bulk at most 1048576: NARROWER than '..Said'. Prove '..Said' where nothing that the law and all that it calls make is longer than what came in: it says more and counts as full. Else prove '..UptoSaid'. A law counts once. -/
mutual
def uptoBulk {H : Type} : DataW H → Nat
  | .lit (.string bytes) => bytes.length + 1
  | .lit _ => 1
  | .nil => 1
  | .ptr d => uptoBulk d + 1
  | .slice elems spare => uptoBulkAll elems + uptoBulkAll spare + 1
  | .agg parts => uptoBulkAll parts + 1
  | .iface _ d => uptoBulk d + 1
  | .map entries => uptoBulkEntries entries + 1
  | .held _ => 1
def uptoBulkAll {H : Type} : List (DataW H) → Nat
  | [] => 0
  | d :: r => uptoBulk d + uptoBulkAll r
def uptoBulkEntries {H : Type} : List (Lit × DataW H) → Nat
  | [] => 0
  | x :: r => uptoBulkEntry x + uptoBulkEntries r
def uptoBulkEntry {H : Type} : Lit × DataW H → Nat
  | (.string bytes, d) => bytes.length + uptoBulk d + 1
  | (_, d) => uptoBulk d + 1
 end
def uptoSmall : (H : Type) → List (DataW H) → Bool := fun _ ds => decide (uptoBulkAll ds ≤ 1048576)
def OpenSpec.upto (s : _root_.Go.ChangeSpec) : _root_.Go.OpenSpec := { _root_.Go.OpenSpec.ofChange s with cond := some uptoSmall }

/-- 'cubbyholelaw32.TwoqScans', WHERE WHAT IT READS IS OF BULK AT MOST 1048576: true; the input reads as it did. -/
def twoqScansUptoRow : OpenClaim := { program := "ytcgdkcdlglbigaa", sum := "923c033a6d9ce0637d2d4691811a6f3d84d4fbba9c9dfed73aeec94fcbd29ba0", func := "cubbyhole/cubbyholelaw32.TwoqScans", spec := "twoqScans", unfollowed := true, recurses := true, apart := false, narrowed := true }
def TwoqScansUptoSaid : Prop := twoqScansUptoRow.holds Try.pinned (OpenSpec.upto twoqScansSpec)

/-- 'cubbyholelaw32.TwoqHolds', WHERE WHAT IT READS IS OF BULK AT MOST 1048576: true; the input reads as it did. -/
def twoqHoldsUptoRow : OpenClaim := { program := "ytcgdkcdlglbigaa", sum := "923c033a6d9ce0637d2d4691811a6f3d84d4fbba9c9dfed73aeec94fcbd29ba0", func := "cubbyhole/cubbyholelaw32.TwoqHolds", spec := "twoqHolds", unfollowed := true, recurses := true, apart := false, narrowed := true }
def TwoqHoldsUptoSaid : Prop := twoqHoldsUptoRow.holds Try.pinned (OpenSpec.upto twoqHoldsSpec)

/-- 'cubbyholelaw32.TwoqNew', WHERE WHAT IT READS IS OF BULK AT MOST 1048576: true; the input reads as it did. -/
def twoqNewUptoRow : OpenClaim := { program := "ytcgdkcdlglbigaa", sum := "923c033a6d9ce0637d2d4691811a6f3d84d4fbba9c9dfed73aeec94fcbd29ba0", func := "cubbyhole/cubbyholelaw32.TwoqNew", spec := "twoqNew", unfollowed := true, recurses := true, apart := false, narrowed := true }
def TwoqNewUptoSaid : Prop := twoqNewUptoRow.holds Try.pinned (OpenSpec.upto twoqNewSpec)

/-- 'cubbyholelaw32.TwoqPlays', WHERE WHAT IT READS IS OF BULK AT MOST 1048576: true; the input reads as it did. -/
def twoqPlaysUptoRow : OpenClaim := { program := "ytcgdkcdlglbigaa", sum := "923c033a6d9ce0637d2d4691811a6f3d84d4fbba9c9dfed73aeec94fcbd29ba0", func := "cubbyhole/cubbyholelaw32.TwoqPlays", spec := "twoqPlays", inPlace := ["maps.clone"], unfollowed := true, recurses := true, apart := false, narrowed := true }
def TwoqPlaysUptoSaid : Prop := twoqPlaysUptoRow.holds Try.pinned (OpenSpec.upto twoqPlaysSpec)

/-- 'cubbyholelaw32.TwoqOwn', WHERE WHAT IT READS IS OF BULK AT MOST 1048576: true; the input reads as it did. -/
def twoqOwnUptoRow : OpenClaim := { program := "ytcgdkcdlglbigaa", sum := "923c033a6d9ce0637d2d4691811a6f3d84d4fbba9c9dfed73aeec94fcbd29ba0", func := "cubbyhole/cubbyholelaw32.TwoqOwn", spec := "twoqOwn", inPlace := ["maps.clone"], unfollowed := true, recurses := true, apart := false, narrowed := true }
def TwoqOwnUptoSaid : Prop := twoqOwnUptoRow.holds Try.pinned (OpenSpec.upto twoqOwnSpec)

/-- 'cubbyholelaw32.TwoqNone', WHERE WHAT IT READS IS OF BULK AT MOST 1048576: true; the input reads as it did. -/
def twoqNoneUptoRow : OpenClaim := { program := "ytcgdkcdlglbigaa", sum := "923c033a6d9ce0637d2d4691811a6f3d84d4fbba9c9dfed73aeec94fcbd29ba0", func := "cubbyhole/cubbyholelaw32.TwoqNone", spec := "twoqNone", inPlace := ["maps.clone"], unfollowed := true, recurses := true, apart := false, narrowed := true }
def TwoqNoneUptoSaid : Prop := twoqNoneUptoRow.holds Try.pinned (OpenSpec.upto twoqNoneSpec)

/-- 'cubbyholelaw29.ArcHolds', WHERE WHAT IT READS IS OF BULK AT MOST 1048576: true; the input reads as it did. -/
def arcHoldsUptoRow : OpenClaim := { program := "ytcgdkcdlglbigaa", sum := "923c033a6d9ce0637d2d4691811a6f3d84d4fbba9c9dfed73aeec94fcbd29ba0", func := "cubbyhole/cubbyholelaw29.ArcHolds", spec := "arcHolds", unfollowed := true, recurses := true, apart := false, narrowed := true }
def ArcHoldsUptoSaid : Prop := arcHoldsUptoRow.holds Try.pinned (OpenSpec.upto arcHoldsSpec)

/-- 'cubbyholelaw29.ArcNew', WHERE WHAT IT READS IS OF BULK AT MOST 1048576: true; the input reads as it did. -/
def arcNewUptoRow : OpenClaim := { program := "ytcgdkcdlglbigaa", sum := "923c033a6d9ce0637d2d4691811a6f3d84d4fbba9c9dfed73aeec94fcbd29ba0", func := "cubbyhole/cubbyholelaw29.ArcNew", spec := "arcNew", unfollowed := true, recurses := true, apart := false, narrowed := true }
def ArcNewUptoSaid : Prop := arcNewUptoRow.holds Try.pinned (OpenSpec.upto arcNewSpec)

/-- 'cubbyholelaw29.ArcPlays', WHERE WHAT IT READS IS OF BULK AT MOST 1048576: true; the input reads as it did. -/
def arcPlaysUptoRow : OpenClaim := { program := "ytcgdkcdlglbigaa", sum := "923c033a6d9ce0637d2d4691811a6f3d84d4fbba9c9dfed73aeec94fcbd29ba0", func := "cubbyhole/cubbyholelaw29.ArcPlays", spec := "arcPlays", inPlace := ["maps.clone"], unfollowed := true, recurses := true, apart := false, narrowed := true }
def ArcPlaysUptoSaid : Prop := arcPlaysUptoRow.holds Try.pinned (OpenSpec.upto arcPlaysSpec)

/-- 'cubbyholelaw29.ArcOwn', WHERE WHAT IT READS IS OF BULK AT MOST 1048576: true; the input reads as it did. -/
def arcOwnUptoRow : OpenClaim := { program := "ytcgdkcdlglbigaa", sum := "923c033a6d9ce0637d2d4691811a6f3d84d4fbba9c9dfed73aeec94fcbd29ba0", func := "cubbyhole/cubbyholelaw29.ArcOwn", spec := "arcOwn", inPlace := ["maps.clone"], unfollowed := true, recurses := true, apart := false, narrowed := true }
def ArcOwnUptoSaid : Prop := arcOwnUptoRow.holds Try.pinned (OpenSpec.upto arcOwnSpec)

/-- 'cubbyholelaw29.ArcNone', WHERE WHAT IT READS IS OF BULK AT MOST 1048576: true; the input reads as it did. -/
def arcNoneUptoRow : OpenClaim := { program := "ytcgdkcdlglbigaa", sum := "923c033a6d9ce0637d2d4691811a6f3d84d4fbba9c9dfed73aeec94fcbd29ba0", func := "cubbyhole/cubbyholelaw29.ArcNone", spec := "arcNone", inPlace := ["maps.clone"], unfollowed := true, recurses := true, apart := false, narrowed := true }
def ArcNoneUptoSaid : Prop := arcNoneUptoRow.holds Try.pinned (OpenSpec.upto arcNoneSpec)

end Rows
end Go.Proofs.Ytcgdkcdlglbigaa
