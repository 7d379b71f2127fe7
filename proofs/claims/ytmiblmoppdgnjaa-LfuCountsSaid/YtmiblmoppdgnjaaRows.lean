/-
  No cell of these rows narrows 'for every input' (looked for: loops, veiled, ifaces, maps, wideKeys, modest, calm, conditions, laid).
  DERIVED. THE GIVEN ROWS OF THIS SEAT. 5 by the template 'for every input the law returns true; each argument reads behind the call as it read before'; 0 by the template 'total and deterministic' (their statements: YtmiblmoppdgnjaaTotals.lean).
  GIVEN WITH THE SEED: the statements are not yours to turn. If you find one false, say at which input.
  Laid BY PROGRAM, IN A SANDBOX (cutbox-rows.mjs): the forced cells as the released guide's own fill.sh prints them over the translation bda664051bcd7670… (all of the seat's roots in one cut). By AI agents, Wed Nov 11 2026. No macro, syntax, notation, axiom, sorry.
-/
import Derived.Test.YtmiblmoppdgnjaaChecked
import GoSem.Claim
import GoSem.ClaimJoined
import GoSem.ClaimMapViews
import Derived.JoinedTies
import Derived.KernelRfl
namespace Go.Proofs.Ytmiblmoppdgnjaa
/- THE CELL 'sum', in the pinned program and in every row, IS THE sha256 OF THE DUMP (.gsa) THAT YtmiblmoppdgnjaaProg.lean LOADS. Nothing in Lean hashes anything: it is a label: what it is worth is what the hold of that sum in a sandbox is worth. -/
noncomputable def Try.pinned : Pinned := { name := "ytmiblmoppdgnjaa", sum := "bda664051bcd7670b9952b096d75c77c6004f0f5e7f7bfcd1b367e93a192da63", checked := Try.checked }
namespace Rows
def none {H : Type} : Left H := { results := [], args := [] }

/-- 'cubbyholelaw30.LfuCounts': WHATEVER THE INPUT: true; the input reads as it did. -/
def lfuCountsSpec : ChangeSpec := { name := "lfuCounts", fn := fun _ => fun
  | [d1, d2] => { results := [.lit (.bool true)], args := [d1, d2] }
  | _ => none }
def lfuCountsRow : OpenClaim := { program := "ytmiblmoppdgnjaa", sum := "bda664051bcd7670b9952b096d75c77c6004f0f5e7f7bfcd1b367e93a192da63", func := "cubbyhole/cubbyholelaw30.LfuCounts", spec := "lfuCounts", unfollowed := true, recurses := true, apart := false }
def LfuCountsSaid : Prop := lfuCountsRow.holds Try.pinned (OpenSpec.ofChange lfuCountsSpec)

/-- ITS FALSE NEIGHBOUR: 'it returns false'. Refute it at one input. -/
def lfuCountsWrong : ChangeSpec := { name := "lfuCounts", fn := fun _ => fun
  | [d1, d2] => { results := [.lit (.bool false)], args := [d1, d2] }
  | _ => none }
def LfuCountsWrongFalsely : Prop := lfuCountsRow.holds Try.pinned (OpenSpec.ofChange lfuCountsWrong)

/-- 'cubbyholelaw30.LfuHolds': WHATEVER THE INPUT: true; the input reads as it did. -/
def lfuHoldsSpec : ChangeSpec := { name := "lfuHolds", fn := fun _ => fun
  | [d1, d2, d3] => { results := [.lit (.bool true)], args := [d1, d2, d3] }
  | _ => none }
def lfuHoldsRow : OpenClaim := { program := "ytmiblmoppdgnjaa", sum := "bda664051bcd7670b9952b096d75c77c6004f0f5e7f7bfcd1b367e93a192da63", func := "cubbyhole/cubbyholelaw30.LfuHolds", spec := "lfuHolds", unfollowed := true, recurses := true, apart := false }
def LfuHoldsSaid : Prop := lfuHoldsRow.holds Try.pinned (OpenSpec.ofChange lfuHoldsSpec)

/-- ITS FALSE NEIGHBOUR: 'it returns false'. Refute it at one input. -/
def lfuHoldsWrong : ChangeSpec := { name := "lfuHolds", fn := fun _ => fun
  | [d1, d2, d3] => { results := [.lit (.bool false)], args := [d1, d2, d3] }
  | _ => none }
def LfuHoldsWrongFalsely : Prop := lfuHoldsRow.holds Try.pinned (OpenSpec.ofChange lfuHoldsWrong)

/-- 'cubbyholelaw30.LfuNew': WHATEVER THE INPUT: true; the input reads as it did. -/
def lfuNewSpec : ChangeSpec := { name := "lfuNew", fn := fun _ => fun
  | [d1, d2] => { results := [.lit (.bool true)], args := [d1, d2] }
  | _ => none }
def lfuNewRow : OpenClaim := { program := "ytmiblmoppdgnjaa", sum := "bda664051bcd7670b9952b096d75c77c6004f0f5e7f7bfcd1b367e93a192da63", func := "cubbyhole/cubbyholelaw30.LfuNew", spec := "lfuNew", unfollowed := true, recurses := true, apart := false }
def LfuNewSaid : Prop := lfuNewRow.holds Try.pinned (OpenSpec.ofChange lfuNewSpec)

/-- ITS FALSE NEIGHBOUR: 'it returns false'. Refute it at one input. -/
def lfuNewWrong : ChangeSpec := { name := "lfuNew", fn := fun _ => fun
  | [d1, d2] => { results := [.lit (.bool false)], args := [d1, d2] }
  | _ => none }
def LfuNewWrongFalsely : Prop := lfuNewRow.holds Try.pinned (OpenSpec.ofChange lfuNewWrong)

/-- 'cubbyholelaw30.LfuPlays': WHATEVER THE INPUT: true; the input reads as it did. -/
def lfuPlaysSpec : ChangeSpec := { name := "lfuPlays", fn := fun _ => fun
  | [d1, d2, d3] => { results := [.lit (.bool true)], args := [d1, d2, d3] }
  | _ => none }
def lfuPlaysRow : OpenClaim := { program := "ytmiblmoppdgnjaa", sum := "bda664051bcd7670b9952b096d75c77c6004f0f5e7f7bfcd1b367e93a192da63", func := "cubbyhole/cubbyholelaw30.LfuPlays", spec := "lfuPlays", inPlace := ["maps.clone"], unfollowed := true, recurses := true, apart := false }
def LfuPlaysSaid : Prop := lfuPlaysRow.holds Try.pinned (OpenSpec.ofChange lfuPlaysSpec)

/-- ITS FALSE NEIGHBOUR: 'it returns false'. Refute it at one input. -/
def lfuPlaysWrong : ChangeSpec := { name := "lfuPlays", fn := fun _ => fun
  | [d1, d2, d3] => { results := [.lit (.bool false)], args := [d1, d2, d3] }
  | _ => none }
def LfuPlaysWrongFalsely : Prop := lfuPlaysRow.holds Try.pinned (OpenSpec.ofChange lfuPlaysWrong)

/-- 'cubbyholelaw30.LfuNone': WHATEVER THE INPUT: true; the input reads as it did. -/
def lfuNoneSpec : ChangeSpec := { name := "lfuNone", fn := fun _ => fun
  | [d] => { results := [.lit (.bool true)], args := [d] }
  | _ => none }
def lfuNoneRow : OpenClaim := { program := "ytmiblmoppdgnjaa", sum := "bda664051bcd7670b9952b096d75c77c6004f0f5e7f7bfcd1b367e93a192da63", func := "cubbyhole/cubbyholelaw30.LfuNone", spec := "lfuNone", inPlace := ["maps.clone"], unfollowed := true, recurses := true, apart := false }
def LfuNoneSaid : Prop := lfuNoneRow.holds Try.pinned (OpenSpec.ofChange lfuNoneSpec)

/-- ITS FALSE NEIGHBOUR: 'it returns false'. Refute it at one input. -/
def lfuNoneWrong : ChangeSpec := { name := "lfuNone", fn := fun _ => fun
  | [d] => { results := [.lit (.bool false)], args := [d] }
  | _ => none }
def LfuNoneWrongFalsely : Prop := lfuNoneRow.holds Try.pinned (OpenSpec.ofChange lfuNoneWrong)

/- THE SECOND FORM. 'bulk': how many values and letters a reading holds, each counted each time it is reached (what is shared counts as often as it is met; a slice's spare places count too). A statement '..UptoSaid' is the law's where the arguments, and the package variables that the reading takes, are together of bulk at most 1048576: NARROWER than '..Said'. Prove '..Said' where nothing that the law and all that it calls make is longer than what came in: it says more and counts as full. Else prove '..UptoSaid'. A law counts once. -/
mutual
def uptoBulk {H : Type} : DataW H → Nat
  | .lit (.string bytes) => bytes.length + 1
  | .lit _ => 1
  | .nil => 1
  | .ptr d => uptoBulk d + 1
  | .slice elems spare => uptoBulkAll elems + uptoBulkAll spare + 1
  | .agg parts => uptoBulkAll parts + 1
  | .iface _ d => uptoBulk d + 1
  | .map entries => uptoBulkEntries entries + 1
  | .held _ => 1
def uptoBulkAll {H : Type} : List (DataW H) → Nat
  | [] => 0
  | d :: r => uptoBulk d + uptoBulkAll r
def uptoBulkEntries {H : Type} : List (Lit × DataW H) → Nat
  | [] => 0
  | x :: r => uptoBulkEntry x + uptoBulkEntries r
def uptoBulkEntry {H : Type} : Lit × DataW H → Nat
  | (.string bytes, d) => bytes.length + uptoBulk d + 1
  | (_, d) => uptoBulk d + 1
 end
def uptoSmall : (H : Type) → List (DataW H) → Bool := fun _ ds => decide (uptoBulkAll ds ≤ 1048576)
def OpenSpec.upto (s : _root_.Go.ChangeSpec) : _root_.Go.OpenSpec := { _root_.Go.OpenSpec.ofChange s with cond := some uptoSmall }

/-- 'cubbyholelaw30.LfuCounts', WHERE WHAT IT READS IS OF BULK AT MOST 1048576: true; the input reads as it did. -/
def lfuCountsUptoRow : OpenClaim := { program := "ytmiblmoppdgnjaa", sum := "bda664051bcd7670b9952b096d75c77c6004f0f5e7f7bfcd1b367e93a192da63", func := "cubbyhole/cubbyholelaw30.LfuCounts", spec := "lfuCounts", unfollowed := true, recurses := true, apart := false, narrowed := true }
def LfuCountsUptoSaid : Prop := lfuCountsUptoRow.holds Try.pinned (OpenSpec.upto lfuCountsSpec)

/-- 'cubbyholelaw30.LfuHolds', WHERE WHAT IT READS IS OF BULK AT MOST 1048576: true; the input reads as it did. -/
def lfuHoldsUptoRow : OpenClaim := { program := "ytmiblmoppdgnjaa", sum := "bda664051bcd7670b9952b096d75c77c6004f0f5e7f7bfcd1b367e93a192da63", func := "cubbyhole/cubbyholelaw30.LfuHolds", spec := "lfuHolds", unfollowed := true, recurses := true, apart := false, narrowed := true }
def LfuHoldsUptoSaid : Prop := lfuHoldsUptoRow.holds Try.pinned (OpenSpec.upto lfuHoldsSpec)

/-- 'cubbyholelaw30.LfuNew', WHERE WHAT IT READS IS OF BULK AT MOST 1048576: true; the input reads as it did. -/
def lfuNewUptoRow : OpenClaim := { program := "ytmiblmoppdgnjaa", sum := "bda664051bcd7670b9952b096d75c77c6004f0f5e7f7bfcd1b367e93a192da63", func := "cubbyhole/cubbyholelaw30.LfuNew", spec := "lfuNew", unfollowed := true, recurses := true, apart := false, narrowed := true }
def LfuNewUptoSaid : Prop := lfuNewUptoRow.holds Try.pinned (OpenSpec.upto lfuNewSpec)

/-- 'cubbyholelaw30.LfuPlays', WHERE WHAT IT READS IS OF BULK AT MOST 1048576: true; the input reads as it did. -/
def lfuPlaysUptoRow : OpenClaim := { program := "ytmiblmoppdgnjaa", sum := "bda664051bcd7670b9952b096d75c77c6004f0f5e7f7bfcd1b367e93a192da63", func := "cubbyhole/cubbyholelaw30.LfuPlays", spec := "lfuPlays", inPlace := ["maps.clone"], unfollowed := true, recurses := true, apart := false, narrowed := true }
def LfuPlaysUptoSaid : Prop := lfuPlaysUptoRow.holds Try.pinned (OpenSpec.upto lfuPlaysSpec)

/-- 'cubbyholelaw30.LfuNone', WHERE WHAT IT READS IS OF BULK AT MOST 1048576: true; the input reads as it did. -/
def lfuNoneUptoRow : OpenClaim := { program := "ytmiblmoppdgnjaa", sum := "bda664051bcd7670b9952b096d75c77c6004f0f5e7f7bfcd1b367e93a192da63", func := "cubbyhole/cubbyholelaw30.LfuNone", spec := "lfuNone", inPlace := ["maps.clone"], unfollowed := true, recurses := true, apart := false, narrowed := true }
def LfuNoneUptoSaid : Prop := lfuNoneUptoRow.holds Try.pinned (OpenSpec.upto lfuNoneSpec)

end Rows
end Go.Proofs.Ytmiblmoppdgnjaa
