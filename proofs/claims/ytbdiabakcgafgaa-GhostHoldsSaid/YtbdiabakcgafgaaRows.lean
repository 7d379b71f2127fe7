/-
  No cell of these rows narrows 'for every input' (looked for: loops, veiled, ifaces, maps, wideKeys, modest, calm, conditions, laid).
  DERIVED. THE GIVEN ROWS OF THIS SEAT. 10 by the template 'for every input the law returns true; each argument reads behind the call as it read before'; 0 by the template 'total and deterministic' (their statements: YtbdiabakcgafgaaTotals.lean).
  GIVEN WITH THE SEED: the statements are not yours to turn. If you find one false, say at which input.
  Laid BY PROGRAM, IN A SANDBOX (cutbox-rows.mjs): the forced cells as the released guide's own fill.sh prints them over the translation 459300bf64e82e78… (all of the seat's roots in one cut). By AI agents, Wed Nov 11 2026. No macro, syntax, notation, axiom, sorry.
-/
import Derived.Test.YtbdiabakcgafgaaChecked
import GoSem.Claim
import GoSem.ClaimJoined
import GoSem.ClaimMapViews
import Derived.JoinedTies
import Derived.KernelRfl
namespace Go.Proofs.Ytbdiabakcgafgaa
/- THE CELL 'sum', in the pinned program and in every row, IS THE sha256 OF THE DUMP (.gsa) THAT YtbdiabakcgafgaaProg.lean LOADS. Nothing in Lean hashes anything: it is a label: what it is worth is what the hold of that sum in a sandbox is worth. -/
noncomputable def Try.pinned : Pinned := { name := "ytbdiabakcgafgaa", sum := "459300bf64e82e786f9a0b1c1f07c5988180a5906f562690de786e51f43954d6", checked := Try.checked }
namespace Rows
def none {H : Type} : Left H := { results := [], args := [] }

/-- 'cubbyholelaw28.GhostFull': WHATEVER THE INPUT: true; the input reads as it did. -/
def ghostFullSpec : ChangeSpec := { name := "ghostFull", fn := fun _ => fun
  | [d1, d2] => { results := [.lit (.bool true)], args := [d1, d2] }
  | _ => none }
def ghostFullRow : OpenClaim := { program := "ytbdiabakcgafgaa", sum := "459300bf64e82e786f9a0b1c1f07c5988180a5906f562690de786e51f43954d6", func := "cubbyhole/cubbyholelaw28.GhostFull", spec := "ghostFull", unfollowed := true, recurses := true, apart := false }
def GhostFullSaid : Prop := ghostFullRow.holds Try.pinned (OpenSpec.ofChange ghostFullSpec)

/-- ITS FALSE NEIGHBOUR: 'it returns false'. Refute it at one input. -/
def ghostFullWrong : ChangeSpec := { name := "ghostFull", fn := fun _ => fun
  | [d1, d2] => { results := [.lit (.bool false)], args := [d1, d2] }
  | _ => none }
def GhostFullWrongFalsely : Prop := ghostFullRow.holds Try.pinned (OpenSpec.ofChange ghostFullWrong)

/-- 'cubbyholelaw28.GhostNew': WHATEVER THE INPUT: true; the input reads as it did. -/
def ghostNewSpec : ChangeSpec := { name := "ghostNew", fn := fun _ => fun
  | [d] => { results := [.lit (.bool true)], args := [d] }
  | _ => none }
def ghostNewRow : OpenClaim := { program := "ytbdiabakcgafgaa", sum := "459300bf64e82e786f9a0b1c1f07c5988180a5906f562690de786e51f43954d6", func := "cubbyhole/cubbyholelaw28.GhostNew", spec := "ghostNew", unfollowed := true, recurses := true, apart := false }
def GhostNewSaid : Prop := ghostNewRow.holds Try.pinned (OpenSpec.ofChange ghostNewSpec)

/-- ITS FALSE NEIGHBOUR: 'it returns false'. Refute it at one input. -/
def ghostNewWrong : ChangeSpec := { name := "ghostNew", fn := fun _ => fun
  | [d] => { results := [.lit (.bool false)], args := [d] }
  | _ => none }
def GhostNewWrongFalsely : Prop := ghostNewRow.holds Try.pinned (OpenSpec.ofChange ghostNewWrong)

/-- 'cubbyholelaw28.GhostHolds': WHATEVER THE INPUT: true; the input reads as it did. -/
def ghostHoldsSpec : ChangeSpec := { name := "ghostHolds", fn := fun _ => fun
  | [d1, d2] => { results := [.lit (.bool true)], args := [d1, d2] }
  | _ => none }
def ghostHoldsRow : OpenClaim := { program := "ytbdiabakcgafgaa", sum := "459300bf64e82e786f9a0b1c1f07c5988180a5906f562690de786e51f43954d6", func := "cubbyhole/cubbyholelaw28.GhostHolds", spec := "ghostHolds", unfollowed := true, recurses := true, apart := false }
def GhostHoldsSaid : Prop := ghostHoldsRow.holds Try.pinned (OpenSpec.ofChange ghostHoldsSpec)

/-- ITS FALSE NEIGHBOUR: 'it returns false'. Refute it at one input. -/
def ghostHoldsWrong : ChangeSpec := { name := "ghostHolds", fn := fun _ => fun
  | [d1, d2] => { results := [.lit (.bool false)], args := [d1, d2] }
  | _ => none }
def GhostHoldsWrongFalsely : Prop := ghostHoldsRow.holds Try.pinned (OpenSpec.ofChange ghostHoldsWrong)

/-- 'cubbyholelaw28.GhostPlays': WHATEVER THE INPUT: true; the input reads as it did. -/
def ghostPlaysSpec : ChangeSpec := { name := "ghostPlays", fn := fun _ => fun
  | [d1, d2] => { results := [.lit (.bool true)], args := [d1, d2] }
  | _ => none }
def ghostPlaysRow : OpenClaim := { program := "ytbdiabakcgafgaa", sum := "459300bf64e82e786f9a0b1c1f07c5988180a5906f562690de786e51f43954d6", func := "cubbyhole/cubbyholelaw28.GhostPlays", spec := "ghostPlays", inPlace := ["maps.clone"], unfollowed := true, recurses := true, apart := false }
def GhostPlaysSaid : Prop := ghostPlaysRow.holds Try.pinned (OpenSpec.ofChange ghostPlaysSpec)

/-- ITS FALSE NEIGHBOUR: 'it returns false'. Refute it at one input. -/
def ghostPlaysWrong : ChangeSpec := { name := "ghostPlays", fn := fun _ => fun
  | [d1, d2] => { results := [.lit (.bool false)], args := [d1, d2] }
  | _ => none }
def GhostPlaysWrongFalsely : Prop := ghostPlaysRow.holds Try.pinned (OpenSpec.ofChange ghostPlaysWrong)

/-- 'cubbyholelaw28.GhostNone': WHATEVER THE INPUT: true; the input reads as it did. -/
def ghostNoneSpec : ChangeSpec := { name := "ghostNone", fn := fun _ => fun
  | [d1, d2] => { results := [.lit (.bool true)], args := [d1, d2] }
  | _ => none }
def ghostNoneRow : OpenClaim := { program := "ytbdiabakcgafgaa", sum := "459300bf64e82e786f9a0b1c1f07c5988180a5906f562690de786e51f43954d6", func := "cubbyhole/cubbyholelaw28.GhostNone", spec := "ghostNone", inPlace := ["maps.clone"], unfollowed := true, recurses := true, apart := false }
def GhostNoneSaid : Prop := ghostNoneRow.holds Try.pinned (OpenSpec.ofChange ghostNoneSpec)

/-- ITS FALSE NEIGHBOUR: 'it returns false'. Refute it at one input. -/
def ghostNoneWrong : ChangeSpec := { name := "ghostNone", fn := fun _ => fun
  | [d1, d2] => { results := [.lit (.bool false)], args := [d1, d2] }
  | _ => none }
def GhostNoneWrongFalsely : Prop := ghostNoneRow.holds Try.pinned (OpenSpec.ofChange ghostNoneWrong)

/-- 'cubbyholelaw15.LruIterates': WHATEVER THE INPUT: true; the input reads as it did. -/
def lruIteratesSpec : ChangeSpec := { name := "lruIterates", fn := fun _ => fun
  | [d1, d2] => { results := [.lit (.bool true)], args := [d1, d2] }
  | _ => none }
def lruIteratesRow : OpenClaim := { program := "ytbdiabakcgafgaa", sum := "459300bf64e82e786f9a0b1c1f07c5988180a5906f562690de786e51f43954d6", func := "cubbyhole/cubbyholelaw15.LruIterates", spec := "lruIterates", unfollowed := true, recurses := true, apart := false }
def LruIteratesSaid : Prop := lruIteratesRow.holds Try.pinned (OpenSpec.ofChange lruIteratesSpec)

/-- ITS FALSE NEIGHBOUR: 'it returns false'. Refute it at one input. -/
def lruIteratesWrong : ChangeSpec := { name := "lruIterates", fn := fun _ => fun
  | [d1, d2] => { results := [.lit (.bool false)], args := [d1, d2] }
  | _ => none }
def LruIteratesWrongFalsely : Prop := lruIteratesRow.holds Try.pinned (OpenSpec.ofChange lruIteratesWrong)

/-- 'cubbyholelaw15.LruLast': WHATEVER THE INPUT: true; the input reads as it did. -/
def lruLastSpec : ChangeSpec := { name := "lruLast", fn := fun _ => fun
  | [d] => { results := [.lit (.bool true)], args := [d] }
  | _ => none }
def lruLastRow : OpenClaim := { program := "ytbdiabakcgafgaa", sum := "459300bf64e82e786f9a0b1c1f07c5988180a5906f562690de786e51f43954d6", func := "cubbyhole/cubbyholelaw15.LruLast", spec := "lruLast", unfollowed := true, recurses := true, apart := false }
def LruLastSaid : Prop := lruLastRow.holds Try.pinned (OpenSpec.ofChange lruLastSpec)

/-- ITS FALSE NEIGHBOUR: 'it returns false'. Refute it at one input. -/
def lruLastWrong : ChangeSpec := { name := "lruLast", fn := fun _ => fun
  | [d] => { results := [.lit (.bool false)], args := [d] }
  | _ => none }
def LruLastWrongFalsely : Prop := lruLastRow.holds Try.pinned (OpenSpec.ofChange lruLastWrong)

/-- 'cubbyholelaw15.LruHolds': WHATEVER THE INPUT: true; the input reads as it did. -/
def lruHoldsSpec : ChangeSpec := { name := "lruHolds", fn := fun _ => fun
  | [d1, d2, d3] => { results := [.lit (.bool true)], args := [d1, d2, d3] }
  | _ => none }
def lruHoldsRow : OpenClaim := { program := "ytbdiabakcgafgaa", sum := "459300bf64e82e786f9a0b1c1f07c5988180a5906f562690de786e51f43954d6", func := "cubbyhole/cubbyholelaw15.LruHolds", spec := "lruHolds", unfollowed := true, recurses := true, apart := false }
def LruHoldsSaid : Prop := lruHoldsRow.holds Try.pinned (OpenSpec.ofChange lruHoldsSpec)

/-- ITS FALSE NEIGHBOUR: 'it returns false'. Refute it at one input. -/
def lruHoldsWrong : ChangeSpec := { name := "lruHolds", fn := fun _ => fun
  | [d1, d2, d3] => { results := [.lit (.bool false)], args := [d1, d2, d3] }
  | _ => none }
def LruHoldsWrongFalsely : Prop := lruHoldsRow.holds Try.pinned (OpenSpec.ofChange lruHoldsWrong)

/-- 'cubbyholelaw15.LruPlays': WHATEVER THE INPUT: true; the input reads as it did. -/
def lruPlaysSpec : ChangeSpec := { name := "lruPlays", fn := fun _ => fun
  | [d] => { results := [.lit (.bool true)], args := [d] }
  | _ => none }
def lruPlaysRow : OpenClaim := { program := "ytbdiabakcgafgaa", sum := "459300bf64e82e786f9a0b1c1f07c5988180a5906f562690de786e51f43954d6", func := "cubbyhole/cubbyholelaw15.LruPlays", spec := "lruPlays", unfollowed := true, recurses := true, apart := false }
def LruPlaysSaid : Prop := lruPlaysRow.holds Try.pinned (OpenSpec.ofChange lruPlaysSpec)

/-- ITS FALSE NEIGHBOUR: 'it returns false'. Refute it at one input. -/
def lruPlaysWrong : ChangeSpec := { name := "lruPlays", fn := fun _ => fun
  | [d] => { results := [.lit (.bool false)], args := [d] }
  | _ => none }
def LruPlaysWrongFalsely : Prop := lruPlaysRow.holds Try.pinned (OpenSpec.ofChange lruPlaysWrong)

/-- 'cubbyholelaw15.LruNil': WHATEVER THE INPUT: true; the input reads as it did. -/
def lruNilSpec : ChangeSpec := { name := "lruNil", fn := fun _ => fun
  | [d] => { results := [.lit (.bool true)], args := [d] }
  | _ => none }
def lruNilRow : OpenClaim := { program := "ytbdiabakcgafgaa", sum := "459300bf64e82e786f9a0b1c1f07c5988180a5906f562690de786e51f43954d6", func := "cubbyhole/cubbyholelaw15.LruNil", spec := "lruNil", unfollowed := true, recurses := true, apart := false }
def LruNilSaid : Prop := lruNilRow.holds Try.pinned (OpenSpec.ofChange lruNilSpec)

/-- ITS FALSE NEIGHBOUR: 'it returns false'. Refute it at one input. -/
def lruNilWrong : ChangeSpec := { name := "lruNil", fn := fun _ => fun
  | [d] => { results := [.lit (.bool false)], args := [d] }
  | _ => none }
def LruNilWrongFalsely : Prop := lruNilRow.holds Try.pinned (OpenSpec.ofChange lruNilWrong)

/- THE SECOND FORM. 'bulk': how many values and letters a reading holds, each counted each time it is reached (what is shared counts as often as it is met; a slice's spare places count too). A statement '..UptoSaid' is the law's where the arguments, and the package variables that the reading takes, are together of bulk at most 1048576: NARROWER than '..Said'. Prove '..Said' where nothing that the law and all that it calls make is longer than what came in: it says more and counts as full. Else prove '..UptoSaid'. A law counts once. -/
mutual
def uptoBulk {H : Type} : DataW H → Nat
  | .lit (.string bytes) => bytes.length + 1
  | .lit _ => 1
  | .nil => 1
  | .ptr d => uptoBulk d + 1
  | .slice elems spare => uptoBulkAll elems + uptoBulkAll spare + 1
  | .agg parts => uptoBulkAll parts + 1
  | .iface _ d => uptoBulk d + 1
  | .map entries => uptoBulkEntries entries + 1
  | .held _ => 1
def uptoBulkAll {H : Type} : List (DataW H) → Nat
  | [] => 0
  | d :: r => uptoBulk d + uptoBulkAll r
def uptoBulkEntries {H : Type} : List (Lit × DataW H) → Nat
  | [] => 0
  | x :: r => uptoBulkEntry x + uptoBulkEntries r
def uptoBulkEntry {H : Type} : Lit × DataW H → Nat
  | (.string bytes, d) => bytes.length + uptoBulk d + 1
  | (_, d) => uptoBulk d + 1
 end
def uptoSmall : (H : Type) → List (DataW H) → Bool := fun _ ds => decide (uptoBulkAll ds ≤ 1048576)
def OpenSpec.upto (s : _root_.Go.ChangeSpec) : _root_.Go.OpenSpec := { _root_.Go.OpenSpec.ofChange s with cond := some uptoSmall }

/-- 'cubbyholelaw28.GhostFull', WHERE WHAT IT READS IS OF BULK AT MOST 1048576: true; the input reads as it did. -/
def ghostFullUptoRow : OpenClaim := { program := "ytbdiabakcgafgaa", sum := "459300bf64e82e786f9a0b1c1f07c5988180a5906f562690de786e51f43954d6", func := "cubbyhole/cubbyholelaw28.GhostFull", spec := "ghostFull", unfollowed := true, recurses := true, apart := false, narrowed := true }
def GhostFullUptoSaid : Prop := ghostFullUptoRow.holds Try.pinned (OpenSpec.upto ghostFullSpec)

/-- 'cubbyholelaw28.GhostNew', WHERE WHAT IT READS IS OF BULK AT MOST 1048576: true; the input reads as it did. -/
def ghostNewUptoRow : OpenClaim := { program := "ytbdiabakcgafgaa", sum := "459300bf64e82e786f9a0b1c1f07c5988180a5906f562690de786e51f43954d6", func := "cubbyhole/cubbyholelaw28.GhostNew", spec := "ghostNew", unfollowed := true, recurses := true, apart := false, narrowed := true }
def GhostNewUptoSaid : Prop := ghostNewUptoRow.holds Try.pinned (OpenSpec.upto ghostNewSpec)

/-- 'cubbyholelaw28.GhostHolds', WHERE WHAT IT READS IS OF BULK AT MOST 1048576: true; the input reads as it did. -/
def ghostHoldsUptoRow : OpenClaim := { program := "ytbdiabakcgafgaa", sum := "459300bf64e82e786f9a0b1c1f07c5988180a5906f562690de786e51f43954d6", func := "cubbyhole/cubbyholelaw28.GhostHolds", spec := "ghostHolds", unfollowed := true, recurses := true, apart := false, narrowed := true }
def GhostHoldsUptoSaid : Prop := ghostHoldsUptoRow.holds Try.pinned (OpenSpec.upto ghostHoldsSpec)

/-- 'cubbyholelaw28.GhostPlays', WHERE WHAT IT READS IS OF BULK AT MOST 1048576: true; the input reads as it did. -/
def ghostPlaysUptoRow : OpenClaim := { program := "ytbdiabakcgafgaa", sum := "459300bf64e82e786f9a0b1c1f07c5988180a5906f562690de786e51f43954d6", func := "cubbyhole/cubbyholelaw28.GhostPlays", spec := "ghostPlays", inPlace := ["maps.clone"], unfollowed := true, recurses := true, apart := false, narrowed := true }
def GhostPlaysUptoSaid : Prop := ghostPlaysUptoRow.holds Try.pinned (OpenSpec.upto ghostPlaysSpec)

/-- 'cubbyholelaw28.GhostNone', WHERE WHAT IT READS IS OF BULK AT MOST 1048576: true; the input reads as it did. -/
def ghostNoneUptoRow : OpenClaim := { program := "ytbdiabakcgafgaa", sum := "459300bf64e82e786f9a0b1c1f07c5988180a5906f562690de786e51f43954d6", func := "cubbyhole/cubbyholelaw28.GhostNone", spec := "ghostNone", inPlace := ["maps.clone"], unfollowed := true, recurses := true, apart := false, narrowed := true }
def GhostNoneUptoSaid : Prop := ghostNoneUptoRow.holds Try.pinned (OpenSpec.upto ghostNoneSpec)

/-- 'cubbyholelaw15.LruIterates', WHERE WHAT IT READS IS OF BULK AT MOST 1048576: true; the input reads as it did. -/
def lruIteratesUptoRow : OpenClaim := { program := "ytbdiabakcgafgaa", sum := "459300bf64e82e786f9a0b1c1f07c5988180a5906f562690de786e51f43954d6", func := "cubbyhole/cubbyholelaw15.LruIterates", spec := "lruIterates", unfollowed := true, recurses := true, apart := false, narrowed := true }
def LruIteratesUptoSaid : Prop := lruIteratesUptoRow.holds Try.pinned (OpenSpec.upto lruIteratesSpec)

/-- 'cubbyholelaw15.LruLast', WHERE WHAT IT READS IS OF BULK AT MOST 1048576: true; the input reads as it did. -/
def lruLastUptoRow : OpenClaim := { program := "ytbdiabakcgafgaa", sum := "459300bf64e82e786f9a0b1c1f07c5988180a5906f562690de786e51f43954d6", func := "cubbyhole/cubbyholelaw15.LruLast", spec := "lruLast", unfollowed := true, recurses := true, apart := false, narrowed := true }
def LruLastUptoSaid : Prop := lruLastUptoRow.holds Try.pinned (OpenSpec.upto lruLastSpec)

/-- 'cubbyholelaw15.LruHolds', WHERE WHAT IT READS IS OF BULK AT MOST 1048576: true; the input reads as it did. -/
def lruHoldsUptoRow : OpenClaim := { program := "ytbdiabakcgafgaa", sum := "459300bf64e82e786f9a0b1c1f07c5988180a5906f562690de786e51f43954d6", func := "cubbyhole/cubbyholelaw15.LruHolds", spec := "lruHolds", unfollowed := true, recurses := true, apart := false, narrowed := true }
def LruHoldsUptoSaid : Prop := lruHoldsUptoRow.holds Try.pinned (OpenSpec.upto lruHoldsSpec)

/-- 'cubbyholelaw15.LruPlays', WHERE WHAT IT READS IS OF BULK AT MOST 1048576: true; the input reads as it did. -/
def lruPlaysUptoRow : OpenClaim := { program := "ytbdiabakcgafgaa", sum := "459300bf64e82e786f9a0b1c1f07c5988180a5906f562690de786e51f43954d6", func := "cubbyhole/cubbyholelaw15.LruPlays", spec := "lruPlays", unfollowed := true, recurses := true, apart := false, narrowed := true }
def LruPlaysUptoSaid : Prop := lruPlaysUptoRow.holds Try.pinned (OpenSpec.upto lruPlaysSpec)

/-- 'cubbyholelaw15.LruNil', WHERE WHAT IT READS IS OF BULK AT MOST 1048576: true; the input reads as it did. -/
def lruNilUptoRow : OpenClaim := { program := "ytbdiabakcgafgaa", sum := "459300bf64e82e786f9a0b1c1f07c5988180a5906f562690de786e51f43954d6", func := "cubbyhole/cubbyholelaw15.LruNil", spec := "lruNil", unfollowed := true, recurses := true, apart := false, narrowed := true }
def LruNilUptoSaid : Prop := lruNilUptoRow.holds Try.pinned (OpenSpec.upto lruNilSpec)

end Rows
end Go.Proofs.Ytbdiabakcgafgaa
