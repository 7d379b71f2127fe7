/-
  No cell of these rows narrows 'for every input' (looked for: loops, veiled, ifaces, maps, wideKeys, modest, calm, conditions, laid).
  DERIVED. THE GIVEN ROWS OF THIS SEAT. 5 by the template 'for every input the law returns true; each argument reads behind the call as it read before'; 0 by the template 'total and deterministic' (their statements: YtdpiglociolagaaGreatTotals.lean).
  GIVEN WITH THE SEED: the statements are not yours to turn. If you find one false, say at which input.
  Laid BY PROGRAM, IN A SANDBOX (cutbox-rows.mjs): the forced cells as the released guide's own fill.sh prints them over the translation dd2397f2cb556ff1… (all of the seat's roots in one cut). By AI agents, Wed Nov 11 2026. No macro, syntax, notation, axiom, sorry.
-/
import Derived.Test.YtdpiglociolagaaGreatChecked
import GoSem.Claim
import GoSem.ClaimJoined
import GoSem.ClaimMapViews
import Derived.JoinedTies
import Derived.KernelRfl
namespace Go.Proofs.YtdpiglociolagaaGreat
/- THE CELL 'sum', in the pinned program and in every row, IS THE sha256 OF THE DUMP (.gsa) THAT YtdpiglociolagaaGreatProg.lean LOADS. Nothing in Lean hashes anything: it is a label: what it is worth is what the hold of that sum in a sandbox is worth. -/
noncomputable def Tryz.pinned : Pinned := { name := "ytdpiglociolagaagreat", sum := "dd2397f2cb556ff1305fb1e9a894503eb5d99e2eb09987afbc95d03119b5e88d", checked := Tryz.checked }
namespace Rows
def none {H : Type} : Left H := { results := [], args := [] }

/-- 'cubbyholelaw35.TinyHolds': WHATEVER THE INPUT: true; the input reads as it did. -/
def tinyHoldsSpec : ChangeSpec := { name := "tinyHolds", fn := fun _ => fun
  | [d1, d2] => { results := [.lit (.bool true)], args := [d1, d2] }
  | _ => none }
def tinyHoldsRow : OpenClaim := { program := "ytdpiglociolagaagreat", sum := "dd2397f2cb556ff1305fb1e9a894503eb5d99e2eb09987afbc95d03119b5e88d", func := "cubbyhole/cubbyholelaw35.TinyHolds", spec := "tinyHolds", unfollowed := true, recurses := true, apart := false }
def TinyHoldsSaid : Prop := tinyHoldsRow.holds Tryz.pinned (OpenSpec.ofChange tinyHoldsSpec)

/-- ITS FALSE NEIGHBOUR: 'it returns false'. Refute it at one input. -/
def tinyHoldsWrong : ChangeSpec := { name := "tinyHolds", fn := fun _ => fun
  | [d1, d2] => { results := [.lit (.bool false)], args := [d1, d2] }
  | _ => none }
def TinyHoldsWrongFalsely : Prop := tinyHoldsRow.holds Tryz.pinned (OpenSpec.ofChange tinyHoldsWrong)

/-- 'cubbyholelaw35.TinyNew': WHATEVER THE INPUT: true; the input reads as it did. -/
def tinyNewSpec : ChangeSpec := { name := "tinyNew", fn := fun _ => fun
  | [d] => { results := [.lit (.bool true)], args := [d] }
  | _ => none }
def tinyNewRow : OpenClaim := { program := "ytdpiglociolagaagreat", sum := "dd2397f2cb556ff1305fb1e9a894503eb5d99e2eb09987afbc95d03119b5e88d", func := "cubbyhole/cubbyholelaw35.TinyNew", spec := "tinyNew", unfollowed := true, recurses := true, apart := false }
def TinyNewSaid : Prop := tinyNewRow.holds Tryz.pinned (OpenSpec.ofChange tinyNewSpec)

/-- ITS FALSE NEIGHBOUR: 'it returns false'. Refute it at one input. -/
def tinyNewWrong : ChangeSpec := { name := "tinyNew", fn := fun _ => fun
  | [d] => { results := [.lit (.bool false)], args := [d] }
  | _ => none }
def TinyNewWrongFalsely : Prop := tinyNewRow.holds Tryz.pinned (OpenSpec.ofChange tinyNewWrong)

/-- 'cubbyholelaw35.TinyPlays': WHATEVER THE INPUT: true; the input reads as it did. -/
def tinyPlaysSpec : ChangeSpec := { name := "tinyPlays", fn := fun _ => fun
  | [d1, d2] => { results := [.lit (.bool true)], args := [d1, d2] }
  | _ => none }
def tinyPlaysRow : OpenClaim := { program := "ytdpiglociolagaagreat", sum := "dd2397f2cb556ff1305fb1e9a894503eb5d99e2eb09987afbc95d03119b5e88d", func := "cubbyhole/cubbyholelaw35.TinyPlays", spec := "tinyPlays", inPlace := ["maps.clone"], unfollowed := true, recurses := true, apart := false }
def TinyPlaysSaid : Prop := tinyPlaysRow.holds Tryz.pinned (OpenSpec.ofChange tinyPlaysSpec)

/-- ITS FALSE NEIGHBOUR: 'it returns false'. Refute it at one input. -/
def tinyPlaysWrong : ChangeSpec := { name := "tinyPlays", fn := fun _ => fun
  | [d1, d2] => { results := [.lit (.bool false)], args := [d1, d2] }
  | _ => none }
def TinyPlaysWrongFalsely : Prop := tinyPlaysRow.holds Tryz.pinned (OpenSpec.ofChange tinyPlaysWrong)

/-- 'cubbyholelaw35.TinyOwn': WHATEVER THE INPUT: true; the input reads as it did. -/
def tinyOwnSpec : ChangeSpec := { name := "tinyOwn", fn := fun _ => fun
  | [d1, d2] => { results := [.lit (.bool true)], args := [d1, d2] }
  | _ => none }
def tinyOwnRow : OpenClaim := { program := "ytdpiglociolagaagreat", sum := "dd2397f2cb556ff1305fb1e9a894503eb5d99e2eb09987afbc95d03119b5e88d", func := "cubbyhole/cubbyholelaw35.TinyOwn", spec := "tinyOwn", inPlace := ["maps.clone"], unfollowed := true, recurses := true, apart := false }
def TinyOwnSaid : Prop := tinyOwnRow.holds Tryz.pinned (OpenSpec.ofChange tinyOwnSpec)

/-- ITS FALSE NEIGHBOUR: 'it returns false'. Refute it at one input. -/
def tinyOwnWrong : ChangeSpec := { name := "tinyOwn", fn := fun _ => fun
  | [d1, d2] => { results := [.lit (.bool false)], args := [d1, d2] }
  | _ => none }
def TinyOwnWrongFalsely : Prop := tinyOwnRow.holds Tryz.pinned (OpenSpec.ofChange tinyOwnWrong)

/-- 'cubbyholelaw35.TinyNone': WHATEVER THE INPUT: true; the input reads as it did. -/
def tinyNoneSpec : ChangeSpec := { name := "tinyNone", fn := fun _ => fun
  | [d] => { results := [.lit (.bool true)], args := [d] }
  | _ => none }
def tinyNoneRow : OpenClaim := { program := "ytdpiglociolagaagreat", sum := "dd2397f2cb556ff1305fb1e9a894503eb5d99e2eb09987afbc95d03119b5e88d", func := "cubbyhole/cubbyholelaw35.TinyNone", spec := "tinyNone", inPlace := ["maps.clone"], unfollowed := true, recurses := true, apart := false }
def TinyNoneSaid : Prop := tinyNoneRow.holds Tryz.pinned (OpenSpec.ofChange tinyNoneSpec)

/-- ITS FALSE NEIGHBOUR: 'it returns false'. Refute it at one input. -/
def tinyNoneWrong : ChangeSpec := { name := "tinyNone", fn := fun _ => fun
  | [d] => { results := [.lit (.bool false)], args := [d] }
  | _ => none }
def TinyNoneWrongFalsely : Prop := tinyNoneRow.holds Tryz.pinned (OpenSpec.ofChange tinyNoneWrong)

/- THE SECOND FORM. 'bulk': how many values and letters a reading holds, each counted each time it is reached (what is shared counts as often as it is met; a slice's spare places count too). A statement '..UptoSaid' is the law's where the arguments, and the package variables that the reading takes, are together of bulk at most 1048576: NARROWER than '..Said'. Prove '..Said' where nothing that the law and all that it calls make is longer than what came in: it says more and counts as full. Else prove '..UptoSaid'. A law counts once. -/
mutual
def uptoBulk {H : Type} : DataW H → Nat
  | .lit (.string bytes) => bytes.length + 1
  | .lit _ => 1
  | .nil => 1
  | .ptr d => uptoBulk d + 1
  | .slice elems spare => uptoBulkAll elems + uptoBulkAll spare + 1
  | .agg parts => uptoBulkAll parts + 1
  | .iface _ d => uptoBulk d + 1
  | .map entries => uptoBulkEntries entries + 1
  | .held _ => 1
def uptoBulkAll {H : Type} : List (DataW H) → Nat
  | [] => 0
  | d :: r => uptoBulk d + uptoBulkAll r
def uptoBulkEntries {H : Type} : List (Lit × DataW H) → Nat
  | [] => 0
  | x :: r => uptoBulkEntry x + uptoBulkEntries r
def uptoBulkEntry {H : Type} : Lit × DataW H → Nat
  | (.string bytes, d) => bytes.length + uptoBulk d + 1
  | (_, d) => uptoBulk d + 1
 end
def uptoSmall : (H : Type) → List (DataW H) → Bool := fun _ ds => decide (uptoBulkAll ds ≤ 1048576)
def OpenSpec.upto (s : _root_.Go.ChangeSpec) : _root_.Go.OpenSpec := { _root_.Go.OpenSpec.ofChange s with cond := some uptoSmall }

/-- 'cubbyholelaw35.TinyHolds', WHERE WHAT IT READS IS OF BULK AT MOST 1048576: true; the input reads as it did. -/
def tinyHoldsUptoRow : OpenClaim := { program := "ytdpiglociolagaagreat", sum := "dd2397f2cb556ff1305fb1e9a894503eb5d99e2eb09987afbc95d03119b5e88d", func := "cubbyhole/cubbyholelaw35.TinyHolds", spec := "tinyHolds", unfollowed := true, recurses := true, apart := false, narrowed := true }
def TinyHoldsUptoSaid : Prop := tinyHoldsUptoRow.holds Tryz.pinned (OpenSpec.upto tinyHoldsSpec)

/-- 'cubbyholelaw35.TinyNew', WHERE WHAT IT READS IS OF BULK AT MOST 1048576: true; the input reads as it did. -/
def tinyNewUptoRow : OpenClaim := { program := "ytdpiglociolagaagreat", sum := "dd2397f2cb556ff1305fb1e9a894503eb5d99e2eb09987afbc95d03119b5e88d", func := "cubbyhole/cubbyholelaw35.TinyNew", spec := "tinyNew", unfollowed := true, recurses := true, apart := false, narrowed := true }
def TinyNewUptoSaid : Prop := tinyNewUptoRow.holds Tryz.pinned (OpenSpec.upto tinyNewSpec)

/-- 'cubbyholelaw35.TinyPlays', WHERE WHAT IT READS IS OF BULK AT MOST 1048576: true; the input reads as it did. -/
def tinyPlaysUptoRow : OpenClaim := { program := "ytdpiglociolagaagreat", sum := "dd2397f2cb556ff1305fb1e9a894503eb5d99e2eb09987afbc95d03119b5e88d", func := "cubbyhole/cubbyholelaw35.TinyPlays", spec := "tinyPlays", inPlace := ["maps.clone"], unfollowed := true, recurses := true, apart := false, narrowed := true }
def TinyPlaysUptoSaid : Prop := tinyPlaysUptoRow.holds Tryz.pinned (OpenSpec.upto tinyPlaysSpec)

/-- 'cubbyholelaw35.TinyOwn', WHERE WHAT IT READS IS OF BULK AT MOST 1048576: true; the input reads as it did. -/
def tinyOwnUptoRow : OpenClaim := { program := "ytdpiglociolagaagreat", sum := "dd2397f2cb556ff1305fb1e9a894503eb5d99e2eb09987afbc95d03119b5e88d", func := "cubbyhole/cubbyholelaw35.TinyOwn", spec := "tinyOwn", inPlace := ["maps.clone"], unfollowed := true, recurses := true, apart := false, narrowed := true }
def TinyOwnUptoSaid : Prop := tinyOwnUptoRow.holds Tryz.pinned (OpenSpec.upto tinyOwnSpec)

/-- 'cubbyholelaw35.TinyNone', WHERE WHAT IT READS IS OF BULK AT MOST 1048576: true; the input reads as it did. -/
def tinyNoneUptoRow : OpenClaim := { program := "ytdpiglociolagaagreat", sum := "dd2397f2cb556ff1305fb1e9a894503eb5d99e2eb09987afbc95d03119b5e88d", func := "cubbyhole/cubbyholelaw35.TinyNone", spec := "tinyNone", inPlace := ["maps.clone"], unfollowed := true, recurses := true, apart := false, narrowed := true }
def TinyNoneUptoSaid : Prop := tinyNoneUptoRow.holds Tryz.pinned (OpenSpec.upto tinyNoneSpec)

end Rows
end Go.Proofs.YtdpiglociolagaaGreat
