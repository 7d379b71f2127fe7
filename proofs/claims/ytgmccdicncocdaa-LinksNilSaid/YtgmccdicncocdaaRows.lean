/-
  No cell of these rows narrows 'for every input' (looked for: loops, veiled, ifaces, maps, wideKeys, modest, calm, conditions, laid).
  DERIVED. THE GIVEN ROWS OF THIS SEAT. 6 by the template 'for every input the law returns true; each argument reads behind the call as it read before'; 0 by the template 'total and deterministic' (their statements: YtgmccdicncocdaaTotals.lean).
  GIVEN WITH THE SEED: the statements are not yours to turn. If you find one false, say at which input.
  Laid BY PROGRAM, IN A SANDBOX (cutbox-rows.mjs): the forced cells as the released guide's own fill.sh prints them over the translation e1cade83cfc63a25… (all of the seat's roots in one cut). By AI agents, Wed Nov 11 2026. No macro, syntax, notation, axiom, sorry.
-/
import Derived.Test.YtgmccdicncocdaaChecked
import GoSem.Claim
import GoSem.ClaimJoined
import GoSem.ClaimMapViews
import Derived.JoinedTies
import Derived.KernelRfl
namespace Go.Proofs.Ytgmccdicncocdaa
/- THE CELL 'sum', in the pinned program and in every row, IS THE sha256 OF THE DUMP (.gsa) THAT YtgmccdicncocdaaProg.lean LOADS. Nothing in Lean hashes anything: it is a label: what it is worth is what the hold of that sum in a sandbox is worth. -/
noncomputable def Try.pinned : Pinned := { name := "ytgmccdicncocdaa", sum := "e1cade83cfc63a25331b383ddc0579c98ba0f594b5010075ee9d1810ecbea1ae", checked := Try.checked }
namespace Rows
def none {H : Type} : Left H := { results := [], args := [] }

/-- 'cubbyholelaw14.LinksIterates': WHATEVER THE INPUT: true; the input reads as it did. -/
def linksIteratesSpec : ChangeSpec := { name := "linksIterates", fn := fun _ => fun
  | [d1, d2, d3] => { results := [.lit (.bool true)], args := [d1, d2, d3] }
  | _ => none }
def linksIteratesRow : OpenClaim := { program := "ytgmccdicncocdaa", sum := "e1cade83cfc63a25331b383ddc0579c98ba0f594b5010075ee9d1810ecbea1ae", func := "cubbyhole/cubbyholelaw14.LinksIterates", spec := "linksIterates", unfollowed := true, recurses := true, apart := false }
def LinksIteratesSaid : Prop := linksIteratesRow.holds Try.pinned (OpenSpec.ofChange linksIteratesSpec)

/-- ITS FALSE NEIGHBOUR: 'it returns false'. Refute it at one input. -/
def linksIteratesWrong : ChangeSpec := { name := "linksIterates", fn := fun _ => fun
  | [d1, d2, d3] => { results := [.lit (.bool false)], args := [d1, d2, d3] }
  | _ => none }
def LinksIteratesWrongFalsely : Prop := linksIteratesRow.holds Try.pinned (OpenSpec.ofChange linksIteratesWrong)

/-- 'cubbyholelaw14.LinksMany': WHATEVER THE INPUT: true; the input reads as it did. -/
def linksManySpec : ChangeSpec := { name := "linksMany", fn := fun _ => fun
  | [d1, d2] => { results := [.lit (.bool true)], args := [d1, d2] }
  | _ => none }
def linksManyRow : OpenClaim := { program := "ytgmccdicncocdaa", sum := "e1cade83cfc63a25331b383ddc0579c98ba0f594b5010075ee9d1810ecbea1ae", func := "cubbyhole/cubbyholelaw14.LinksMany", spec := "linksMany", unfollowed := true, recurses := true, apart := false }
def LinksManySaid : Prop := linksManyRow.holds Try.pinned (OpenSpec.ofChange linksManySpec)

/-- ITS FALSE NEIGHBOUR: 'it returns false'. Refute it at one input. -/
def linksManyWrong : ChangeSpec := { name := "linksMany", fn := fun _ => fun
  | [d1, d2] => { results := [.lit (.bool false)], args := [d1, d2] }
  | _ => none }
def LinksManyWrongFalsely : Prop := linksManyRow.holds Try.pinned (OpenSpec.ofChange linksManyWrong)

/-- 'cubbyholelaw14.LinksHolds': WHATEVER THE INPUT: true; the input reads as it did. -/
def linksHoldsSpec : ChangeSpec := { name := "linksHolds", fn := fun _ => fun
  | [d1, d2, d3, d4] => { results := [.lit (.bool true)], args := [d1, d2, d3, d4] }
  | _ => none }
def linksHoldsRow : OpenClaim := { program := "ytgmccdicncocdaa", sum := "e1cade83cfc63a25331b383ddc0579c98ba0f594b5010075ee9d1810ecbea1ae", func := "cubbyhole/cubbyholelaw14.LinksHolds", spec := "linksHolds", unfollowed := true, recurses := true, apart := false }
def LinksHoldsSaid : Prop := linksHoldsRow.holds Try.pinned (OpenSpec.ofChange linksHoldsSpec)

/-- ITS FALSE NEIGHBOUR: 'it returns false'. Refute it at one input. -/
def linksHoldsWrong : ChangeSpec := { name := "linksHolds", fn := fun _ => fun
  | [d1, d2, d3, d4] => { results := [.lit (.bool false)], args := [d1, d2, d3, d4] }
  | _ => none }
def LinksHoldsWrongFalsely : Prop := linksHoldsRow.holds Try.pinned (OpenSpec.ofChange linksHoldsWrong)

/-- 'cubbyholelaw14.LinksNew': WHATEVER THE INPUT: true; the input reads as it did. -/
def linksNewSpec : ChangeSpec := { name := "linksNew", fn := fun _ => fun
  | [d1, d2] => { results := [.lit (.bool true)], args := [d1, d2] }
  | _ => none }
def linksNewRow : OpenClaim := { program := "ytgmccdicncocdaa", sum := "e1cade83cfc63a25331b383ddc0579c98ba0f594b5010075ee9d1810ecbea1ae", func := "cubbyhole/cubbyholelaw14.LinksNew", spec := "linksNew", unfollowed := true, recurses := true, apart := false }
def LinksNewSaid : Prop := linksNewRow.holds Try.pinned (OpenSpec.ofChange linksNewSpec)

/-- ITS FALSE NEIGHBOUR: 'it returns false'. Refute it at one input. -/
def linksNewWrong : ChangeSpec := { name := "linksNew", fn := fun _ => fun
  | [d1, d2] => { results := [.lit (.bool false)], args := [d1, d2] }
  | _ => none }
def LinksNewWrongFalsely : Prop := linksNewRow.holds Try.pinned (OpenSpec.ofChange linksNewWrong)

/-- 'cubbyholelaw14.LinksPlays': WHATEVER THE INPUT: true; the input reads as it did. -/
def linksPlaysSpec : ChangeSpec := { name := "linksPlays", fn := fun _ => fun
  | [d1, d2, d3] => { results := [.lit (.bool true)], args := [d1, d2, d3] }
  | _ => none }
def linksPlaysRow : OpenClaim := { program := "ytgmccdicncocdaa", sum := "e1cade83cfc63a25331b383ddc0579c98ba0f594b5010075ee9d1810ecbea1ae", func := "cubbyhole/cubbyholelaw14.LinksPlays", spec := "linksPlays", unfollowed := true, recurses := true, apart := false }
def LinksPlaysSaid : Prop := linksPlaysRow.holds Try.pinned (OpenSpec.ofChange linksPlaysSpec)

/-- ITS FALSE NEIGHBOUR: 'it returns false'. Refute it at one input. -/
def linksPlaysWrong : ChangeSpec := { name := "linksPlays", fn := fun _ => fun
  | [d1, d2, d3] => { results := [.lit (.bool false)], args := [d1, d2, d3] }
  | _ => none }
def LinksPlaysWrongFalsely : Prop := linksPlaysRow.holds Try.pinned (OpenSpec.ofChange linksPlaysWrong)

/-- 'cubbyholelaw14.LinksNil': WHATEVER THE INPUT: true; the input reads as it did. -/
def linksNilSpec : ChangeSpec := { name := "linksNil", fn := fun _ => fun
  | [d1, d2] => { results := [.lit (.bool true)], args := [d1, d2] }
  | _ => none }
def linksNilRow : OpenClaim := { program := "ytgmccdicncocdaa", sum := "e1cade83cfc63a25331b383ddc0579c98ba0f594b5010075ee9d1810ecbea1ae", func := "cubbyhole/cubbyholelaw14.LinksNil", spec := "linksNil", unfollowed := true, recurses := true, apart := false }
def LinksNilSaid : Prop := linksNilRow.holds Try.pinned (OpenSpec.ofChange linksNilSpec)

/-- ITS FALSE NEIGHBOUR: 'it returns false'. Refute it at one input. -/
def linksNilWrong : ChangeSpec := { name := "linksNil", fn := fun _ => fun
  | [d1, d2] => { results := [.lit (.bool false)], args := [d1, d2] }
  | _ => none }
def LinksNilWrongFalsely : Prop := linksNilRow.holds Try.pinned (OpenSpec.ofChange linksNilWrong)

/- THE SECOND FORM. 'bulk': how many values and letters a reading holds, each counted each time it is reached (what is shared counts as often as it is met; a slice's spare places count too). A statement '..UptoSaid' is the law's where the arguments, and the package variables that the reading takes, are together of bulk at most 1048576: NARROWER than '..Said'. Prove '..Said' where nothing that the law and all that it calls make is longer than what came in: it says more and counts as full. Else prove '..UptoSaid'. A law counts once. -/
mutual
def uptoBulk {H : Type} : DataW H → Nat
  | .lit (.string bytes) => bytes.length + 1
  | .lit _ => 1
  | .nil => 1
  | .ptr d => uptoBulk d + 1
  | .slice elems spare => uptoBulkAll elems + uptoBulkAll spare + 1
  | .agg parts => uptoBulkAll parts + 1
  | .iface _ d => uptoBulk d + 1
  | .map entries => uptoBulkEntries entries + 1
  | .held _ => 1
def uptoBulkAll {H : Type} : List (DataW H) → Nat
  | [] => 0
  | d :: r => uptoBulk d + uptoBulkAll r
def uptoBulkEntries {H : Type} : List (Lit × DataW H) → Nat
  | [] => 0
  | x :: r => uptoBulkEntry x + uptoBulkEntries r
def uptoBulkEntry {H : Type} : Lit × DataW H → Nat
  | (.string bytes, d) => bytes.length + uptoBulk d + 1
  | (_, d) => uptoBulk d + 1
 end
def uptoSmall : (H : Type) → List (DataW H) → Bool := fun _ ds => decide (uptoBulkAll ds ≤ 1048576)
def OpenSpec.upto (s : _root_.Go.ChangeSpec) : _root_.Go.OpenSpec := { _root_.Go.OpenSpec.ofChange s with cond := some uptoSmall }

/-- 'cubbyholelaw14.LinksIterates', WHERE WHAT IT READS IS OF BULK AT MOST 1048576: true; the input reads as it did. -/
def linksIteratesUptoRow : OpenClaim := { program := "ytgmccdicncocdaa", sum := "e1cade83cfc63a25331b383ddc0579c98ba0f594b5010075ee9d1810ecbea1ae", func := "cubbyhole/cubbyholelaw14.LinksIterates", spec := "linksIterates", unfollowed := true, recurses := true, apart := false, narrowed := true }
def LinksIteratesUptoSaid : Prop := linksIteratesUptoRow.holds Try.pinned (OpenSpec.upto linksIteratesSpec)

/-- 'cubbyholelaw14.LinksMany', WHERE WHAT IT READS IS OF BULK AT MOST 1048576: true; the input reads as it did. -/
def linksManyUptoRow : OpenClaim := { program := "ytgmccdicncocdaa", sum := "e1cade83cfc63a25331b383ddc0579c98ba0f594b5010075ee9d1810ecbea1ae", func := "cubbyhole/cubbyholelaw14.LinksMany", spec := "linksMany", unfollowed := true, recurses := true, apart := false, narrowed := true }
def LinksManyUptoSaid : Prop := linksManyUptoRow.holds Try.pinned (OpenSpec.upto linksManySpec)

/-- 'cubbyholelaw14.LinksHolds', WHERE WHAT IT READS IS OF BULK AT MOST 1048576: true; the input reads as it did. -/
def linksHoldsUptoRow : OpenClaim := { program := "ytgmccdicncocdaa", sum := "e1cade83cfc63a25331b383ddc0579c98ba0f594b5010075ee9d1810ecbea1ae", func := "cubbyhole/cubbyholelaw14.LinksHolds", spec := "linksHolds", unfollowed := true, recurses := true, apart := false, narrowed := true }
def LinksHoldsUptoSaid : Prop := linksHoldsUptoRow.holds Try.pinned (OpenSpec.upto linksHoldsSpec)

/-- 'cubbyholelaw14.LinksNew', WHERE WHAT IT READS IS OF BULK AT MOST 1048576: true; the input reads as it did. -/
def linksNewUptoRow : OpenClaim := { program := "ytgmccdicncocdaa", sum := "e1cade83cfc63a25331b383ddc0579c98ba0f594b5010075ee9d1810ecbea1ae", func := "cubbyhole/cubbyholelaw14.LinksNew", spec := "linksNew", unfollowed := true, recurses := true, apart := false, narrowed := true }
def LinksNewUptoSaid : Prop := linksNewUptoRow.holds Try.pinned (OpenSpec.upto linksNewSpec)

/-- 'cubbyholelaw14.LinksPlays', WHERE WHAT IT READS IS OF BULK AT MOST 1048576: true; the input reads as it did. -/
def linksPlaysUptoRow : OpenClaim := { program := "ytgmccdicncocdaa", sum := "e1cade83cfc63a25331b383ddc0579c98ba0f594b5010075ee9d1810ecbea1ae", func := "cubbyhole/cubbyholelaw14.LinksPlays", spec := "linksPlays", unfollowed := true, recurses := true, apart := false, narrowed := true }
def LinksPlaysUptoSaid : Prop := linksPlaysUptoRow.holds Try.pinned (OpenSpec.upto linksPlaysSpec)

/-- 'cubbyholelaw14.LinksNil', WHERE WHAT IT READS IS OF BULK AT MOST 1048576: true; the input reads as it did. -/
def linksNilUptoRow : OpenClaim := { program := "ytgmccdicncocdaa", sum := "e1cade83cfc63a25331b383ddc0579c98ba0f594b5010075ee9d1810ecbea1ae", func := "cubbyhole/cubbyholelaw14.LinksNil", spec := "linksNil", unfollowed := true, recurses := true, apart := false, narrowed := true }
def LinksNilUptoSaid : Prop := linksNilUptoRow.holds Try.pinned (OpenSpec.upto linksNilSpec)

end Rows
end Go.Proofs.Ytgmccdicncocdaa
