/-
  DERIVED. GIVEN WITH THE SEED: THE CARDS: each row of YtmiblmoppdgnjaaDoorRows.lean that lists a variable, with what it lists TIED to the program's text (the seventh form; the later family's looks); each row that meets fmt, with fmt's text TOLD by the authors' own Lean function (tested against real Go, not proved from fmt's source: count such statements apart). THE CARD IS WHAT COUNTS. Prove the row's statement (the work); the ties are given (YtmiblmoppdgnjaaDoorTie.lean); close each card by the builder's one call (the guide's Derived/Test/ToyasCard.lean, 'card_holds'). Laid BY PROGRAM, IN A SANDBOX (cutbox-door.mjs). By AI agents, Wed Nov 11 2026. No macro, syntax, notation, axiom, sorry.
-/
import Derived.Test.YtmiblmoppdgnjaaDoorRows
import GoSem.ClaimSeven
namespace Go.Proofs.YtmiblmoppdgnjaaDoor
namespace Rows

/-- THE TIED CARD OF 'cubbyholelaw19.WheelNext'. -/
def wheelNextCard : Claim7 := { stood := { row := wheelNextRow, standIns := [], harness := (true, "8fa4c2c70ab5c7273606da16c36c8986e4febd1863b679c00e38d2657cf6b6fc"), looks := false }, kinds := [], alts := [], laidByText := true, laidKinds := [.data], laidTests := true, laidLooks := .later }
def WheelNextCardSaid : Prop := Claim7.holds Tryd.pinned (.plain (OpenSpec.ofChange wheelNextSpec)) wheelNextCard

/-- THE TIED CARD OF 'cubbyholelaw19.WheelLast'. -/
def wheelLastCard : Claim7 := { stood := { row := wheelLastRow, standIns := [], harness := (true, "8fa4c2c70ab5c7273606da16c36c8986e4febd1863b679c00e38d2657cf6b6fc"), looks := false }, kinds := [], alts := [], laidByText := true, laidKinds := [.data], laidTests := true, laidLooks := .later }
def WheelLastCardSaid : Prop := Claim7.holds Tryd.pinned (.plain (OpenSpec.ofChange wheelLastSpec)) wheelLastCard

/-- THE TIED CARD OF 'cubbyholelaw19.WheelHolds'. -/
def wheelHoldsCard : Claim7 := { stood := { row := wheelHoldsRow, standIns := [], harness := (true, "8fa4c2c70ab5c7273606da16c36c8986e4febd1863b679c00e38d2657cf6b6fc"), looks := false }, kinds := [], alts := [], laidByText := true, laidKinds := [.data], laidTests := true, laidLooks := .later }
def WheelHoldsCardSaid : Prop := Claim7.holds Tryd.pinned (.plain (OpenSpec.ofChange wheelHoldsSpec)) wheelHoldsCard

/-- THE TIED CARD OF 'cubbyholelaw19.WheelPlays'. -/
def wheelPlaysCard : Claim7 := { stood := { row := wheelPlaysRow, standIns := [], harness := (true, "8fa4c2c70ab5c7273606da16c36c8986e4febd1863b679c00e38d2657cf6b6fc"), looks := false }, kinds := [], alts := [], laidByText := true, laidKinds := [.data], laidTests := true, laidLooks := .later }
def WheelPlaysCardSaid : Prop := Claim7.holds Tryd.pinned (.plain (OpenSpec.ofChange wheelPlaysSpec)) wheelPlaysCard

/-- THE TIED CARD OF 'cubbyholelaw19.WheelNil'. -/
def wheelNilCard : Claim7 := { stood := { row := wheelNilRow, standIns := [], harness := (true, "8fa4c2c70ab5c7273606da16c36c8986e4febd1863b679c00e38d2657cf6b6fc"), looks := false }, kinds := [], alts := [], laidByText := true, laidKinds := [.data], laidTests := true, laidLooks := .later }
def WheelNilCardSaid : Prop := Claim7.holds Tryd.pinned (.plain (OpenSpec.ofChange wheelNilSpec)) wheelNilCard

/-- THE SECOND FORM's CARD OF 'cubbyholelaw19.WheelNext'. -/
def wheelNextUptoCard : Claim7 := { stood := { row := wheelNextUptoRow, standIns := [], harness := (true, "8fa4c2c70ab5c7273606da16c36c8986e4febd1863b679c00e38d2657cf6b6fc"), looks := false }, kinds := [], alts := [], laidByText := true, laidKinds := [.data], laidTests := true, laidLooks := .later }
def WheelNextUptoCardSaid : Prop := Claim7.holds Tryd.pinned (.plain (OpenSpec.upto wheelNextSpec)) wheelNextUptoCard

/-- THE SECOND FORM's CARD OF 'cubbyholelaw19.WheelLast'. -/
def wheelLastUptoCard : Claim7 := { stood := { row := wheelLastUptoRow, standIns := [], harness := (true, "8fa4c2c70ab5c7273606da16c36c8986e4febd1863b679c00e38d2657cf6b6fc"), looks := false }, kinds := [], alts := [], laidByText := true, laidKinds := [.data], laidTests := true, laidLooks := .later }
def WheelLastUptoCardSaid : Prop := Claim7.holds Tryd.pinned (.plain (OpenSpec.upto wheelLastSpec)) wheelLastUptoCard

/-- THE SECOND FORM's CARD OF 'cubbyholelaw19.WheelHolds'. -/
def wheelHoldsUptoCard : Claim7 := { stood := { row := wheelHoldsUptoRow, standIns := [], harness := (true, "8fa4c2c70ab5c7273606da16c36c8986e4febd1863b679c00e38d2657cf6b6fc"), looks := false }, kinds := [], alts := [], laidByText := true, laidKinds := [.data], laidTests := true, laidLooks := .later }
def WheelHoldsUptoCardSaid : Prop := Claim7.holds Tryd.pinned (.plain (OpenSpec.upto wheelHoldsSpec)) wheelHoldsUptoCard

/-- THE SECOND FORM's CARD OF 'cubbyholelaw19.WheelPlays'. -/
def wheelPlaysUptoCard : Claim7 := { stood := { row := wheelPlaysUptoRow, standIns := [], harness := (true, "8fa4c2c70ab5c7273606da16c36c8986e4febd1863b679c00e38d2657cf6b6fc"), looks := false }, kinds := [], alts := [], laidByText := true, laidKinds := [.data], laidTests := true, laidLooks := .later }
def WheelPlaysUptoCardSaid : Prop := Claim7.holds Tryd.pinned (.plain (OpenSpec.upto wheelPlaysSpec)) wheelPlaysUptoCard

/-- THE SECOND FORM's CARD OF 'cubbyholelaw19.WheelNil'. -/
def wheelNilUptoCard : Claim7 := { stood := { row := wheelNilUptoRow, standIns := [], harness := (true, "8fa4c2c70ab5c7273606da16c36c8986e4febd1863b679c00e38d2657cf6b6fc"), looks := false }, kinds := [], alts := [], laidByText := true, laidKinds := [.data], laidTests := true, laidLooks := .later }
def WheelNilUptoCardSaid : Prop := Claim7.holds Tryd.pinned (.plain (OpenSpec.upto wheelNilSpec)) wheelNilUptoCard
end Rows
end Go.Proofs.YtmiblmoppdgnjaaDoor
