/-
  DERIVED. GIVEN WITH THE SEED: THE CARDS: each row of YtcioejacijkbcaaGreatDoorRows.lean that lists a variable, with what it lists TIED to the program's text (the seventh form; the later family's looks); each row that meets fmt, with fmt's text TOLD by the authors' own Lean function (tested against real Go, not proved from fmt's source: count such statements apart). THE CARD IS WHAT COUNTS. Prove the row's statement (the work); the ties are given (YtcioejacijkbcaaGreatDoorTie.lean); close each card by the builder's one call (the guide's Derived/Test/ToyasCard.lean, 'card_holds'). Laid BY PROGRAM, IN A SANDBOX (cutbox-door.mjs). By AI agents, Wed Nov 11 2026. No macro, syntax, notation, axiom, sorry.
-/
import Derived.Test.YtcioejacijkbcaaGreatDoorRows
import GoSem.ClaimSeven
namespace Go.Proofs.YtcioejacijkbcaaGreatDoor
namespace Rows

/-- THE TIED CARD OF 'postroadlaw12.SeglogRolls'. -/
def seglogRollsCard : Claim7 := { stood := { row := seglogRollsRow, standIns := [], harness := (true, "234712eecf273bc1852534a1244bb336f8255ea89dc97cd0801783789307d49c"), looks := true }, kinds := [], alts := [], laidByText := true, laidKinds := [.data, .data, .data, .data, .sentinel, .sentinel, .pinned], laidTests := true, laidLooks := .later }
def SeglogRollsCardSaid : Prop := Claim7.holds Tryz.pinned (.plain (OpenSpec.ofChange seglogRollsSpec)) seglogRollsCard

/-- THE TIED CARD OF 'postroadlaw12.SeglogNobody'. -/
def seglogNobodyCard : Claim7 := { stood := { row := seglogNobodyRow, standIns := [], harness := (true, "234712eecf273bc1852534a1244bb336f8255ea89dc97cd0801783789307d49c"), looks := true }, kinds := [], alts := [], laidByText := true, laidKinds := [.data, .data, .data, .data, .sentinel, .sentinel, .pinned], laidTests := true, laidLooks := .later }
def SeglogNobodyCardSaid : Prop := Claim7.holds Tryz.pinned (.plain (OpenSpec.ofChange seglogNobodySpec)) seglogNobodyCard

/-- THE SECOND FORM's CARD OF 'postroadlaw12.SeglogRolls'. -/
def seglogRollsUptoCard : Claim7 := { stood := { row := seglogRollsUptoRow, standIns := [], harness := (true, "234712eecf273bc1852534a1244bb336f8255ea89dc97cd0801783789307d49c"), looks := true }, kinds := [], alts := [], laidByText := true, laidKinds := [.data, .data, .data, .data, .sentinel, .sentinel, .pinned], laidTests := true, laidLooks := .later }
def SeglogRollsUptoCardSaid : Prop := Claim7.holds Tryz.pinned (.plain (OpenSpec.upto seglogRollsSpec)) seglogRollsUptoCard

/-- THE SECOND FORM's CARD OF 'postroadlaw12.SeglogNobody'. -/
def seglogNobodyUptoCard : Claim7 := { stood := { row := seglogNobodyUptoRow, standIns := [], harness := (true, "234712eecf273bc1852534a1244bb336f8255ea89dc97cd0801783789307d49c"), looks := true }, kinds := [], alts := [], laidByText := true, laidKinds := [.data, .data, .data, .data, .sentinel, .sentinel, .pinned], laidTests := true, laidLooks := .later }
def SeglogNobodyUptoCardSaid : Prop := Claim7.holds Tryz.pinned (.plain (OpenSpec.upto seglogNobodySpec)) seglogNobodyUptoCard
end Rows
end Go.Proofs.YtcioejacijkbcaaGreatDoor
