/-
  No cell of these rows narrows 'for every input' (looked for: loops, veiled, ifaces, maps, wideKeys, modest, calm, conditions, laid).
  DERIVED. THE GIVEN ROWS OF THIS SEAT. 6 by the template 'for every input the law returns true; each argument reads behind the call as it read before'; 0 by the template 'total and deterministic' (their statements: YtpmalnhlbpdohaaTotals.lean).
  GIVEN WITH THE SEED: the statements are not yours to turn. If you find one false, say at which input.
  Laid BY PROGRAM, IN A SANDBOX (cutbox-rows.mjs): the forced cells as the released guide's own fill.sh prints them over the translation 6f635258817581f8… (all of the seat's roots in one cut). By AI agents, Wed Nov 11 2026. No macro, syntax, notation, axiom, sorry.
-/
import Derived.Test.YtpmalnhlbpdohaaChecked
import GoSem.Claim
import GoSem.ClaimJoined
import GoSem.ClaimMapViews
import Derived.JoinedTies
import Derived.KernelRfl
namespace Go.Proofs.Ytpmalnhlbpdohaa
/- THE CELL 'sum', in the pinned program and in every row, IS THE sha256 OF THE DUMP (.gsa) THAT YtpmalnhlbpdohaaProg.lean LOADS. Nothing in Lean hashes anything: it is a label: what it is worth is what the hold of that sum in a sandbox is worth. -/
noncomputable def Try.pinned : Pinned := { name := "ytpmalnhlbpdohaa", sum := "6f635258817581f8caf282462864005cc01784fb46ac801ee2480d59b50f3d0f", checked := Try.checked }
namespace Rows
def none {H : Type} : Left H := { results := [], args := [] }

/-- 'postroadlaw19.BoundGrows': WHATEVER THE INPUT: true; the input reads as it did. -/
def boundGrowsSpec : ChangeSpec := { name := "boundGrows", fn := fun _ => fun
  | [d1, d2, d3] => { results := [.lit (.bool true)], args := [d1, d2, d3] }
  | _ => none }
def boundGrowsRow : OpenClaim := { program := "ytpmalnhlbpdohaa", sum := "6f635258817581f8caf282462864005cc01784fb46ac801ee2480d59b50f3d0f", func := "postroad/postroadlaw19.BoundGrows", spec := "boundGrows", apart := false }
def BoundGrowsSaid : Prop := boundGrowsRow.holds Try.pinned (OpenSpec.ofChange boundGrowsSpec)

/-- ITS FALSE NEIGHBOUR: 'it returns false'. Refute it at one input. -/
def boundGrowsWrong : ChangeSpec := { name := "boundGrows", fn := fun _ => fun
  | [d1, d2, d3] => { results := [.lit (.bool false)], args := [d1, d2, d3] }
  | _ => none }
def BoundGrowsWrongFalsely : Prop := boundGrowsRow.holds Try.pinned (OpenSpec.ofChange boundGrowsWrong)

/-- 'postroadlaw19.BoundRounds': WHATEVER THE INPUT: true; the input reads as it did. -/
def boundRoundsSpec : ChangeSpec := { name := "boundRounds", fn := fun _ => fun
  | [d1, d2] => { results := [.lit (.bool true)], args := [d1, d2] }
  | _ => none }
def boundRoundsRow : OpenClaim := { program := "ytpmalnhlbpdohaa", sum := "6f635258817581f8caf282462864005cc01784fb46ac801ee2480d59b50f3d0f", func := "postroad/postroadlaw19.BoundRounds", spec := "boundRounds", apart := false }
def BoundRoundsSaid : Prop := boundRoundsRow.holds Try.pinned (OpenSpec.ofChange boundRoundsSpec)

/-- ITS FALSE NEIGHBOUR: 'it returns false'. Refute it at one input. -/
def boundRoundsWrong : ChangeSpec := { name := "boundRounds", fn := fun _ => fun
  | [d1, d2] => { results := [.lit (.bool false)], args := [d1, d2] }
  | _ => none }
def BoundRoundsWrongFalsely : Prop := boundRoundsRow.holds Try.pinned (OpenSpec.ofChange boundRoundsWrong)

/-- 'postroadlaw08.VdiskSurvives': WHATEVER THE INPUT: true; the input reads as it did. -/
def vdiskSurvivesSpec : ChangeSpec := { name := "vdiskSurvives", fn := fun _ => fun
  | [d1, d2, d3] => { results := [.lit (.bool true)], args := [d1, d2, d3] }
  | _ => none }
def vdiskSurvivesRow : OpenClaim := { program := "ytpmalnhlbpdohaa", sum := "6f635258817581f8caf282462864005cc01784fb46ac801ee2480d59b50f3d0f", func := "postroad/postroadlaw08.VdiskSurvives", spec := "vdiskSurvives", unfollowed := true, recurses := true, apart := false }
def VdiskSurvivesSaid : Prop := vdiskSurvivesRow.holds Try.pinned (OpenSpec.ofChange vdiskSurvivesSpec)

/-- ITS FALSE NEIGHBOUR: 'it returns false'. Refute it at one input. -/
def vdiskSurvivesWrong : ChangeSpec := { name := "vdiskSurvives", fn := fun _ => fun
  | [d1, d2, d3] => { results := [.lit (.bool false)], args := [d1, d2, d3] }
  | _ => none }
def VdiskSurvivesWrongFalsely : Prop := vdiskSurvivesRow.holds Try.pinned (OpenSpec.ofChange vdiskSurvivesWrong)

/-- 'postroadlaw08.VdiskMany': WHATEVER THE INPUT: true; the input reads as it did. -/
def vdiskManySpec : ChangeSpec := { name := "vdiskMany", fn := fun _ => fun
  | [d] => { results := [.lit (.bool true)], args := [d] }
  | _ => none }
def vdiskManyRow : OpenClaim := { program := "ytpmalnhlbpdohaa", sum := "6f635258817581f8caf282462864005cc01784fb46ac801ee2480d59b50f3d0f", func := "postroad/postroadlaw08.VdiskMany", spec := "vdiskMany", unfollowed := true, recurses := true, apart := false }
def VdiskManySaid : Prop := vdiskManyRow.holds Try.pinned (OpenSpec.ofChange vdiskManySpec)

/-- ITS FALSE NEIGHBOUR: 'it returns false'. Refute it at one input. -/
def vdiskManyWrong : ChangeSpec := { name := "vdiskMany", fn := fun _ => fun
  | [d] => { results := [.lit (.bool false)], args := [d] }
  | _ => none }
def VdiskManyWrongFalsely : Prop := vdiskManyRow.holds Try.pinned (OpenSpec.ofChange vdiskManyWrong)

/-- 'postroadlaw08.VdiskRoom': WHATEVER THE INPUT: true; the input reads as it did. -/
def vdiskRoomSpec : ChangeSpec := { name := "vdiskRoom", fn := fun _ => fun
  | [d1, d2] => { results := [.lit (.bool true)], args := [d1, d2] }
  | _ => none }
def vdiskRoomRow : OpenClaim := { program := "ytpmalnhlbpdohaa", sum := "6f635258817581f8caf282462864005cc01784fb46ac801ee2480d59b50f3d0f", func := "postroad/postroadlaw08.VdiskRoom", spec := "vdiskRoom", unfollowed := true, recurses := true, apart := false }
def VdiskRoomSaid : Prop := vdiskRoomRow.holds Try.pinned (OpenSpec.ofChange vdiskRoomSpec)

/-- ITS FALSE NEIGHBOUR: 'it returns false'. Refute it at one input. -/
def vdiskRoomWrong : ChangeSpec := { name := "vdiskRoom", fn := fun _ => fun
  | [d1, d2] => { results := [.lit (.bool false)], args := [d1, d2] }
  | _ => none }
def VdiskRoomWrongFalsely : Prop := vdiskRoomRow.holds Try.pinned (OpenSpec.ofChange vdiskRoomWrong)

/-- 'postroadlaw08.VdiskNobody': WHATEVER THE INPUT: true; the input reads as it did. -/
def vdiskNobodySpec : ChangeSpec := { name := "vdiskNobody", fn := fun _ => fun
  | [d1, d2] => { results := [.lit (.bool true)], args := [d1, d2] }
  | _ => none }
def vdiskNobodyRow : OpenClaim := { program := "ytpmalnhlbpdohaa", sum := "6f635258817581f8caf282462864005cc01784fb46ac801ee2480d59b50f3d0f", func := "postroad/postroadlaw08.VdiskNobody", spec := "vdiskNobody", unfollowed := true, recurses := true, apart := false }
def VdiskNobodySaid : Prop := vdiskNobodyRow.holds Try.pinned (OpenSpec.ofChange vdiskNobodySpec)

/-- ITS FALSE NEIGHBOUR: 'it returns false'. Refute it at one input. -/
def vdiskNobodyWrong : ChangeSpec := { name := "vdiskNobody", fn := fun _ => fun
  | [d1, d2] => { results := [.lit (.bool false)], args := [d1, d2] }
  | _ => none }
def VdiskNobodyWrongFalsely : Prop := vdiskNobodyRow.holds Try.pinned (OpenSpec.ofChange vdiskNobodyWrong)

/- THE SECOND FORM. 'bulk': how many values and letters a reading holds, each counted each time it is reached (what is shared counts as often as it is met; a slice's spare places count too). A statement '..UptoSaid' is the law's where the arguments, and the package variables that the reading takes, are together of bulk at most 1048576: NARROWER than '..Said'. Prove '..Said' where nothing that the law and all that it calls make is longer than what came in: it says more and counts as full. Else prove '..UptoSaid'. A law counts once. -/
mutual
def uptoBulk {H : Type} : DataW H → Nat
  | .lit (.string bytes) => bytes.length + 1
  | .lit _ => 1
  | .nil => 1
  | .ptr d => uptoBulk d + 1
  | .slice elems spare => uptoBulkAll elems + uptoBulkAll spare + 1
  | .agg parts => uptoBulkAll parts + 1
  | .iface _ d => uptoBulk d + 1
  | .map entries => uptoBulkEntries entries + 1
  | .held _ => 1
def uptoBulkAll {H : Type} : List (DataW H) → Nat
  | [] => 0
  | d :: r => uptoBulk d + uptoBulkAll r
def uptoBulkEntries {H : Type} : List (Lit × DataW H) → Nat
  | [] => 0
  | x :: r => uptoBulkEntry x + uptoBulkEntries r
def uptoBulkEntry {H : Type} : Lit × DataW H → Nat
  | (.string bytes, d) => bytes.length + uptoBulk d + 1
  | (_, d) => uptoBulk d + 1
 end
def uptoSmall : (H : Type) → List (DataW H) → Bool := fun _ ds => decide (uptoBulkAll ds ≤ 1048576)
def OpenSpec.upto (s : _root_.Go.ChangeSpec) : _root_.Go.OpenSpec := { _root_.Go.OpenSpec.ofChange s with cond := some uptoSmall }

/-- 'postroadlaw19.BoundGrows', WHERE WHAT IT READS IS OF BULK AT MOST 1048576: true; the input reads as it did. -/
def boundGrowsUptoRow : OpenClaim := { program := "ytpmalnhlbpdohaa", sum := "6f635258817581f8caf282462864005cc01784fb46ac801ee2480d59b50f3d0f", func := "postroad/postroadlaw19.BoundGrows", spec := "boundGrows", apart := false, narrowed := true }
def BoundGrowsUptoSaid : Prop := boundGrowsUptoRow.holds Try.pinned (OpenSpec.upto boundGrowsSpec)

/-- 'postroadlaw19.BoundRounds', WHERE WHAT IT READS IS OF BULK AT MOST 1048576: true; the input reads as it did. -/
def boundRoundsUptoRow : OpenClaim := { program := "ytpmalnhlbpdohaa", sum := "6f635258817581f8caf282462864005cc01784fb46ac801ee2480d59b50f3d0f", func := "postroad/postroadlaw19.BoundRounds", spec := "boundRounds", apart := false, narrowed := true }
def BoundRoundsUptoSaid : Prop := boundRoundsUptoRow.holds Try.pinned (OpenSpec.upto boundRoundsSpec)

/-- 'postroadlaw08.VdiskSurvives', WHERE WHAT IT READS IS OF BULK AT MOST 1048576: true; the input reads as it did. -/
def vdiskSurvivesUptoRow : OpenClaim := { program := "ytpmalnhlbpdohaa", sum := "6f635258817581f8caf282462864005cc01784fb46ac801ee2480d59b50f3d0f", func := "postroad/postroadlaw08.VdiskSurvives", spec := "vdiskSurvives", unfollowed := true, recurses := true, apart := false, narrowed := true }
def VdiskSurvivesUptoSaid : Prop := vdiskSurvivesUptoRow.holds Try.pinned (OpenSpec.upto vdiskSurvivesSpec)

/-- 'postroadlaw08.VdiskMany', WHERE WHAT IT READS IS OF BULK AT MOST 1048576: true; the input reads as it did. -/
def vdiskManyUptoRow : OpenClaim := { program := "ytpmalnhlbpdohaa", sum := "6f635258817581f8caf282462864005cc01784fb46ac801ee2480d59b50f3d0f", func := "postroad/postroadlaw08.VdiskMany", spec := "vdiskMany", unfollowed := true, recurses := true, apart := false, narrowed := true }
def VdiskManyUptoSaid : Prop := vdiskManyUptoRow.holds Try.pinned (OpenSpec.upto vdiskManySpec)

/-- 'postroadlaw08.VdiskRoom', WHERE WHAT IT READS IS OF BULK AT MOST 1048576: true; the input reads as it did. -/
def vdiskRoomUptoRow : OpenClaim := { program := "ytpmalnhlbpdohaa", sum := "6f635258817581f8caf282462864005cc01784fb46ac801ee2480d59b50f3d0f", func := "postroad/postroadlaw08.VdiskRoom", spec := "vdiskRoom", unfollowed := true, recurses := true, apart := false, narrowed := true }
def VdiskRoomUptoSaid : Prop := vdiskRoomUptoRow.holds Try.pinned (OpenSpec.upto vdiskRoomSpec)

/-- 'postroadlaw08.VdiskNobody', WHERE WHAT IT READS IS OF BULK AT MOST 1048576: true; the input reads as it did. -/
def vdiskNobodyUptoRow : OpenClaim := { program := "ytpmalnhlbpdohaa", sum := "6f635258817581f8caf282462864005cc01784fb46ac801ee2480d59b50f3d0f", func := "postroad/postroadlaw08.VdiskNobody", spec := "vdiskNobody", unfollowed := true, recurses := true, apart := false, narrowed := true }
def VdiskNobodyUptoSaid : Prop := vdiskNobodyUptoRow.holds Try.pinned (OpenSpec.upto vdiskNobodySpec)

end Rows
end Go.Proofs.Ytpmalnhlbpdohaa
