/-
  No cell of these rows narrows 'for every input' (looked for: loops, veiled, ifaces, maps, wideKeys, modest, calm, conditions, laid).
  DERIVED. THE GIVEN ROWS OF THIS SEAT. 7 by the template 'for every input the law returns true; each argument reads behind the call as it read before'; 0 by the template 'total and deterministic' (their statements: YtnhemmjbodhjeaaGreatTotals.lean).
  GIVEN WITH THE SEED: the statements are not yours to turn. If you find one false, say at which input.
  Laid BY PROGRAM, IN A SANDBOX (cutbox-rows.mjs): the forced cells as the released guide's own fill.sh prints them over the translation 28190a4c160b3b99… (all of the seat's roots in one cut). By AI agents, Wed Nov 11 2026. No macro, syntax, notation, axiom, sorry.
-/
import Derived.Test.YtnhemmjbodhjeaaGreatChecked
import GoSem.Claim
import GoSem.ClaimJoined
import GoSem.ClaimMapViews
import Derived.JoinedTies
import Derived.KernelRfl
namespace Go.Proofs.YtnhemmjbodhjeaaGreat
/- THE CELL 'sum', in the pinned program and in every row, IS THE sha256 OF THE DUMP (.gsa) THAT YtnhemmjbodhjeaaGreatProg.lean LOADS. Nothing in Lean hashes anything: it is a label: what it is worth is what the hold of that sum in a sandbox is worth. -/
noncomputable def Tryz.pinned : Pinned := { name := "ytnhemmjbodhjeaagreat", sum := "28190a4c160b3b998a83b7bcef24b9ae38900858f06b774c0e3c27889f375785", checked := Tryz.checked }
namespace Rows
def none {H : Type} : Left H := { results := [], args := [] }

/-- 'postroadlaw11.SegmentReads': WHATEVER THE INPUT: true; the input reads as it did. -/
def segmentReadsSpec : ChangeSpec := { name := "segmentReads", fn := fun _ => fun
  | [d1, d2] => { results := [.lit (.bool true)], args := [d1, d2] }
  | _ => none }
def segmentReadsRow : OpenClaim := { program := "ytnhemmjbodhjeaagreat", sum := "28190a4c160b3b998a83b7bcef24b9ae38900858f06b774c0e3c27889f375785", func := "postroad/postroadlaw11.SegmentReads", spec := "segmentReads", inPlace := ["internal/abi.NoEscape"], unfollowed := true, recurses := true, plainKeys := false, apart := false }
def SegmentReadsSaid : Prop := segmentReadsRow.holds Tryz.pinned (OpenSpec.ofChange segmentReadsSpec)

/-- ITS FALSE NEIGHBOUR: 'it returns false'. Refute it at one input. -/
def segmentReadsWrong : ChangeSpec := { name := "segmentReads", fn := fun _ => fun
  | [d1, d2] => { results := [.lit (.bool false)], args := [d1, d2] }
  | _ => none }
def SegmentReadsWrongFalsely : Prop := segmentReadsRow.holds Tryz.pinned (OpenSpec.ofChange segmentReadsWrong)

/-- 'postroadlaw11.SegmentFull': WHATEVER THE INPUT: true; the input reads as it did. -/
def segmentFullSpec : ChangeSpec := { name := "segmentFull", fn := fun _ => fun
  | [d1, d2] => { results := [.lit (.bool true)], args := [d1, d2] }
  | _ => none }
def segmentFullRow : OpenClaim := { program := "ytnhemmjbodhjeaagreat", sum := "28190a4c160b3b998a83b7bcef24b9ae38900858f06b774c0e3c27889f375785", func := "postroad/postroadlaw11.SegmentFull", spec := "segmentFull", inPlace := ["internal/abi.NoEscape"], unfollowed := true, recurses := true, plainKeys := false, apart := false }
def SegmentFullSaid : Prop := segmentFullRow.holds Tryz.pinned (OpenSpec.ofChange segmentFullSpec)

/-- ITS FALSE NEIGHBOUR: 'it returns false'. Refute it at one input. -/
def segmentFullWrong : ChangeSpec := { name := "segmentFull", fn := fun _ => fun
  | [d1, d2] => { results := [.lit (.bool false)], args := [d1, d2] }
  | _ => none }
def SegmentFullWrongFalsely : Prop := segmentFullRow.holds Tryz.pinned (OpenSpec.ofChange segmentFullWrong)

/-- 'postroadlaw11.SegmentOrder': WHATEVER THE INPUT: true; the input reads as it did. -/
def segmentOrderSpec : ChangeSpec := { name := "segmentOrder", fn := fun _ => fun
  | [d1, d2, d3] => { results := [.lit (.bool true)], args := [d1, d2, d3] }
  | _ => none }
def segmentOrderRow : OpenClaim := { program := "ytnhemmjbodhjeaagreat", sum := "28190a4c160b3b998a83b7bcef24b9ae38900858f06b774c0e3c27889f375785", func := "postroad/postroadlaw11.SegmentOrder", spec := "segmentOrder", inPlace := ["internal/abi.NoEscape"], unfollowed := true, recurses := true, plainKeys := false, apart := false }
def SegmentOrderSaid : Prop := segmentOrderRow.holds Tryz.pinned (OpenSpec.ofChange segmentOrderSpec)

/-- ITS FALSE NEIGHBOUR: 'it returns false'. Refute it at one input. -/
def segmentOrderWrong : ChangeSpec := { name := "segmentOrder", fn := fun _ => fun
  | [d1, d2, d3] => { results := [.lit (.bool false)], args := [d1, d2, d3] }
  | _ => none }
def SegmentOrderWrongFalsely : Prop := segmentOrderRow.holds Tryz.pinned (OpenSpec.ofChange segmentOrderWrong)

/-- 'postroadlaw11.SegmentPlays': WHATEVER THE INPUT: true; the input reads as it did. -/
def segmentPlaysSpec : ChangeSpec := { name := "segmentPlays", fn := fun _ => fun
  | [d1, d2] => { results := [.lit (.bool true)], args := [d1, d2] }
  | _ => none }
def segmentPlaysRow : OpenClaim := { program := "ytnhemmjbodhjeaagreat", sum := "28190a4c160b3b998a83b7bcef24b9ae38900858f06b774c0e3c27889f375785", func := "postroad/postroadlaw11.SegmentPlays", spec := "segmentPlays", inPlace := ["internal/abi.NoEscape"], unfollowed := true, recurses := true, plainKeys := false, apart := false }
def SegmentPlaysSaid : Prop := segmentPlaysRow.holds Tryz.pinned (OpenSpec.ofChange segmentPlaysSpec)

/-- ITS FALSE NEIGHBOUR: 'it returns false'. Refute it at one input. -/
def segmentPlaysWrong : ChangeSpec := { name := "segmentPlays", fn := fun _ => fun
  | [d1, d2] => { results := [.lit (.bool false)], args := [d1, d2] }
  | _ => none }
def SegmentPlaysWrongFalsely : Prop := segmentPlaysRow.holds Tryz.pinned (OpenSpec.ofChange segmentPlaysWrong)

/-- 'postroadlaw11.SegmentNobody': WHATEVER THE INPUT: true; the input reads as it did. -/
def segmentNobodySpec : ChangeSpec := { name := "segmentNobody", fn := fun _ => fun
  | [d1, d2] => { results := [.lit (.bool true)], args := [d1, d2] }
  | _ => none }
def segmentNobodyRow : OpenClaim := { program := "ytnhemmjbodhjeaagreat", sum := "28190a4c160b3b998a83b7bcef24b9ae38900858f06b774c0e3c27889f375785", func := "postroad/postroadlaw11.SegmentNobody", spec := "segmentNobody", inPlace := ["internal/abi.NoEscape"], unfollowed := true, recurses := true, plainKeys := false, apart := false }
def SegmentNobodySaid : Prop := segmentNobodyRow.holds Tryz.pinned (OpenSpec.ofChange segmentNobodySpec)

/-- ITS FALSE NEIGHBOUR: 'it returns false'. Refute it at one input. -/
def segmentNobodyWrong : ChangeSpec := { name := "segmentNobody", fn := fun _ => fun
  | [d1, d2] => { results := [.lit (.bool false)], args := [d1, d2] }
  | _ => none }
def SegmentNobodyWrongFalsely : Prop := segmentNobodyRow.holds Tryz.pinned (OpenSpec.ofChange segmentNobodyWrong)

/-- 'postroadlaw11.SegmentAgain': WHATEVER THE INPUT: true; the input reads as it did. -/
def segmentAgainSpec : ChangeSpec := { name := "segmentAgain", fn := fun _ => fun
  | [d] => { results := [.lit (.bool true)], args := [d] }
  | _ => none }
def segmentAgainRow : OpenClaim := { program := "ytnhemmjbodhjeaagreat", sum := "28190a4c160b3b998a83b7bcef24b9ae38900858f06b774c0e3c27889f375785", func := "postroad/postroadlaw11.SegmentAgain", spec := "segmentAgain", inPlace := ["internal/abi.NoEscape"], unfollowed := true, recurses := true, plainKeys := false, apart := false }
def SegmentAgainSaid : Prop := segmentAgainRow.holds Tryz.pinned (OpenSpec.ofChange segmentAgainSpec)

/-- ITS FALSE NEIGHBOUR: 'it returns false'. Refute it at one input. -/
def segmentAgainWrong : ChangeSpec := { name := "segmentAgain", fn := fun _ => fun
  | [d] => { results := [.lit (.bool false)], args := [d] }
  | _ => none }
def SegmentAgainWrongFalsely : Prop := segmentAgainRow.holds Tryz.pinned (OpenSpec.ofChange segmentAgainWrong)

/-- 'postroadlaw11.SegmentCrash': WHATEVER THE INPUT: true; the input reads as it did. -/
def segmentCrashSpec : ChangeSpec := { name := "segmentCrash", fn := fun _ => fun
  | [d1, d2] => { results := [.lit (.bool true)], args := [d1, d2] }
  | _ => none }
def segmentCrashRow : OpenClaim := { program := "ytnhemmjbodhjeaagreat", sum := "28190a4c160b3b998a83b7bcef24b9ae38900858f06b774c0e3c27889f375785", func := "postroad/postroadlaw11.SegmentCrash", spec := "segmentCrash", inPlace := ["internal/abi.NoEscape"], unfollowed := true, recurses := true, plainKeys := false, apart := false }
def SegmentCrashSaid : Prop := segmentCrashRow.holds Tryz.pinned (OpenSpec.ofChange segmentCrashSpec)

/-- ITS FALSE NEIGHBOUR: 'it returns false'. Refute it at one input. -/
def segmentCrashWrong : ChangeSpec := { name := "segmentCrash", fn := fun _ => fun
  | [d1, d2] => { results := [.lit (.bool false)], args := [d1, d2] }
  | _ => none }
def SegmentCrashWrongFalsely : Prop := segmentCrashRow.holds Tryz.pinned (OpenSpec.ofChange segmentCrashWrong)

/- THE SECOND FORM. 'bulk': how many values and letters a reading holds, each counted each time it is reached (what is shared counts as often as it is met; a slice's spare places count too). A statement '..UptoSaid' is the law's where the arguments, and the package variables that the reading takes, are together of bulk at most 1048576: NARROWER than '..Said'. Prove '..Said' where nothing that the law and all that it calls make is longer than what came in: it says more and counts as full. Else prove '..UptoSaid'. A law counts once. -/
mutual
def uptoBulk {H : Type} : DataW H → Nat
  | .lit (.string bytes) => bytes.length + 1
  | .lit _ => 1
  | .nil => 1
  | .ptr d => uptoBulk d + 1
  | .slice elems spare => uptoBulkAll elems + uptoBulkAll spare + 1
  | .agg parts => uptoBulkAll parts + 1
  | .iface _ d => uptoBulk d + 1
  | .map entries => uptoBulkEntries entries + 1
  | .held _ => 1
def uptoBulkAll {H : Type} : List (DataW H) → Nat
  | [] => 0
  | d :: r => uptoBulk d + uptoBulkAll r
def uptoBulkEntries {H : Type} : List (Lit × DataW H) → Nat
  | [] => 0
  | x :: r => uptoBulkEntry x + uptoBulkEntries r
def uptoBulkEntry {H : Type} : Lit × DataW H → Nat
  | (.string bytes, d) => bytes.length + uptoBulk d + 1
  | (_, d) => uptoBulk d + 1
 end
def uptoSmall : (H : Type) → List (DataW H) → Bool := fun _ ds => decide (uptoBulkAll ds ≤ 1048576)
def OpenSpec.upto (s : _root_.Go.ChangeSpec) : _root_.Go.OpenSpec := { _root_.Go.OpenSpec.ofChange s with cond := some uptoSmall }

/-- 'postroadlaw11.SegmentReads', WHERE WHAT IT READS IS OF BULK AT MOST 1048576: true; the input reads as it did. -/
def segmentReadsUptoRow : OpenClaim := { program := "ytnhemmjbodhjeaagreat", sum := "28190a4c160b3b998a83b7bcef24b9ae38900858f06b774c0e3c27889f375785", func := "postroad/postroadlaw11.SegmentReads", spec := "segmentReads", inPlace := ["internal/abi.NoEscape"], unfollowed := true, recurses := true, plainKeys := false, apart := false, narrowed := true }
def SegmentReadsUptoSaid : Prop := segmentReadsUptoRow.holds Tryz.pinned (OpenSpec.upto segmentReadsSpec)

/-- 'postroadlaw11.SegmentFull', WHERE WHAT IT READS IS OF BULK AT MOST 1048576: true; the input reads as it did. -/
def segmentFullUptoRow : OpenClaim := { program := "ytnhemmjbodhjeaagreat", sum := "28190a4c160b3b998a83b7bcef24b9ae38900858f06b774c0e3c27889f375785", func := "postroad/postroadlaw11.SegmentFull", spec := "segmentFull", inPlace := ["internal/abi.NoEscape"], unfollowed := true, recurses := true, plainKeys := false, apart := false, narrowed := true }
def SegmentFullUptoSaid : Prop := segmentFullUptoRow.holds Tryz.pinned (OpenSpec.upto segmentFullSpec)

/-- 'postroadlaw11.SegmentOrder', WHERE WHAT IT READS IS OF BULK AT MOST 1048576: true; the input reads as it did. -/
def segmentOrderUptoRow : OpenClaim := { program := "ytnhemmjbodhjeaagreat", sum := "28190a4c160b3b998a83b7bcef24b9ae38900858f06b774c0e3c27889f375785", func := "postroad/postroadlaw11.SegmentOrder", spec := "segmentOrder", inPlace := ["internal/abi.NoEscape"], unfollowed := true, recurses := true, plainKeys := false, apart := false, narrowed := true }
def SegmentOrderUptoSaid : Prop := segmentOrderUptoRow.holds Tryz.pinned (OpenSpec.upto segmentOrderSpec)

/-- 'postroadlaw11.SegmentPlays', WHERE WHAT IT READS IS OF BULK AT MOST 1048576: true; the input reads as it did. -/
def segmentPlaysUptoRow : OpenClaim := { program := "ytnhemmjbodhjeaagreat", sum := "28190a4c160b3b998a83b7bcef24b9ae38900858f06b774c0e3c27889f375785", func := "postroad/postroadlaw11.SegmentPlays", spec := "segmentPlays", inPlace := ["internal/abi.NoEscape"], unfollowed := true, recurses := true, plainKeys := false, apart := false, narrowed := true }
def SegmentPlaysUptoSaid : Prop := segmentPlaysUptoRow.holds Tryz.pinned (OpenSpec.upto segmentPlaysSpec)

/-- 'postroadlaw11.SegmentNobody', WHERE WHAT IT READS IS OF BULK AT MOST 1048576: true; the input reads as it did. -/
def segmentNobodyUptoRow : OpenClaim := { program := "ytnhemmjbodhjeaagreat", sum := "28190a4c160b3b998a83b7bcef24b9ae38900858f06b774c0e3c27889f375785", func := "postroad/postroadlaw11.SegmentNobody", spec := "segmentNobody", inPlace := ["internal/abi.NoEscape"], unfollowed := true, recurses := true, plainKeys := false, apart := false, narrowed := true }
def SegmentNobodyUptoSaid : Prop := segmentNobodyUptoRow.holds Tryz.pinned (OpenSpec.upto segmentNobodySpec)

/-- 'postroadlaw11.SegmentAgain', WHERE WHAT IT READS IS OF BULK AT MOST 1048576: true; the input reads as it did. -/
def segmentAgainUptoRow : OpenClaim := { program := "ytnhemmjbodhjeaagreat", sum := "28190a4c160b3b998a83b7bcef24b9ae38900858f06b774c0e3c27889f375785", func := "postroad/postroadlaw11.SegmentAgain", spec := "segmentAgain", inPlace := ["internal/abi.NoEscape"], unfollowed := true, recurses := true, plainKeys := false, apart := false, narrowed := true }
def SegmentAgainUptoSaid : Prop := segmentAgainUptoRow.holds Tryz.pinned (OpenSpec.upto segmentAgainSpec)

/-- 'postroadlaw11.SegmentCrash', WHERE WHAT IT READS IS OF BULK AT MOST 1048576: true; the input reads as it did. -/
def segmentCrashUptoRow : OpenClaim := { program := "ytnhemmjbodhjeaagreat", sum := "28190a4c160b3b998a83b7bcef24b9ae38900858f06b774c0e3c27889f375785", func := "postroad/postroadlaw11.SegmentCrash", spec := "segmentCrash", inPlace := ["internal/abi.NoEscape"], unfollowed := true, recurses := true, plainKeys := false, apart := false, narrowed := true }
def SegmentCrashUptoSaid : Prop := segmentCrashUptoRow.holds Tryz.pinned (OpenSpec.upto segmentCrashSpec)

end Rows
end Go.Proofs.YtnhemmjbodhjeaaGreat
