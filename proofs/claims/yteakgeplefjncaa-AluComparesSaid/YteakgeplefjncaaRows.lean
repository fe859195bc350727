/-
  No cell of these rows narrows 'for every input' (looked for: loops, veiled, ifaces, maps, wideKeys, modest, calm, conditions, laid).
  DERIVED. THE GIVEN ROWS OF THIS SEAT. 15 by the template 'for every input the law returns true; each argument reads behind the call as it read before'; 0 by the template 'total and deterministic' (their statements: YteakgeplefjncaaTotals.lean).
  GIVEN WITH THE SEED: the statements are not yours to turn. If you find one false, say at which input.
  Laid BY PROGRAM, IN A SANDBOX (cutbox-rows.mjs): the forced cells as the released guide's own fill.sh prints them over the translation e7e93ab716b08180… (all of the seat's roots in one cut). By AI agents, Wed Nov 11 2026. No macro, syntax, notation, axiom, sorry.
-/
import Derived.Test.YteakgeplefjncaaChecked
import GoSem.Claim
import GoSem.ClaimJoined
import GoSem.ClaimMapViews
import Derived.JoinedTies
import Derived.KernelRfl
namespace Go.Proofs.Yteakgeplefjncaa
/- THE CELL 'sum', in the pinned program and in every row, IS THE sha256 OF THE DUMP (.gsa) THAT YteakgeplefjncaaProg.lean LOADS. Nothing in Lean hashes anything: it is a label: what it is worth is what the hold of that sum in a sandbox is worth. -/
noncomputable def Try.pinned : Pinned := { name := "yteakgeplefjncaa", sum := "e7e93ab716b08180f2be51d0a5ed86a255d3ed1ce125bdf84006698d3832c456", checked := Try.checked }
namespace Rows
def none {H : Type} : Left H := { results := [], args := [] }

/-- 'atlaslaw18.AluPassed': WHATEVER THE INPUT: true; the input reads as it did. -/
def aluPassedSpec : ChangeSpec := { name := "aluPassed", fn := fun _ => fun
  | [d] => { results := [.lit (.bool true)], args := [d] }
  | _ => none }
def aluPassedRow : OpenClaim := { program := "yteakgeplefjncaa", sum := "e7e93ab716b08180f2be51d0a5ed86a255d3ed1ce125bdf84006698d3832c456", func := "atlas/atlaslaw18.AluPassed", spec := "aluPassed", unfollowed := true, recurses := true, apart := false }
def AluPassedSaid : Prop := aluPassedRow.holds Try.pinned (OpenSpec.ofChange aluPassedSpec)

/-- ITS FALSE NEIGHBOUR: 'it returns false'. Refute it at one input. -/
def aluPassedWrong : ChangeSpec := { name := "aluPassed", fn := fun _ => fun
  | [d] => { results := [.lit (.bool false)], args := [d] }
  | _ => none }
def AluPassedWrongFalsely : Prop := aluPassedRow.holds Try.pinned (OpenSpec.ofChange aluPassedWrong)

/-- 'atlaslaw18.AluShifts': WHATEVER THE INPUT: true; the input reads as it did. -/
def aluShiftsSpec : ChangeSpec := { name := "aluShifts", fn := fun _ => fun
  | [d1, d2, d3, d4] => { results := [.lit (.bool true)], args := [d1, d2, d3, d4] }
  | _ => none }
def aluShiftsRow : OpenClaim := { program := "yteakgeplefjncaa", sum := "e7e93ab716b08180f2be51d0a5ed86a255d3ed1ce125bdf84006698d3832c456", func := "atlas/atlaslaw18.AluShifts", spec := "aluShifts", unfollowed := true, recurses := true, apart := false }
def AluShiftsSaid : Prop := aluShiftsRow.holds Try.pinned (OpenSpec.ofChange aluShiftsSpec)

/-- ITS FALSE NEIGHBOUR: 'it returns false'. Refute it at one input. -/
def aluShiftsWrong : ChangeSpec := { name := "aluShifts", fn := fun _ => fun
  | [d1, d2, d3, d4] => { results := [.lit (.bool false)], args := [d1, d2, d3, d4] }
  | _ => none }
def AluShiftsWrongFalsely : Prop := aluShiftsRow.holds Try.pinned (OpenSpec.ofChange aluShiftsWrong)

/-- 'atlaslaw18.AluSums': WHATEVER THE INPUT: true; the input reads as it did. -/
def aluSumsSpec : ChangeSpec := { name := "aluSums", fn := fun _ => fun
  | [d1, d2, d3] => { results := [.lit (.bool true)], args := [d1, d2, d3] }
  | _ => none }
def aluSumsRow : OpenClaim := { program := "yteakgeplefjncaa", sum := "e7e93ab716b08180f2be51d0a5ed86a255d3ed1ce125bdf84006698d3832c456", func := "atlas/atlaslaw18.AluSums", spec := "aluSums", unfollowed := true, recurses := true, apart := false }
def AluSumsSaid : Prop := aluSumsRow.holds Try.pinned (OpenSpec.ofChange aluSumsSpec)

/-- ITS FALSE NEIGHBOUR: 'it returns false'. Refute it at one input. -/
def aluSumsWrong : ChangeSpec := { name := "aluSums", fn := fun _ => fun
  | [d1, d2, d3] => { results := [.lit (.bool false)], args := [d1, d2, d3] }
  | _ => none }
def AluSumsWrongFalsely : Prop := aluSumsRow.holds Try.pinned (OpenSpec.ofChange aluSumsWrong)

/-- 'atlaslaw18.AluDoes': WHATEVER THE INPUT: true; the input reads as it did. -/
def aluDoesSpec : ChangeSpec := { name := "aluDoes", fn := fun _ => fun
  | [d1, d2, d3, d4, d5] => { results := [.lit (.bool true)], args := [d1, d2, d3, d4, d5] }
  | _ => none }
def aluDoesRow : OpenClaim := { program := "yteakgeplefjncaa", sum := "e7e93ab716b08180f2be51d0a5ed86a255d3ed1ce125bdf84006698d3832c456", func := "atlas/atlaslaw18.AluDoes", spec := "aluDoes", unfollowed := true, recurses := true, apart := false }
def AluDoesSaid : Prop := aluDoesRow.holds Try.pinned (OpenSpec.ofChange aluDoesSpec)

/-- ITS FALSE NEIGHBOUR: 'it returns false'. Refute it at one input. -/
def aluDoesWrong : ChangeSpec := { name := "aluDoes", fn := fun _ => fun
  | [d1, d2, d3, d4, d5] => { results := [.lit (.bool false)], args := [d1, d2, d3, d4, d5] }
  | _ => none }
def AluDoesWrongFalsely : Prop := aluDoesRow.holds Try.pinned (OpenSpec.ofChange aluDoesWrong)

/-- 'atlaslaw18.AluLongs': WHATEVER THE INPUT: true; the input reads as it did. -/
def aluLongsSpec : ChangeSpec := { name := "aluLongs", fn := fun _ => fun
  | [d1, d2, d3, d4, d5] => { results := [.lit (.bool true)], args := [d1, d2, d3, d4, d5] }
  | _ => none }
def aluLongsRow : OpenClaim := { program := "yteakgeplefjncaa", sum := "e7e93ab716b08180f2be51d0a5ed86a255d3ed1ce125bdf84006698d3832c456", func := "atlas/atlaslaw18.AluLongs", spec := "aluLongs", unfollowed := true, recurses := true, apart := false }
def AluLongsSaid : Prop := aluLongsRow.holds Try.pinned (OpenSpec.ofChange aluLongsSpec)

/-- ITS FALSE NEIGHBOUR: 'it returns false'. Refute it at one input. -/
def aluLongsWrong : ChangeSpec := { name := "aluLongs", fn := fun _ => fun
  | [d1, d2, d3, d4, d5] => { results := [.lit (.bool false)], args := [d1, d2, d3, d4, d5] }
  | _ => none }
def AluLongsWrongFalsely : Prop := aluLongsRow.holds Try.pinned (OpenSpec.ofChange aluLongsWrong)

/-- 'atlaslaw18.AluSmalls': WHATEVER THE INPUT: true; the input reads as it did. -/
def aluSmallsSpec : ChangeSpec := { name := "aluSmalls", fn := fun _ => fun
  | [d1, d2, d3] => { results := [.lit (.bool true)], args := [d1, d2, d3] }
  | _ => none }
def aluSmallsRow : OpenClaim := { program := "yteakgeplefjncaa", sum := "e7e93ab716b08180f2be51d0a5ed86a255d3ed1ce125bdf84006698d3832c456", func := "atlas/atlaslaw18.AluSmalls", spec := "aluSmalls", unfollowed := true, recurses := true, apart := false }
def AluSmallsSaid : Prop := aluSmallsRow.holds Try.pinned (OpenSpec.ofChange aluSmallsSpec)

/-- ITS FALSE NEIGHBOUR: 'it returns false'. Refute it at one input. -/
def aluSmallsWrong : ChangeSpec := { name := "aluSmalls", fn := fun _ => fun
  | [d1, d2, d3] => { results := [.lit (.bool false)], args := [d1, d2, d3] }
  | _ => none }
def AluSmallsWrongFalsely : Prop := aluSmallsRow.holds Try.pinned (OpenSpec.ofChange aluSmallsWrong)

/-- 'atlaslaw18.AluCompares': WHATEVER THE INPUT: true; the input reads as it did. -/
def aluComparesSpec : ChangeSpec := { name := "aluCompares", fn := fun _ => fun
  | [d1, d2, d3, d4] => { results := [.lit (.bool true)], args := [d1, d2, d3, d4] }
  | _ => none }
def aluComparesRow : OpenClaim := { program := "yteakgeplefjncaa", sum := "e7e93ab716b08180f2be51d0a5ed86a255d3ed1ce125bdf84006698d3832c456", func := "atlas/atlaslaw18.AluCompares", spec := "aluCompares", unfollowed := true, recurses := true, apart := false }
def AluComparesSaid : Prop := aluComparesRow.holds Try.pinned (OpenSpec.ofChange aluComparesSpec)

/-- ITS FALSE NEIGHBOUR: 'it returns false'. Refute it at one input. -/
def aluComparesWrong : ChangeSpec := { name := "aluCompares", fn := fun _ => fun
  | [d1, d2, d3, d4] => { results := [.lit (.bool false)], args := [d1, d2, d3, d4] }
  | _ => none }
def AluComparesWrongFalsely : Prop := aluComparesRow.holds Try.pinned (OpenSpec.ofChange aluComparesWrong)

/-- 'atlaslaw18.AluWide': WHATEVER THE INPUT: true; the input reads as it did. -/
def aluWideSpec : ChangeSpec := { name := "aluWide", fn := fun _ => fun
  | [d1, d2, d3] => { results := [.lit (.bool true)], args := [d1, d2, d3] }
  | _ => none }
def aluWideRow : OpenClaim := { program := "yteakgeplefjncaa", sum := "e7e93ab716b08180f2be51d0a5ed86a255d3ed1ce125bdf84006698d3832c456", func := "atlas/atlaslaw18.AluWide", spec := "aluWide", unfollowed := true, recurses := true, apart := false }
def AluWideSaid : Prop := aluWideRow.holds Try.pinned (OpenSpec.ofChange aluWideSpec)

/-- ITS FALSE NEIGHBOUR: 'it returns false'. Refute it at one input. -/
def aluWideWrong : ChangeSpec := { name := "aluWide", fn := fun _ => fun
  | [d1, d2, d3] => { results := [.lit (.bool false)], args := [d1, d2, d3] }
  | _ => none }
def AluWideWrongFalsely : Prop := aluWideRow.holds Try.pinned (OpenSpec.ofChange aluWideWrong)

/-- 'atlaslaw18.AluTurns': WHATEVER THE INPUT: true; the input reads as it did. -/
def aluTurnsSpec : ChangeSpec := { name := "aluTurns", fn := fun _ => fun
  | [d1, d2, d3] => { results := [.lit (.bool true)], args := [d1, d2, d3] }
  | _ => none }
def aluTurnsRow : OpenClaim := { program := "yteakgeplefjncaa", sum := "e7e93ab716b08180f2be51d0a5ed86a255d3ed1ce125bdf84006698d3832c456", func := "atlas/atlaslaw18.AluTurns", spec := "aluTurns", unfollowed := true, recurses := true, apart := false }
def AluTurnsSaid : Prop := aluTurnsRow.holds Try.pinned (OpenSpec.ofChange aluTurnsSpec)

/-- ITS FALSE NEIGHBOUR: 'it returns false'. Refute it at one input. -/
def aluTurnsWrong : ChangeSpec := { name := "aluTurns", fn := fun _ => fun
  | [d1, d2, d3] => { results := [.lit (.bool false)], args := [d1, d2, d3] }
  | _ => none }
def AluTurnsWrongFalsely : Prop := aluTurnsRow.holds Try.pinned (OpenSpec.ofChange aluTurnsWrong)

/-- 'atlaslaw18.AluProducts': WHATEVER THE INPUT: true; the input reads as it did. -/
def aluProductsSpec : ChangeSpec := { name := "aluProducts", fn := fun _ => fun
  | [d1, d2, d3, d4] => { results := [.lit (.bool true)], args := [d1, d2, d3, d4] }
  | _ => none }
def aluProductsRow : OpenClaim := { program := "yteakgeplefjncaa", sum := "e7e93ab716b08180f2be51d0a5ed86a255d3ed1ce125bdf84006698d3832c456", func := "atlas/atlaslaw18.AluProducts", spec := "aluProducts", unfollowed := true, recurses := true, apart := false }
def AluProductsSaid : Prop := aluProductsRow.holds Try.pinned (OpenSpec.ofChange aluProductsSpec)

/-- ITS FALSE NEIGHBOUR: 'it returns false'. Refute it at one input. -/
def aluProductsWrong : ChangeSpec := { name := "aluProducts", fn := fun _ => fun
  | [d1, d2, d3, d4] => { results := [.lit (.bool false)], args := [d1, d2, d3, d4] }
  | _ => none }
def AluProductsWrongFalsely : Prop := aluProductsRow.holds Try.pinned (OpenSpec.ofChange aluProductsWrong)

/-- 'atlaslaw18.AluBySums': WHATEVER THE INPUT: true; the input reads as it did. -/
def aluBySumsSpec : ChangeSpec := { name := "aluBySums", fn := fun _ => fun
  | [d1, d2, d3, d4] => { results := [.lit (.bool true)], args := [d1, d2, d3, d4] }
  | _ => none }
def aluBySumsRow : OpenClaim := { program := "yteakgeplefjncaa", sum := "e7e93ab716b08180f2be51d0a5ed86a255d3ed1ce125bdf84006698d3832c456", func := "atlas/atlaslaw18.AluBySums", spec := "aluBySums", unfollowed := true, recurses := true, apart := false }
def AluBySumsSaid : Prop := aluBySumsRow.holds Try.pinned (OpenSpec.ofChange aluBySumsSpec)

/-- ITS FALSE NEIGHBOUR: 'it returns false'. Refute it at one input. -/
def aluBySumsWrong : ChangeSpec := { name := "aluBySums", fn := fun _ => fun
  | [d1, d2, d3, d4] => { results := [.lit (.bool false)], args := [d1, d2, d3, d4] }
  | _ => none }
def AluBySumsWrongFalsely : Prop := aluBySumsRow.holds Try.pinned (OpenSpec.ofChange aluBySumsWrong)

/-- 'atlaslaw18.AluFlags': WHATEVER THE INPUT: true; the input reads as it did. -/
def aluFlagsSpec : ChangeSpec := { name := "aluFlags", fn := fun _ => fun
  | [d1, d2] => { results := [.lit (.bool true)], args := [d1, d2] }
  | _ => none }
def aluFlagsRow : OpenClaim := { program := "yteakgeplefjncaa", sum := "e7e93ab716b08180f2be51d0a5ed86a255d3ed1ce125bdf84006698d3832c456", func := "atlas/atlaslaw18.AluFlags", spec := "aluFlags", unfollowed := true, recurses := true, apart := false }
def AluFlagsSaid : Prop := aluFlagsRow.holds Try.pinned (OpenSpec.ofChange aluFlagsSpec)

/-- ITS FALSE NEIGHBOUR: 'it returns false'. Refute it at one input. -/
def aluFlagsWrong : ChangeSpec := { name := "aluFlags", fn := fun _ => fun
  | [d1, d2] => { results := [.lit (.bool false)], args := [d1, d2] }
  | _ => none }
def AluFlagsWrongFalsely : Prop := aluFlagsRow.holds Try.pinned (OpenSpec.ofChange aluFlagsWrong)

/-- 'atlaslaw18.AluConstants': WHATEVER THE INPUT: true; the input reads as it did. -/
def aluConstantsSpec : ChangeSpec := { name := "aluConstants", fn := fun _ => fun
  | [d1, d2, d3] => { results := [.lit (.bool true)], args := [d1, d2, d3] }
  | _ => none }
def aluConstantsRow : OpenClaim := { program := "yteakgeplefjncaa", sum := "e7e93ab716b08180f2be51d0a5ed86a255d3ed1ce125bdf84006698d3832c456", func := "atlas/atlaslaw18.AluConstants", spec := "aluConstants", unfollowed := true, recurses := true, apart := false }
def AluConstantsSaid : Prop := aluConstantsRow.holds Try.pinned (OpenSpec.ofChange aluConstantsSpec)

/-- ITS FALSE NEIGHBOUR: 'it returns false'. Refute it at one input. -/
def aluConstantsWrong : ChangeSpec := { name := "aluConstants", fn := fun _ => fun
  | [d1, d2, d3] => { results := [.lit (.bool false)], args := [d1, d2, d3] }
  | _ => none }
def AluConstantsWrongFalsely : Prop := aluConstantsRow.holds Try.pinned (OpenSpec.ofChange aluConstantsWrong)

/-- 'atlaslaw18.AluPacks': WHATEVER THE INPUT: true; the input reads as it did. -/
def aluPacksSpec : ChangeSpec := { name := "aluPacks", fn := fun _ => fun
  | [d1, d2, d3] => { results := [.lit (.bool true)], args := [d1, d2, d3] }
  | _ => none }
def aluPacksRow : OpenClaim := { program := "yteakgeplefjncaa", sum := "e7e93ab716b08180f2be51d0a5ed86a255d3ed1ce125bdf84006698d3832c456", func := "atlas/atlaslaw18.AluPacks", spec := "aluPacks", unfollowed := true, recurses := true, apart := false }
def AluPacksSaid : Prop := aluPacksRow.holds Try.pinned (OpenSpec.ofChange aluPacksSpec)

/-- ITS FALSE NEIGHBOUR: 'it returns false'. Refute it at one input. -/
def aluPacksWrong : ChangeSpec := { name := "aluPacks", fn := fun _ => fun
  | [d1, d2, d3] => { results := [.lit (.bool false)], args := [d1, d2, d3] }
  | _ => none }
def AluPacksWrongFalsely : Prop := aluPacksRow.holds Try.pinned (OpenSpec.ofChange aluPacksWrong)

/-- 'atlaslaw18.AluDecodes': WHATEVER THE INPUT: true; the input reads as it did. -/
def aluDecodesSpec : ChangeSpec := { name := "aluDecodes", fn := fun _ => fun
  | [d1, d2] => { results := [.lit (.bool true)], args := [d1, d2] }
  | _ => none }
def aluDecodesRow : OpenClaim := { program := "yteakgeplefjncaa", sum := "e7e93ab716b08180f2be51d0a5ed86a255d3ed1ce125bdf84006698d3832c456", func := "atlas/atlaslaw18.AluDecodes", spec := "aluDecodes", unfollowed := true, recurses := true, apart := false }
def AluDecodesSaid : Prop := aluDecodesRow.holds Try.pinned (OpenSpec.ofChange aluDecodesSpec)

/-- ITS FALSE NEIGHBOUR: 'it returns false'. Refute it at one input. -/
def aluDecodesWrong : ChangeSpec := { name := "aluDecodes", fn := fun _ => fun
  | [d1, d2] => { results := [.lit (.bool false)], args := [d1, d2] }
  | _ => none }
def AluDecodesWrongFalsely : Prop := aluDecodesRow.holds Try.pinned (OpenSpec.ofChange aluDecodesWrong)

/- THE SECOND FORM. 'bulk': how many values and letters a reading holds, each counted each time it is reached (what is shared counts as often as it is met; a slice's spare places count too). A statement '..UptoSaid' is the law's where the arguments, and the package variables that the reading takes, are together of bulk at most 1048576: NARROWER than '..Said'. Prove '..Said' where nothing that the law and all that it calls make is longer than what came in: it says more and counts as full. Else prove '..UptoSaid'. A law counts once. -/
mutual
def uptoBulk {H : Type} : DataW H → Nat
  | .lit (.string bytes) => bytes.length + 1
  | .lit _ => 1
  | .nil => 1
  | .ptr d => uptoBulk d + 1
  | .slice elems spare => uptoBulkAll elems + uptoBulkAll spare + 1
  | .agg parts => uptoBulkAll parts + 1
  | .iface _ d => uptoBulk d + 1
  | .map entries => uptoBulkEntries entries + 1
  | .held _ => 1
def uptoBulkAll {H : Type} : List (DataW H) → Nat
  | [] => 0
  | d :: r => uptoBulk d + uptoBulkAll r
def uptoBulkEntries {H : Type} : List (Lit × DataW H) → Nat
  | [] => 0
  | x :: r => uptoBulkEntry x + uptoBulkEntries r
def uptoBulkEntry {H : Type} : Lit × DataW H → Nat
  | (.string bytes, d) => bytes.length + uptoBulk d + 1
  | (_, d) => uptoBulk d + 1
 end
def uptoSmall : (H : Type) → List (DataW H) → Bool := fun _ ds => decide (uptoBulkAll ds ≤ 1048576)
def OpenSpec.upto (s : _root_.Go.ChangeSpec) : _root_.Go.OpenSpec := { _root_.Go.OpenSpec.ofChange s with cond := some uptoSmall }

/-- 'atlaslaw18.AluPassed', WHERE WHAT IT READS IS OF BULK AT MOST 1048576: true; the input reads as it did. -/
def aluPassedUptoRow : OpenClaim := { program := "yteakgeplefjncaa", sum := "e7e93ab716b08180f2be51d0a5ed86a255d3ed1ce125bdf84006698d3832c456", func := "atlas/atlaslaw18.AluPassed", spec := "aluPassed", unfollowed := true, recurses := true, apart := false, narrowed := true }
def AluPassedUptoSaid : Prop := aluPassedUptoRow.holds Try.pinned (OpenSpec.upto aluPassedSpec)

/-- 'atlaslaw18.AluShifts', WHERE WHAT IT READS IS OF BULK AT MOST 1048576: true; the input reads as it did. -/
def aluShiftsUptoRow : OpenClaim := { program := "yteakgeplefjncaa", sum := "e7e93ab716b08180f2be51d0a5ed86a255d3ed1ce125bdf84006698d3832c456", func := "atlas/atlaslaw18.AluShifts", spec := "aluShifts", unfollowed := true, recurses := true, apart := false, narrowed := true }
def AluShiftsUptoSaid : Prop := aluShiftsUptoRow.holds Try.pinned (OpenSpec.upto aluShiftsSpec)

/-- 'atlaslaw18.AluSums', WHERE WHAT IT READS IS OF BULK AT MOST 1048576: true; the input reads as it did. -/
def aluSumsUptoRow : OpenClaim := { program := "yteakgeplefjncaa", sum := "e7e93ab716b08180f2be51d0a5ed86a255d3ed1ce125bdf84006698d3832c456", func := "atlas/atlaslaw18.AluSums", spec := "aluSums", unfollowed := true, recurses := true, apart := false, narrowed := true }
def AluSumsUptoSaid : Prop := aluSumsUptoRow.holds Try.pinned (OpenSpec.upto aluSumsSpec)

/-- 'atlaslaw18.AluDoes', WHERE WHAT IT READS IS OF BULK AT MOST 1048576: true; the input reads as it did. -/
def aluDoesUptoRow : OpenClaim := { program := "yteakgeplefjncaa", sum := "e7e93ab716b08180f2be51d0a5ed86a255d3ed1ce125bdf84006698d3832c456", func := "atlas/atlaslaw18.AluDoes", spec := "aluDoes", unfollowed := true, recurses := true, apart := false, narrowed := true }
def AluDoesUptoSaid : Prop := aluDoesUptoRow.holds Try.pinned (OpenSpec.upto aluDoesSpec)

/-- 'atlaslaw18.AluLongs', WHERE WHAT IT READS IS OF BULK AT MOST 1048576: true; the input reads as it did. -/
def aluLongsUptoRow : OpenClaim := { program := "yteakgeplefjncaa", sum := "e7e93ab716b08180f2be51d0a5ed86a255d3ed1ce125bdf84006698d3832c456", func := "atlas/atlaslaw18.AluLongs", spec := "aluLongs", unfollowed := true, recurses := true, apart := false, narrowed := true }
def AluLongsUptoSaid : Prop := aluLongsUptoRow.holds Try.pinned (OpenSpec.upto aluLongsSpec)

/-- 'atlaslaw18.AluSmalls', WHERE WHAT IT READS IS OF BULK AT MOST 1048576: true; the input reads as it did. -/
def aluSmallsUptoRow : OpenClaim := { program := "yteakgeplefjncaa", sum := "e7e93ab716b08180f2be51d0a5ed86a255d3ed1ce125bdf84006698d3832c456", func := "atlas/atlaslaw18.AluSmalls", spec := "aluSmalls", unfollowed := true, recurses := true, apart := false, narrowed := true }
def AluSmallsUptoSaid : Prop := aluSmallsUptoRow.holds Try.pinned (OpenSpec.upto aluSmallsSpec)

/-- 'atlaslaw18.AluCompares', WHERE WHAT IT READS IS OF BULK AT MOST 1048576: true; the input reads as it did. -/
def aluComparesUptoRow : OpenClaim := { program := "yteakgeplefjncaa", sum := "e7e93ab716b08180f2be51d0a5ed86a255d3ed1ce125bdf84006698d3832c456", func := "atlas/atlaslaw18.AluCompares", spec := "aluCompares", unfollowed := true, recurses := true, apart := false, narrowed := true }
def AluComparesUptoSaid : Prop := aluComparesUptoRow.holds Try.pinned (OpenSpec.upto aluComparesSpec)

/-- 'atlaslaw18.AluWide', WHERE WHAT IT READS IS OF BULK AT MOST 1048576: true; the input reads as it did. -/
def aluWideUptoRow : OpenClaim := { program := "yteakgeplefjncaa", sum := "e7e93ab716b08180f2be51d0a5ed86a255d3ed1ce125bdf84006698d3832c456", func := "atlas/atlaslaw18.AluWide", spec := "aluWide", unfollowed := true, recurses := true, apart := false, narrowed := true }
def AluWideUptoSaid : Prop := aluWideUptoRow.holds Try.pinned (OpenSpec.upto aluWideSpec)

/-- 'atlaslaw18.AluTurns', WHERE WHAT IT READS IS OF BULK AT MOST 1048576: true; the input reads as it did. -/
def aluTurnsUptoRow : OpenClaim := { program := "yteakgeplefjncaa", sum := "e7e93ab716b08180f2be51d0a5ed86a255d3ed1ce125bdf84006698d3832c456", func := "atlas/atlaslaw18.AluTurns", spec := "aluTurns", unfollowed := true, recurses := true, apart := false, narrowed := true }
def AluTurnsUptoSaid : Prop := aluTurnsUptoRow.holds Try.pinned (OpenSpec.upto aluTurnsSpec)

/-- 'atlaslaw18.AluProducts', WHERE WHAT IT READS IS OF BULK AT MOST 1048576: true; the input reads as it did. -/
def aluProductsUptoRow : OpenClaim := { program := "yteakgeplefjncaa", sum := "e7e93ab716b08180f2be51d0a5ed86a255d3ed1ce125bdf84006698d3832c456", func := "atlas/atlaslaw18.AluProducts", spec := "aluProducts", unfollowed := true, recurses := true, apart := false, narrowed := true }
def AluProductsUptoSaid : Prop := aluProductsUptoRow.holds Try.pinned (OpenSpec.upto aluProductsSpec)

/-- 'atlaslaw18.AluBySums', WHERE WHAT IT READS IS OF BULK AT MOST 1048576: true; the input reads as it did. -/
def aluBySumsUptoRow : OpenClaim := { program := "yteakgeplefjncaa", sum := "e7e93ab716b08180f2be51d0a5ed86a255d3ed1ce125bdf84006698d3832c456", func := "atlas/atlaslaw18.AluBySums", spec := "aluBySums", unfollowed := true, recurses := true, apart := false, narrowed := true }
def AluBySumsUptoSaid : Prop := aluBySumsUptoRow.holds Try.pinned (OpenSpec.upto aluBySumsSpec)

/-- 'atlaslaw18.AluFlags', WHERE WHAT IT READS IS OF BULK AT MOST 1048576: true; the input reads as it did. -/
def aluFlagsUptoRow : OpenClaim := { program := "yteakgeplefjncaa", sum := "e7e93ab716b08180f2be51d0a5ed86a255d3ed1ce125bdf84006698d3832c456", func := "atlas/atlaslaw18.AluFlags", spec := "aluFlags", unfollowed := true, recurses := true, apart := false, narrowed := true }
def AluFlagsUptoSaid : Prop := aluFlagsUptoRow.holds Try.pinned (OpenSpec.upto aluFlagsSpec)

/-- 'atlaslaw18.AluConstants', WHERE WHAT IT READS IS OF BULK AT MOST 1048576: true; the input reads as it did. -/
def aluConstantsUptoRow : OpenClaim := { program := "yteakgeplefjncaa", sum := "e7e93ab716b08180f2be51d0a5ed86a255d3ed1ce125bdf84006698d3832c456", func := "atlas/atlaslaw18.AluConstants", spec := "aluConstants", unfollowed := true, recurses := true, apart := false, narrowed := true }
def AluConstantsUptoSaid : Prop := aluConstantsUptoRow.holds Try.pinned (OpenSpec.upto aluConstantsSpec)

/-- 'atlaslaw18.AluPacks', WHERE WHAT IT READS IS OF BULK AT MOST 1048576: true; the input reads as it did. -/
def aluPacksUptoRow : OpenClaim := { program := "yteakgeplefjncaa", sum := "e7e93ab716b08180f2be51d0a5ed86a255d3ed1ce125bdf84006698d3832c456", func := "atlas/atlaslaw18.AluPacks", spec := "aluPacks", unfollowed := true, recurses := true, apart := false, narrowed := true }
def AluPacksUptoSaid : Prop := aluPacksUptoRow.holds Try.pinned (OpenSpec.upto aluPacksSpec)

/-- 'atlaslaw18.AluDecodes', WHERE WHAT IT READS IS OF BULK AT MOST 1048576: true; the input reads as it did. -/
def aluDecodesUptoRow : OpenClaim := { program := "yteakgeplefjncaa", sum := "e7e93ab716b08180f2be51d0a5ed86a255d3ed1ce125bdf84006698d3832c456", func := "atlas/atlaslaw18.AluDecodes", spec := "aluDecodes", unfollowed := true, recurses := true, apart := false, narrowed := true }
def AluDecodesUptoSaid : Prop := aluDecodesUptoRow.holds Try.pinned (OpenSpec.upto aluDecodesSpec)

end Rows
end Go.Proofs.Yteakgeplefjncaa
