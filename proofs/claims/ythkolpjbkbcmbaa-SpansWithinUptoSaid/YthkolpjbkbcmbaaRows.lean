/-
  No cell of these rows narrows 'for every input' (looked for: loops, veiled, ifaces, maps, wideKeys, modest, calm, conditions, laid).
  DERIVED. THE GIVEN ROWS OF THIS SEAT. 10 by the template 'for every input the law returns true; each argument reads behind the call as it read before'; 0 by the template 'total and deterministic' (their statements: YthkolpjbkbcmbaaTotals.lean).
  GIVEN WITH THE SEED: the statements are not yours to turn. If you find one false, say at which input.
  Laid BY PROGRAM, IN A SANDBOX (cutbox-rows.mjs): the forced cells as the released guide's own fill.sh prints them over the translation 31d35913c63af837… (all of the seat's roots in one cut). By AI agents, Wed Nov 11 2026. No macro, syntax, notation, axiom, sorry.
-/
import Derived.Test.YthkolpjbkbcmbaaChecked
import GoSem.Claim
import GoSem.ClaimJoined
import GoSem.ClaimMapViews
import Derived.JoinedTies
import Derived.KernelRfl
namespace Go.Proofs.Ythkolpjbkbcmbaa
/- THE CELL 'sum', in the pinned program and in every row, IS THE sha256 OF THE DUMP (.gsa) THAT YthkolpjbkbcmbaaProg.lean LOADS. Nothing in Lean hashes anything: it is a label: what it is worth is what the hold of that sum in a sandbox is worth. -/
noncomputable def Try.pinned : Pinned := { name := "ythkolpjbkbcmbaa", sum := "31d35913c63af83737c8c415d0c9d632e45a2d7e4f4c3cca35a91d94afdb482d", checked := Try.checked }
namespace Rows
def none {H : Type} : Left H := { results := [], args := [] }

/-- 'atlaslaw02.SpansLast': WHATEVER THE INPUT: true; the input reads as it did. -/
def spansLastSpec : ChangeSpec := { name := "spansLast", fn := fun _ => fun
  | [d1, d2] => { results := [.lit (.bool true)], args := [d1, d2] }
  | _ => none }
def spansLastRow : OpenClaim := { program := "ythkolpjbkbcmbaa", sum := "31d35913c63af83737c8c415d0c9d632e45a2d7e4f4c3cca35a91d94afdb482d", func := "atlas/atlaslaw02.SpansLast", spec := "spansLast", apart := false }
def SpansLastSaid : Prop := spansLastRow.holds Try.pinned (OpenSpec.ofChange spansLastSpec)

/-- ITS FALSE NEIGHBOUR: 'it returns false'. Refute it at one input. -/
def spansLastWrong : ChangeSpec := { name := "spansLast", fn := fun _ => fun
  | [d1, d2] => { results := [.lit (.bool false)], args := [d1, d2] }
  | _ => none }
def SpansLastWrongFalsely : Prop := spansLastRow.holds Try.pinned (OpenSpec.ofChange spansLastWrong)

/-- 'atlaslaw02.SpansPlays': WHATEVER THE INPUT: true; the input reads as it did. -/
def spansPlaysSpec : ChangeSpec := { name := "spansPlays", fn := fun _ => fun
  | [d] => { results := [.lit (.bool true)], args := [d] }
  | _ => none }
def spansPlaysRow : OpenClaim := { program := "ythkolpjbkbcmbaa", sum := "31d35913c63af83737c8c415d0c9d632e45a2d7e4f4c3cca35a91d94afdb482d", func := "atlas/atlaslaw02.SpansPlays", spec := "spansPlays", apart := false }
def SpansPlaysSaid : Prop := spansPlaysRow.holds Try.pinned (OpenSpec.ofChange spansPlaysSpec)

/-- ITS FALSE NEIGHBOUR: 'it returns false'. Refute it at one input. -/
def spansPlaysWrong : ChangeSpec := { name := "spansPlays", fn := fun _ => fun
  | [d] => { results := [.lit (.bool false)], args := [d] }
  | _ => none }
def SpansPlaysWrongFalsely : Prop := spansPlaysRow.holds Try.pinned (OpenSpec.ofChange spansPlaysWrong)

/-- 'atlaslaw02.SpansKinds': WHATEVER THE INPUT: true; the input reads as it did. -/
def spansKindsSpec : ChangeSpec := { name := "spansKinds", fn := fun _ => fun
  | [d] => { results := [.lit (.bool true)], args := [d] }
  | _ => none }
def spansKindsRow : OpenClaim := { program := "ythkolpjbkbcmbaa", sum := "31d35913c63af83737c8c415d0c9d632e45a2d7e4f4c3cca35a91d94afdb482d", func := "atlas/atlaslaw02.SpansKinds", spec := "spansKinds", apart := false }
def SpansKindsSaid : Prop := spansKindsRow.holds Try.pinned (OpenSpec.ofChange spansKindsSpec)

/-- ITS FALSE NEIGHBOUR: 'it returns false'. Refute it at one input. -/
def spansKindsWrong : ChangeSpec := { name := "spansKinds", fn := fun _ => fun
  | [d] => { results := [.lit (.bool false)], args := [d] }
  | _ => none }
def SpansKindsWrongFalsely : Prop := spansKindsRow.holds Try.pinned (OpenSpec.ofChange spansKindsWrong)

/-- 'atlaslaw02.SpansForm': WHATEVER THE INPUT: true; the input reads as it did. -/
def spansFormSpec : ChangeSpec := { name := "spansForm", fn := fun _ => fun
  | [d] => { results := [.lit (.bool true)], args := [d] }
  | _ => none }
def spansFormRow : OpenClaim := { program := "ythkolpjbkbcmbaa", sum := "31d35913c63af83737c8c415d0c9d632e45a2d7e4f4c3cca35a91d94afdb482d", func := "atlas/atlaslaw02.SpansForm", spec := "spansForm", apart := false }
def SpansFormSaid : Prop := spansFormRow.holds Try.pinned (OpenSpec.ofChange spansFormSpec)

/-- ITS FALSE NEIGHBOUR: 'it returns false'. Refute it at one input. -/
def spansFormWrong : ChangeSpec := { name := "spansForm", fn := fun _ => fun
  | [d] => { results := [.lit (.bool false)], args := [d] }
  | _ => none }
def SpansFormWrongFalsely : Prop := spansFormRow.holds Try.pinned (OpenSpec.ofChange spansFormWrong)

/-- 'atlaslaw02.SpansWithin': WHATEVER THE INPUT: true; the input reads as it did. -/
def spansWithinSpec : ChangeSpec := { name := "spansWithin", fn := fun _ => fun
  | [d1, d2, d3, d4] => { results := [.lit (.bool true)], args := [d1, d2, d3, d4] }
  | _ => none }
def spansWithinRow : OpenClaim := { program := "ythkolpjbkbcmbaa", sum := "31d35913c63af83737c8c415d0c9d632e45a2d7e4f4c3cca35a91d94afdb482d", func := "atlas/atlaslaw02.SpansWithin", spec := "spansWithin", unfollowed := true, recurses := true, apart := false }
def SpansWithinSaid : Prop := spansWithinRow.holds Try.pinned (OpenSpec.ofChange spansWithinSpec)

/-- ITS FALSE NEIGHBOUR: 'it returns false'. Refute it at one input. -/
def spansWithinWrong : ChangeSpec := { name := "spansWithin", fn := fun _ => fun
  | [d1, d2, d3, d4] => { results := [.lit (.bool false)], args := [d1, d2, d3, d4] }
  | _ => none }
def SpansWithinWrongFalsely : Prop := spansWithinRow.holds Try.pinned (OpenSpec.ofChange spansWithinWrong)

/-- 'atlaslaw02.SpansGaps': WHATEVER THE INPUT: true; the input reads as it did. -/
def spansGapsSpec : ChangeSpec := { name := "spansGaps", fn := fun _ => fun
  | [d1, d2, d3, d4, d5] => { results := [.lit (.bool true)], args := [d1, d2, d3, d4, d5] }
  | _ => none }
def spansGapsRow : OpenClaim := { program := "ythkolpjbkbcmbaa", sum := "31d35913c63af83737c8c415d0c9d632e45a2d7e4f4c3cca35a91d94afdb482d", func := "atlas/atlaslaw02.SpansGaps", spec := "spansGaps", apart := false }
def SpansGapsSaid : Prop := spansGapsRow.holds Try.pinned (OpenSpec.ofChange spansGapsSpec)

/-- ITS FALSE NEIGHBOUR: 'it returns false'. Refute it at one input. -/
def spansGapsWrong : ChangeSpec := { name := "spansGaps", fn := fun _ => fun
  | [d1, d2, d3, d4, d5] => { results := [.lit (.bool false)], args := [d1, d2, d3, d4, d5] }
  | _ => none }
def SpansGapsWrongFalsely : Prop := spansGapsRow.holds Try.pinned (OpenSpec.ofChange spansGapsWrong)

/-- 'atlaslaw02.SpansLeast': WHATEVER THE INPUT: true; the input reads as it did. -/
def spansLeastSpec : ChangeSpec := { name := "spansLeast", fn := fun _ => fun
  | [d1, d2, d3, d4, d5, d6] => { results := [.lit (.bool true)], args := [d1, d2, d3, d4, d5, d6] }
  | _ => none }
def spansLeastRow : OpenClaim := { program := "ythkolpjbkbcmbaa", sum := "31d35913c63af83737c8c415d0c9d632e45a2d7e4f4c3cca35a91d94afdb482d", func := "atlas/atlaslaw02.SpansLeast", spec := "spansLeast", apart := false }
def SpansLeastSaid : Prop := spansLeastRow.holds Try.pinned (OpenSpec.ofChange spansLeastSpec)

/-- ITS FALSE NEIGHBOUR: 'it returns false'. Refute it at one input. -/
def spansLeastWrong : ChangeSpec := { name := "spansLeast", fn := fun _ => fun
  | [d1, d2, d3, d4, d5, d6] => { results := [.lit (.bool false)], args := [d1, d2, d3, d4, d5, d6] }
  | _ => none }
def SpansLeastWrongFalsely : Prop := spansLeastRow.holds Try.pinned (OpenSpec.ofChange spansLeastWrong)

/-- 'atlaslaw02.SpansSame': WHATEVER THE INPUT: true; the input reads as it did. -/
def spansSameSpec : ChangeSpec := { name := "spansSame", fn := fun _ => fun
  | [d1, d2, d3] => { results := [.lit (.bool true)], args := [d1, d2, d3] }
  | _ => none }
def spansSameRow : OpenClaim := { program := "ythkolpjbkbcmbaa", sum := "31d35913c63af83737c8c415d0c9d632e45a2d7e4f4c3cca35a91d94afdb482d", func := "atlas/atlaslaw02.SpansSame", spec := "spansSame", apart := false }
def SpansSameSaid : Prop := spansSameRow.holds Try.pinned (OpenSpec.ofChange spansSameSpec)

/-- ITS FALSE NEIGHBOUR: 'it returns false'. Refute it at one input. -/
def spansSameWrong : ChangeSpec := { name := "spansSame", fn := fun _ => fun
  | [d1, d2, d3] => { results := [.lit (.bool false)], args := [d1, d2, d3] }
  | _ => none }
def SpansSameWrongFalsely : Prop := spansSameRow.holds Try.pinned (OpenSpec.ofChange spansSameWrong)

/-- 'atlaslaw02.SpansDiffs': WHATEVER THE INPUT: true; the input reads as it did. -/
def spansDiffsSpec : ChangeSpec := { name := "spansDiffs", fn := fun _ => fun
  | [d1, d2] => { results := [.lit (.bool true)], args := [d1, d2] }
  | _ => none }
def spansDiffsRow : OpenClaim := { program := "ythkolpjbkbcmbaa", sum := "31d35913c63af83737c8c415d0c9d632e45a2d7e4f4c3cca35a91d94afdb482d", func := "atlas/atlaslaw02.SpansDiffs", spec := "spansDiffs", apart := false }
def SpansDiffsSaid : Prop := spansDiffsRow.holds Try.pinned (OpenSpec.ofChange spansDiffsSpec)

/-- ITS FALSE NEIGHBOUR: 'it returns false'. Refute it at one input. -/
def spansDiffsWrong : ChangeSpec := { name := "spansDiffs", fn := fun _ => fun
  | [d1, d2] => { results := [.lit (.bool false)], args := [d1, d2] }
  | _ => none }
def SpansDiffsWrongFalsely : Prop := spansDiffsRow.holds Try.pinned (OpenSpec.ofChange spansDiffsWrong)

/-- 'atlaslaw02.SpansApart': WHATEVER THE INPUT: true; the input reads as it did. -/
def spansApartSpec : ChangeSpec := { name := "spansApart", fn := fun _ => fun
  | [d1, d2] => { results := [.lit (.bool true)], args := [d1, d2] }
  | _ => none }
def spansApartRow : OpenClaim := { program := "ythkolpjbkbcmbaa", sum := "31d35913c63af83737c8c415d0c9d632e45a2d7e4f4c3cca35a91d94afdb482d", func := "atlas/atlaslaw02.SpansApart", spec := "spansApart", apart := false }
def SpansApartSaid : Prop := spansApartRow.holds Try.pinned (OpenSpec.ofChange spansApartSpec)

/-- ITS FALSE NEIGHBOUR: 'it returns false'. Refute it at one input. -/
def spansApartWrong : ChangeSpec := { name := "spansApart", fn := fun _ => fun
  | [d1, d2] => { results := [.lit (.bool false)], args := [d1, d2] }
  | _ => none }
def SpansApartWrongFalsely : Prop := spansApartRow.holds Try.pinned (OpenSpec.ofChange spansApartWrong)

/- THE SECOND FORM. 'bulk': how many values and letters a reading holds, each counted each time it is reached (what is shared counts as often as it is met; a slice's spare places count too). A statement '..UptoSaid' is the law's where the arguments, and the package variables that the reading takes, are together of bulk at most 1048576: NARROWER than '..Said'. Prove '..Said' where nothing that the law and all that it calls make is longer than what came in: it says more and counts as full. Else prove '..UptoSaid'. A law counts once. -/
mutual
def uptoBulk {H : Type} : DataW H → Nat
  | .lit (.string bytes) => bytes.length + 1
  | .lit _ => 1
  | .nil => 1
  | .ptr d => uptoBulk d + 1
  | .slice elems spare => uptoBulkAll elems + uptoBulkAll spare + 1
  | .agg parts => uptoBulkAll parts + 1
  | .iface _ d => uptoBulk d + 1
  | .map entries => uptoBulkEntries entries + 1
  | .held _ => 1
def uptoBulkAll {H : Type} : List (DataW H) → Nat
  | [] => 0
  | d :: r => uptoBulk d + uptoBulkAll r
def uptoBulkEntries {H : Type} : List (Lit × DataW H) → Nat
  | [] => 0
  | x :: r => uptoBulkEntry x + uptoBulkEntries r
def uptoBulkEntry {H : Type} : Lit × DataW H → Nat
  | (.string bytes, d) => bytes.length + uptoBulk d + 1
  | (_, d) => uptoBulk d + 1
 end
def uptoSmall : (H : Type) → List (DataW H) → Bool := fun _ ds => decide (uptoBulkAll ds ≤ 1048576)
def OpenSpec.upto (s : _root_.Go.ChangeSpec) : _root_.Go.OpenSpec := { _root_.Go.OpenSpec.ofChange s with cond := some uptoSmall }

/-- 'atlaslaw02.SpansLast', WHERE WHAT IT READS IS OF BULK AT MOST 1048576: true; the input reads as it did. -/
def spansLastUptoRow : OpenClaim := { program := "ythkolpjbkbcmbaa", sum := "31d35913c63af83737c8c415d0c9d632e45a2d7e4f4c3cca35a91d94afdb482d", func := "atlas/atlaslaw02.SpansLast", spec := "spansLast", apart := false, narrowed := true }
def SpansLastUptoSaid : Prop := spansLastUptoRow.holds Try.pinned (OpenSpec.upto spansLastSpec)

/-- 'atlaslaw02.SpansPlays', WHERE WHAT IT READS IS OF BULK AT MOST 1048576: true; the input reads as it did. -/
def spansPlaysUptoRow : OpenClaim := { program := "ythkolpjbkbcmbaa", sum := "31d35913c63af83737c8c415d0c9d632e45a2d7e4f4c3cca35a91d94afdb482d", func := "atlas/atlaslaw02.SpansPlays", spec := "spansPlays", apart := false, narrowed := true }
def SpansPlaysUptoSaid : Prop := spansPlaysUptoRow.holds Try.pinned (OpenSpec.upto spansPlaysSpec)

/-- 'atlaslaw02.SpansKinds', WHERE WHAT IT READS IS OF BULK AT MOST 1048576: true; the input reads as it did. -/
def spansKindsUptoRow : OpenClaim := { program := "ythkolpjbkbcmbaa", sum := "31d35913c63af83737c8c415d0c9d632e45a2d7e4f4c3cca35a91d94afdb482d", func := "atlas/atlaslaw02.SpansKinds", spec := "spansKinds", apart := false, narrowed := true }
def SpansKindsUptoSaid : Prop := spansKindsUptoRow.holds Try.pinned (OpenSpec.upto spansKindsSpec)

/-- 'atlaslaw02.SpansForm', WHERE WHAT IT READS IS OF BULK AT MOST 1048576: true; the input reads as it did. -/
def spansFormUptoRow : OpenClaim := { program := "ythkolpjbkbcmbaa", sum := "31d35913c63af83737c8c415d0c9d632e45a2d7e4f4c3cca35a91d94afdb482d", func := "atlas/atlaslaw02.SpansForm", spec := "spansForm", apart := false, narrowed := true }
def SpansFormUptoSaid : Prop := spansFormUptoRow.holds Try.pinned (OpenSpec.upto spansFormSpec)

/-- 'atlaslaw02.SpansWithin', WHERE WHAT IT READS IS OF BULK AT MOST 1048576: true; the input reads as it did. -/
def spansWithinUptoRow : OpenClaim := { program := "ythkolpjbkbcmbaa", sum := "31d35913c63af83737c8c415d0c9d632e45a2d7e4f4c3cca35a91d94afdb482d", func := "atlas/atlaslaw02.SpansWithin", spec := "spansWithin", unfollowed := true, recurses := true, apart := false, narrowed := true }
def SpansWithinUptoSaid : Prop := spansWithinUptoRow.holds Try.pinned (OpenSpec.upto spansWithinSpec)

/-- 'atlaslaw02.SpansGaps', WHERE WHAT IT READS IS OF BULK AT MOST 1048576: true; the input reads as it did. -/
def spansGapsUptoRow : OpenClaim := { program := "ythkolpjbkbcmbaa", sum := "31d35913c63af83737c8c415d0c9d632e45a2d7e4f4c3cca35a91d94afdb482d", func := "atlas/atlaslaw02.SpansGaps", spec := "spansGaps", apart := false, narrowed := true }
def SpansGapsUptoSaid : Prop := spansGapsUptoRow.holds Try.pinned (OpenSpec.upto spansGapsSpec)

/-- 'atlaslaw02.SpansLeast', WHERE WHAT IT READS IS OF BULK AT MOST 1048576: true; the input reads as it did. -/
def spansLeastUptoRow : OpenClaim := { program := "ythkolpjbkbcmbaa", sum := "31d35913c63af83737c8c415d0c9d632e45a2d7e4f4c3cca35a91d94afdb482d", func := "atlas/atlaslaw02.SpansLeast", spec := "spansLeast", apart := false, narrowed := true }
def SpansLeastUptoSaid : Prop := spansLeastUptoRow.holds Try.pinned (OpenSpec.upto spansLeastSpec)

/-- 'atlaslaw02.SpansSame', WHERE WHAT IT READS IS OF BULK AT MOST 1048576: true; the input reads as it did. -/
def spansSameUptoRow : OpenClaim := { program := "ythkolpjbkbcmbaa", sum := "31d35913c63af83737c8c415d0c9d632e45a2d7e4f4c3cca35a91d94afdb482d", func := "atlas/atlaslaw02.SpansSame", spec := "spansSame", apart := false, narrowed := true }
def SpansSameUptoSaid : Prop := spansSameUptoRow.holds Try.pinned (OpenSpec.upto spansSameSpec)

/-- 'atlaslaw02.SpansDiffs', WHERE WHAT IT READS IS OF BULK AT MOST 1048576: true; the input reads as it did. -/
def spansDiffsUptoRow : OpenClaim := { program := "ythkolpjbkbcmbaa", sum := "31d35913c63af83737c8c415d0c9d632e45a2d7e4f4c3cca35a91d94afdb482d", func := "atlas/atlaslaw02.SpansDiffs", spec := "spansDiffs", apart := false, narrowed := true }
def SpansDiffsUptoSaid : Prop := spansDiffsUptoRow.holds Try.pinned (OpenSpec.upto spansDiffsSpec)

/-- 'atlaslaw02.SpansApart', WHERE WHAT IT READS IS OF BULK AT MOST 1048576: true; the input reads as it did. -/
def spansApartUptoRow : OpenClaim := { program := "ythkolpjbkbcmbaa", sum := "31d35913c63af83737c8c415d0c9d632e45a2d7e4f4c3cca35a91d94afdb482d", func := "atlas/atlaslaw02.SpansApart", spec := "spansApart", apart := false, narrowed := true }
def SpansApartUptoSaid : Prop := spansApartUptoRow.holds Try.pinned (OpenSpec.upto spansApartSpec)

end Rows
end Go.Proofs.Ythkolpjbkbcmbaa
