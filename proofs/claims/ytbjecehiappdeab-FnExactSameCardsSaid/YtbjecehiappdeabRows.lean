/-
  No cell of these rows narrows 'for every input' (looked for: loops, veiled, ifaces, maps, wideKeys, modest, calm, conditions, laid).
  DERIVED. THE GIVEN ROWS OF THIS SEAT. 12 by the template 'for every input the law returns true; each argument reads behind the call as it read before'; 0 by the template 'total and deterministic' (their statements: YtbjecehiappdeabTotals.lean).
  GIVEN WITH THE SEED: the statements are not yours to turn. If you find one false, say at which input.
  Laid BY PROGRAM, IN A SANDBOX (cutbox-rows.mjs): the forced cells as the released guide's own fill.sh prints them over the translation 7dd8937132efce86… (all of the seat's roots in one cut). By AI agents, Wed Nov 11 2026. No macro, syntax, notation, axiom, sorry.
-/
import Derived.Test.YtbjecehiappdeabChecked
import GoSem.Claim
import GoSem.ClaimJoined
import GoSem.ClaimMapViews
import Derived.JoinedTies
import Derived.KernelRfl
namespace Go.Proofs.Ytbjecehiappdeab
/- THE CELL 'sum', in the pinned program and in every row, IS THE sha256 OF THE DUMP (.gsa) THAT YtbjecehiappdeabProg.lean LOADS. Nothing in Lean hashes anything: it is a label: what it is worth is what the hold of that sum in a sandbox is worth. -/
noncomputable def Try.pinned : Pinned := { name := "ytbjecehiappdeab", sum := "7dd8937132efce860bdc49066b4619595402e58dfbf5201e2f72fd948dcb1a4e", checked := Try.checked }
namespace Rows
def none {H : Type} : Left H := { results := [], args := [] }

/-- 'laws.FnExactWithout': WHATEVER THE INPUT: true; the input reads as it did. -/
def fnExactWithoutSpec : ChangeSpec := { name := "fnExactWithout", fn := fun _ => fun
  | [d1, d2] => { results := [.lit (.bool true)], args := [d1, d2] }
  | _ => none }
def fnExactWithoutRow : OpenClaim := { program := "ytbjecehiappdeab", sum := "7dd8937132efce860bdc49066b4619595402e58dfbf5201e2f72fd948dcb1a4e", func := "loop.example/g03010/laws.FnExactWithout", spec := "fnExactWithout", apart := false }
def FnExactWithoutSaid : Prop := fnExactWithoutRow.holds Try.pinned (OpenSpec.ofChange fnExactWithoutSpec)

/-- ITS FALSE NEIGHBOUR: 'it returns false'. Refute it at one input. -/
def fnExactWithoutWrong : ChangeSpec := { name := "fnExactWithout", fn := fun _ => fun
  | [d1, d2] => { results := [.lit (.bool false)], args := [d1, d2] }
  | _ => none }
def FnExactWithoutWrongFalsely : Prop := fnExactWithoutRow.holds Try.pinned (OpenSpec.ofChange fnExactWithoutWrong)

/-- 'laws.FnExactReadUvarint': WHATEVER THE INPUT: true; the input reads as it did. -/
def fnExactReadUvarintSpec : ChangeSpec := { name := "fnExactReadUvarint", fn := fun _ => fun
  | [d1, d2] => { results := [.lit (.bool true)], args := [d1, d2] }
  | _ => none }
def fnExactReadUvarintRow : OpenClaim := { program := "ytbjecehiappdeab", sum := "7dd8937132efce860bdc49066b4619595402e58dfbf5201e2f72fd948dcb1a4e", func := "loop.example/g03010/laws.FnExactReadUvarint", spec := "fnExactReadUvarint", apart := false }
def FnExactReadUvarintSaid : Prop := fnExactReadUvarintRow.holds Try.pinned (OpenSpec.ofChange fnExactReadUvarintSpec)

/-- ITS FALSE NEIGHBOUR: 'it returns false'. Refute it at one input. -/
def fnExactReadUvarintWrong : ChangeSpec := { name := "fnExactReadUvarint", fn := fun _ => fun
  | [d1, d2] => { results := [.lit (.bool false)], args := [d1, d2] }
  | _ => none }
def FnExactReadUvarintWrongFalsely : Prop := fnExactReadUvarintRow.holds Try.pinned (OpenSpec.ofChange fnExactReadUvarintWrong)

/-- 'laws.FnExactRiffle': WHATEVER THE INPUT: true; the input reads as it did. -/
def fnExactRiffleSpec : ChangeSpec := { name := "fnExactRiffle", fn := fun _ => fun
  | [d1, d2] => { results := [.lit (.bool true)], args := [d1, d2] }
  | _ => none }
def fnExactRiffleRow : OpenClaim := { program := "ytbjecehiappdeab", sum := "7dd8937132efce860bdc49066b4619595402e58dfbf5201e2f72fd948dcb1a4e", func := "loop.example/g03010/laws.FnExactRiffle", spec := "fnExactRiffle", apart := false }
def FnExactRiffleSaid : Prop := fnExactRiffleRow.holds Try.pinned (OpenSpec.ofChange fnExactRiffleSpec)

/-- ITS FALSE NEIGHBOUR: 'it returns false'. Refute it at one input. -/
def fnExactRiffleWrong : ChangeSpec := { name := "fnExactRiffle", fn := fun _ => fun
  | [d1, d2] => { results := [.lit (.bool false)], args := [d1, d2] }
  | _ => none }
def FnExactRiffleWrongFalsely : Prop := fnExactRiffleRow.holds Try.pinned (OpenSpec.ofChange fnExactRiffleWrong)

/-- 'laws.FnExactSorted': WHATEVER THE INPUT: true; the input reads as it did. -/
def fnExactSortedSpec : ChangeSpec := { name := "fnExactSorted", fn := fun _ => fun
  | [d] => { results := [.lit (.bool true)], args := [d] }
  | _ => none }
def fnExactSortedRow : OpenClaim := { program := "ytbjecehiappdeab", sum := "7dd8937132efce860bdc49066b4619595402e58dfbf5201e2f72fd948dcb1a4e", func := "loop.example/g03010/laws.FnExactSorted", spec := "fnExactSorted", apart := false }
def FnExactSortedSaid : Prop := fnExactSortedRow.holds Try.pinned (OpenSpec.ofChange fnExactSortedSpec)

/-- ITS FALSE NEIGHBOUR: 'it returns false'. Refute it at one input. -/
def fnExactSortedWrong : ChangeSpec := { name := "fnExactSorted", fn := fun _ => fun
  | [d] => { results := [.lit (.bool false)], args := [d] }
  | _ => none }
def FnExactSortedWrongFalsely : Prop := fnExactSortedRow.holds Try.pinned (OpenSpec.ofChange fnExactSortedWrong)

/-- 'laws.FnExactAppendUvarint': WHATEVER THE INPUT: true; the input reads as it did. -/
def fnExactAppendUvarintSpec : ChangeSpec := { name := "fnExactAppendUvarint", fn := fun _ => fun
  | [d1, d2] => { results := [.lit (.bool true)], args := [d1, d2] }
  | _ => none }
def fnExactAppendUvarintRow : OpenClaim := { program := "ytbjecehiappdeab", sum := "7dd8937132efce860bdc49066b4619595402e58dfbf5201e2f72fd948dcb1a4e", func := "loop.example/g03010/laws.FnExactAppendUvarint", spec := "fnExactAppendUvarint", apart := false }
def FnExactAppendUvarintSaid : Prop := fnExactAppendUvarintRow.holds Try.pinned (OpenSpec.ofChange fnExactAppendUvarintSpec)

/-- ITS FALSE NEIGHBOUR: 'it returns false'. Refute it at one input. -/
def fnExactAppendUvarintWrong : ChangeSpec := { name := "fnExactAppendUvarint", fn := fun _ => fun
  | [d1, d2] => { results := [.lit (.bool false)], args := [d1, d2] }
  | _ => none }
def FnExactAppendUvarintWrongFalsely : Prop := fnExactAppendUvarintRow.holds Try.pinned (OpenSpec.ofChange fnExactAppendUvarintWrong)

/-- 'laws.FnExactAppendBytes': WHATEVER THE INPUT: true; the input reads as it did. -/
def fnExactAppendBytesSpec : ChangeSpec := { name := "fnExactAppendBytes", fn := fun _ => fun
  | [d1, d2] => { results := [.lit (.bool true)], args := [d1, d2] }
  | _ => none }
def fnExactAppendBytesRow : OpenClaim := { program := "ytbjecehiappdeab", sum := "7dd8937132efce860bdc49066b4619595402e58dfbf5201e2f72fd948dcb1a4e", func := "loop.example/g03010/laws.FnExactAppendBytes", spec := "fnExactAppendBytes", apart := false }
def FnExactAppendBytesSaid : Prop := fnExactAppendBytesRow.holds Try.pinned (OpenSpec.ofChange fnExactAppendBytesSpec)

/-- ITS FALSE NEIGHBOUR: 'it returns false'. Refute it at one input. -/
def fnExactAppendBytesWrong : ChangeSpec := { name := "fnExactAppendBytes", fn := fun _ => fun
  | [d1, d2] => { results := [.lit (.bool false)], args := [d1, d2] }
  | _ => none }
def FnExactAppendBytesWrongFalsely : Prop := fnExactAppendBytesRow.holds Try.pinned (OpenSpec.ofChange fnExactAppendBytesWrong)

/-- 'laws.FnExactDeriveFromString': WHATEVER THE INPUT: true; the input reads as it did. -/
def fnExactDeriveFromStringSpec : ChangeSpec := { name := "fnExactDeriveFromString", fn := fun _ => fun
  | [d1, d2] => { results := [.lit (.bool true)], args := [d1, d2] }
  | _ => none }
def fnExactDeriveFromStringRow : OpenClaim := { program := "ytbjecehiappdeab", sum := "7dd8937132efce860bdc49066b4619595402e58dfbf5201e2f72fd948dcb1a4e", func := "loop.example/g03010/laws.FnExactDeriveFromString", spec := "fnExactDeriveFromString", apart := false }
def FnExactDeriveFromStringSaid : Prop := fnExactDeriveFromStringRow.holds Try.pinned (OpenSpec.ofChange fnExactDeriveFromStringSpec)

/-- ITS FALSE NEIGHBOUR: 'it returns false'. Refute it at one input. -/
def fnExactDeriveFromStringWrong : ChangeSpec := { name := "fnExactDeriveFromString", fn := fun _ => fun
  | [d1, d2] => { results := [.lit (.bool false)], args := [d1, d2] }
  | _ => none }
def FnExactDeriveFromStringWrongFalsely : Prop := fnExactDeriveFromStringRow.holds Try.pinned (OpenSpec.ofChange fnExactDeriveFromStringWrong)

/-- 'laws.FnExactFullDeck': WHATEVER THE INPUT: true; the input reads as it did. -/
def fnExactFullDeckSpec : ChangeSpec := { name := "fnExactFullDeck", fn := fun _ => fun
  | [] => { results := [.lit (.bool true)], args := [] }
  | _ => none }
def fnExactFullDeckRow : OpenClaim := { program := "ytbjecehiappdeab", sum := "7dd8937132efce860bdc49066b4619595402e58dfbf5201e2f72fd948dcb1a4e", func := "loop.example/g03010/laws.FnExactFullDeck", spec := "fnExactFullDeck", apart := false }
def FnExactFullDeckSaid : Prop := fnExactFullDeckRow.holds Try.pinned (OpenSpec.ofChange fnExactFullDeckSpec)

/-- ITS FALSE NEIGHBOUR: 'it returns false'. Refute it at one input. -/
def fnExactFullDeckWrong : ChangeSpec := { name := "fnExactFullDeck", fn := fun _ => fun
  | [] => { results := [.lit (.bool false)], args := [] }
  | _ => none }
def FnExactFullDeckWrongFalsely : Prop := fnExactFullDeckRow.holds Try.pinned (OpenSpec.ofChange fnExactFullDeckWrong)

/-- 'laws.FnExactBytesToInts': WHATEVER THE INPUT: true; the input reads as it did. -/
def fnExactBytesToIntsSpec : ChangeSpec := { name := "fnExactBytesToInts", fn := fun _ => fun
  | [d] => { results := [.lit (.bool true)], args := [d] }
  | _ => none }
def fnExactBytesToIntsRow : OpenClaim := { program := "ytbjecehiappdeab", sum := "7dd8937132efce860bdc49066b4619595402e58dfbf5201e2f72fd948dcb1a4e", func := "loop.example/g03010/laws.FnExactBytesToInts", spec := "fnExactBytesToInts", apart := false }
def FnExactBytesToIntsSaid : Prop := fnExactBytesToIntsRow.holds Try.pinned (OpenSpec.ofChange fnExactBytesToIntsSpec)

/-- ITS FALSE NEIGHBOUR: 'it returns false'. Refute it at one input. -/
def fnExactBytesToIntsWrong : ChangeSpec := { name := "fnExactBytesToInts", fn := fun _ => fun
  | [d] => { results := [.lit (.bool false)], args := [d] }
  | _ => none }
def FnExactBytesToIntsWrongFalsely : Prop := fnExactBytesToIntsRow.holds Try.pinned (OpenSpec.ofChange fnExactBytesToIntsWrong)

/-- 'laws.FnExactSameCards': WHATEVER THE INPUT: true; the input reads as it did. -/
def fnExactSameCardsSpec : ChangeSpec := { name := "fnExactSameCards", fn := fun _ => fun
  | [d1, d2] => { results := [.lit (.bool true)], args := [d1, d2] }
  | _ => none }
def fnExactSameCardsRow : OpenClaim := { program := "ytbjecehiappdeab", sum := "7dd8937132efce860bdc49066b4619595402e58dfbf5201e2f72fd948dcb1a4e", func := "loop.example/g03010/laws.FnExactSameCards", spec := "fnExactSameCards", apart := false }
def FnExactSameCardsSaid : Prop := fnExactSameCardsRow.holds Try.pinned (OpenSpec.ofChange fnExactSameCardsSpec)

/-- ITS FALSE NEIGHBOUR: 'it returns false'. Refute it at one input. -/
def fnExactSameCardsWrong : ChangeSpec := { name := "fnExactSameCards", fn := fun _ => fun
  | [d1, d2] => { results := [.lit (.bool false)], args := [d1, d2] }
  | _ => none }
def FnExactSameCardsWrongFalsely : Prop := fnExactSameCardsRow.holds Try.pinned (OpenSpec.ofChange fnExactSameCardsWrong)

/-- 'laws.FnExactMissing': WHATEVER THE INPUT: true; the input reads as it did. -/
def fnExactMissingSpec : ChangeSpec := { name := "fnExactMissing", fn := fun _ => fun
  | [d] => { results := [.lit (.bool true)], args := [d] }
  | _ => none }
def fnExactMissingRow : OpenClaim := { program := "ytbjecehiappdeab", sum := "7dd8937132efce860bdc49066b4619595402e58dfbf5201e2f72fd948dcb1a4e", func := "loop.example/g03010/laws.FnExactMissing", spec := "fnExactMissing", apart := false }
def FnExactMissingSaid : Prop := fnExactMissingRow.holds Try.pinned (OpenSpec.ofChange fnExactMissingSpec)

/-- ITS FALSE NEIGHBOUR: 'it returns false'. Refute it at one input. -/
def fnExactMissingWrong : ChangeSpec := { name := "fnExactMissing", fn := fun _ => fun
  | [d] => { results := [.lit (.bool false)], args := [d] }
  | _ => none }
def FnExactMissingWrongFalsely : Prop := fnExactMissingRow.holds Try.pinned (OpenSpec.ofChange fnExactMissingWrong)

/-- 'laws.FnExactTotalCards': WHATEVER THE INPUT: true; the input reads as it did. -/
def fnExactTotalCardsSpec : ChangeSpec := { name := "fnExactTotalCards", fn := fun _ => fun
  | [d] => { results := [.lit (.bool true)], args := [d] }
  | _ => none }
def fnExactTotalCardsRow : OpenClaim := { program := "ytbjecehiappdeab", sum := "7dd8937132efce860bdc49066b4619595402e58dfbf5201e2f72fd948dcb1a4e", func := "loop.example/g03010/laws.FnExactTotalCards", spec := "fnExactTotalCards", apart := false }
def FnExactTotalCardsSaid : Prop := fnExactTotalCardsRow.holds Try.pinned (OpenSpec.ofChange fnExactTotalCardsSpec)

/-- ITS FALSE NEIGHBOUR: 'it returns false'. Refute it at one input. -/
def fnExactTotalCardsWrong : ChangeSpec := { name := "fnExactTotalCards", fn := fun _ => fun
  | [d] => { results := [.lit (.bool false)], args := [d] }
  | _ => none }
def FnExactTotalCardsWrongFalsely : Prop := fnExactTotalCardsRow.holds Try.pinned (OpenSpec.ofChange fnExactTotalCardsWrong)

/- THE SECOND FORM. 'bulk': how many values and letters a reading holds, each counted each time it is reached (what is shared counts as often as it is met; a slice's spare places count too). A statement '..UptoSaid' is the law's where the arguments, and the package variables that the reading takes, are together of bulk at most 1048576: NARROWER than '..Said'. Prove '..Said' where nothing that the law and all that it calls make is longer than what came in: it says more and counts as full. Else prove '..UptoSaid'. A law counts once. -/
mutual
def uptoBulk {H : Type} : DataW H → Nat
  | .lit (.string bytes) => bytes.length + 1
  | .lit _ => 1
  | .nil => 1
  | .ptr d => uptoBulk d + 1
  | .slice elems spare => uptoBulkAll elems + uptoBulkAll spare + 1
  | .agg parts => uptoBulkAll parts + 1
  | .iface _ d => uptoBulk d + 1
  | .map entries => uptoBulkEntries entries + 1
  | .held _ => 1
def uptoBulkAll {H : Type} : List (DataW H) → Nat
  | [] => 0
  | d :: r => uptoBulk d + uptoBulkAll r
def uptoBulkEntries {H : Type} : List (Lit × DataW H) → Nat
  | [] => 0
  | x :: r => uptoBulkEntry x + uptoBulkEntries r
def uptoBulkEntry {H : Type} : Lit × DataW H → Nat
  | (.string bytes, d) => bytes.length + uptoBulk d + 1
  | (_, d) => uptoBulk d + 1
 end
def uptoSmall : (H : Type) → List (DataW H) → Bool := fun _ ds => decide (uptoBulkAll ds ≤ 1048576)
def OpenSpec.upto (s : _root_.Go.ChangeSpec) : _root_.Go.OpenSpec := { _root_.Go.OpenSpec.ofChange s with cond := some uptoSmall }

/-- 'laws.FnExactWithout', WHERE WHAT IT READS IS OF BULK AT MOST 1048576: true; the input reads as it did. -/
def fnExactWithoutUptoRow : OpenClaim := { program := "ytbjecehiappdeab", sum := "7dd8937132efce860bdc49066b4619595402e58dfbf5201e2f72fd948dcb1a4e", func := "loop.example/g03010/laws.FnExactWithout", spec := "fnExactWithout", apart := false, narrowed := true }
def FnExactWithoutUptoSaid : Prop := fnExactWithoutUptoRow.holds Try.pinned (OpenSpec.upto fnExactWithoutSpec)

/-- 'laws.FnExactReadUvarint', WHERE WHAT IT READS IS OF BULK AT MOST 1048576: true; the input reads as it did. -/
def fnExactReadUvarintUptoRow : OpenClaim := { program := "ytbjecehiappdeab", sum := "7dd8937132efce860bdc49066b4619595402e58dfbf5201e2f72fd948dcb1a4e", func := "loop.example/g03010/laws.FnExactReadUvarint", spec := "fnExactReadUvarint", apart := false, narrowed := true }
def FnExactReadUvarintUptoSaid : Prop := fnExactReadUvarintUptoRow.holds Try.pinned (OpenSpec.upto fnExactReadUvarintSpec)

/-- 'laws.FnExactRiffle', WHERE WHAT IT READS IS OF BULK AT MOST 1048576: true; the input reads as it did. -/
def fnExactRiffleUptoRow : OpenClaim := { program := "ytbjecehiappdeab", sum := "7dd8937132efce860bdc49066b4619595402e58dfbf5201e2f72fd948dcb1a4e", func := "loop.example/g03010/laws.FnExactRiffle", spec := "fnExactRiffle", apart := false, narrowed := true }
def FnExactRiffleUptoSaid : Prop := fnExactRiffleUptoRow.holds Try.pinned (OpenSpec.upto fnExactRiffleSpec)

/-- 'laws.FnExactSorted', WHERE WHAT IT READS IS OF BULK AT MOST 1048576: true; the input reads as it did. -/
def fnExactSortedUptoRow : OpenClaim := { program := "ytbjecehiappdeab", sum := "7dd8937132efce860bdc49066b4619595402e58dfbf5201e2f72fd948dcb1a4e", func := "loop.example/g03010/laws.FnExactSorted", spec := "fnExactSorted", apart := false, narrowed := true }
def FnExactSortedUptoSaid : Prop := fnExactSortedUptoRow.holds Try.pinned (OpenSpec.upto fnExactSortedSpec)

/-- 'laws.FnExactAppendUvarint', WHERE WHAT IT READS IS OF BULK AT MOST 1048576: true; the input reads as it did. -/
def fnExactAppendUvarintUptoRow : OpenClaim := { program := "ytbjecehiappdeab", sum := "7dd8937132efce860bdc49066b4619595402e58dfbf5201e2f72fd948dcb1a4e", func := "loop.example/g03010/laws.FnExactAppendUvarint", spec := "fnExactAppendUvarint", apart := false, narrowed := true }
def FnExactAppendUvarintUptoSaid : Prop := fnExactAppendUvarintUptoRow.holds Try.pinned (OpenSpec.upto fnExactAppendUvarintSpec)

/-- 'laws.FnExactAppendBytes', WHERE WHAT IT READS IS OF BULK AT MOST 1048576: true; the input reads as it did. -/
def fnExactAppendBytesUptoRow : OpenClaim := { program := "ytbjecehiappdeab", sum := "7dd8937132efce860bdc49066b4619595402e58dfbf5201e2f72fd948dcb1a4e", func := "loop.example/g03010/laws.FnExactAppendBytes", spec := "fnExactAppendBytes", apart := false, narrowed := true }
def FnExactAppendBytesUptoSaid : Prop := fnExactAppendBytesUptoRow.holds Try.pinned (OpenSpec.upto fnExactAppendBytesSpec)

/-- 'laws.FnExactDeriveFromString', WHERE WHAT IT READS IS OF BULK AT MOST 1048576: true; the input reads as it did. -/
def fnExactDeriveFromStringUptoRow : OpenClaim := { program := "ytbjecehiappdeab", sum := "7dd8937132efce860bdc49066b4619595402e58dfbf5201e2f72fd948dcb1a4e", func := "loop.example/g03010/laws.FnExactDeriveFromString", spec := "fnExactDeriveFromString", apart := false, narrowed := true }
def FnExactDeriveFromStringUptoSaid : Prop := fnExactDeriveFromStringUptoRow.holds Try.pinned (OpenSpec.upto fnExactDeriveFromStringSpec)

/-- 'laws.FnExactFullDeck', WHERE WHAT IT READS IS OF BULK AT MOST 1048576: true; the input reads as it did. -/
def fnExactFullDeckUptoRow : OpenClaim := { program := "ytbjecehiappdeab", sum := "7dd8937132efce860bdc49066b4619595402e58dfbf5201e2f72fd948dcb1a4e", func := "loop.example/g03010/laws.FnExactFullDeck", spec := "fnExactFullDeck", apart := false, narrowed := true }
def FnExactFullDeckUptoSaid : Prop := fnExactFullDeckUptoRow.holds Try.pinned (OpenSpec.upto fnExactFullDeckSpec)

/-- 'laws.FnExactBytesToInts', WHERE WHAT IT READS IS OF BULK AT MOST 1048576: true; the input reads as it did. -/
def fnExactBytesToIntsUptoRow : OpenClaim := { program := "ytbjecehiappdeab", sum := "7dd8937132efce860bdc49066b4619595402e58dfbf5201e2f72fd948dcb1a4e", func := "loop.example/g03010/laws.FnExactBytesToInts", spec := "fnExactBytesToInts", apart := false, narrowed := true }
def FnExactBytesToIntsUptoSaid : Prop := fnExactBytesToIntsUptoRow.holds Try.pinned (OpenSpec.upto fnExactBytesToIntsSpec)

/-- 'laws.FnExactSameCards', WHERE WHAT IT READS IS OF BULK AT MOST 1048576: true; the input reads as it did. -/
def fnExactSameCardsUptoRow : OpenClaim := { program := "ytbjecehiappdeab", sum := "7dd8937132efce860bdc49066b4619595402e58dfbf5201e2f72fd948dcb1a4e", func := "loop.example/g03010/laws.FnExactSameCards", spec := "fnExactSameCards", apart := false, narrowed := true }
def FnExactSameCardsUptoSaid : Prop := fnExactSameCardsUptoRow.holds Try.pinned (OpenSpec.upto fnExactSameCardsSpec)

/-- 'laws.FnExactMissing', WHERE WHAT IT READS IS OF BULK AT MOST 1048576: true; the input reads as it did. -/
def fnExactMissingUptoRow : OpenClaim := { program := "ytbjecehiappdeab", sum := "7dd8937132efce860bdc49066b4619595402e58dfbf5201e2f72fd948dcb1a4e", func := "loop.example/g03010/laws.FnExactMissing", spec := "fnExactMissing", apart := false, narrowed := true }
def FnExactMissingUptoSaid : Prop := fnExactMissingUptoRow.holds Try.pinned (OpenSpec.upto fnExactMissingSpec)

/-- 'laws.FnExactTotalCards', WHERE WHAT IT READS IS OF BULK AT MOST 1048576: true; the input reads as it did. -/
def fnExactTotalCardsUptoRow : OpenClaim := { program := "ytbjecehiappdeab", sum := "7dd8937132efce860bdc49066b4619595402e58dfbf5201e2f72fd948dcb1a4e", func := "loop.example/g03010/laws.FnExactTotalCards", spec := "fnExactTotalCards", apart := false, narrowed := true }
def FnExactTotalCardsUptoSaid : Prop := fnExactTotalCardsUptoRow.holds Try.pinned (OpenSpec.upto fnExactTotalCardsSpec)

end Rows
end Go.Proofs.Ytbjecehiappdeab
