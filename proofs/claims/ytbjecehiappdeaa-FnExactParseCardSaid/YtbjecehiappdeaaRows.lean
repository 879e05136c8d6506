/-
  No cell of these rows narrows 'for every input' (looked for: loops, veiled, ifaces, maps, wideKeys, modest, calm, conditions, laid).
  DERIVED. THE GIVEN ROWS OF THIS SEAT. 10 by the template 'for every input the law returns true; each argument reads behind the call as it read before'; 0 by the template 'total and deterministic' (their statements: YtbjecehiappdeaaTotals.lean).
  GIVEN WITH THE SEED: the statements are not yours to turn. If you find one false, say at which input.
  Laid BY PROGRAM, IN A SANDBOX (cutbox-rows.mjs): the forced cells as the released guide's own fill.sh prints them over the translation 7cafd512469d84ac… (all of the seat's roots in one cut). By AI agents, Wed Nov 11 2026. No macro, syntax, notation, axiom, sorry.
-/
import Derived.Test.YtbjecehiappdeaaChecked
import GoSem.Claim
import GoSem.ClaimJoined
import GoSem.ClaimMapViews
import Derived.JoinedTies
import Derived.KernelRfl
namespace Go.Proofs.Ytbjecehiappdeaa
/- THE CELL 'sum', in the pinned program and in every row, IS THE sha256 OF THE DUMP (.gsa) THAT YtbjecehiappdeaaProg.lean LOADS. Nothing in Lean hashes anything: it is a label: what it is worth is what the hold of that sum in a sandbox is worth. -/
noncomputable def Try.pinned : Pinned := { name := "ytbjecehiappdeaa", sum := "7cafd512469d84acea7209a785a108513ae58cbc2dbf6dc0794e24bcd7b8a4ee", checked := Try.checked }
namespace Rows
def none {H : Type} : Left H := { results := [], args := [] }

/-- 'laws.FnExactEqualBytes': WHATEVER THE INPUT: true; the input reads as it did. -/
def fnExactEqualBytesSpec : ChangeSpec := { name := "fnExactEqualBytes", fn := fun _ => fun
  | [d1, d2] => { results := [.lit (.bool true)], args := [d1, d2] }
  | _ => none }
def fnExactEqualBytesRow : OpenClaim := { program := "ytbjecehiappdeaa", sum := "7cafd512469d84acea7209a785a108513ae58cbc2dbf6dc0794e24bcd7b8a4ee", func := "loop.example/g03010/laws.FnExactEqualBytes", spec := "fnExactEqualBytes", apart := false }
def FnExactEqualBytesSaid : Prop := fnExactEqualBytesRow.holds Try.pinned (OpenSpec.ofChange fnExactEqualBytesSpec)

/-- ITS FALSE NEIGHBOUR: 'it returns false'. Refute it at one input. -/
def fnExactEqualBytesWrong : ChangeSpec := { name := "fnExactEqualBytes", fn := fun _ => fun
  | [d1, d2] => { results := [.lit (.bool false)], args := [d1, d2] }
  | _ => none }
def FnExactEqualBytesWrongFalsely : Prop := fnExactEqualBytesRow.holds Try.pinned (OpenSpec.ofChange fnExactEqualBytesWrong)

/-- 'laws.FnExactCardText': WHATEVER THE INPUT: true; the input reads as it did. -/
def fnExactCardTextSpec : ChangeSpec := { name := "fnExactCardText", fn := fun _ => fun
  | [d] => { results := [.lit (.bool true)], args := [d] }
  | _ => none }
def fnExactCardTextRow : OpenClaim := { program := "ytbjecehiappdeaa", sum := "7cafd512469d84acea7209a785a108513ae58cbc2dbf6dc0794e24bcd7b8a4ee", func := "loop.example/g03010/laws.FnExactCardText", spec := "fnExactCardText", apart := false }
def FnExactCardTextSaid : Prop := fnExactCardTextRow.holds Try.pinned (OpenSpec.ofChange fnExactCardTextSpec)

/-- ITS FALSE NEIGHBOUR: 'it returns false'. Refute it at one input. -/
def fnExactCardTextWrong : ChangeSpec := { name := "fnExactCardText", fn := fun _ => fun
  | [d] => { results := [.lit (.bool false)], args := [d] }
  | _ => none }
def FnExactCardTextWrongFalsely : Prop := fnExactCardTextRow.holds Try.pinned (OpenSpec.ofChange fnExactCardTextWrong)

/-- 'laws.FnExactPlaceOf': WHATEVER THE INPUT: true; the input reads as it did. -/
def fnExactPlaceOfSpec : ChangeSpec := { name := "fnExactPlaceOf", fn := fun _ => fun
  | [d1, d2] => { results := [.lit (.bool true)], args := [d1, d2] }
  | _ => none }
def fnExactPlaceOfRow : OpenClaim := { program := "ytbjecehiappdeaa", sum := "7cafd512469d84acea7209a785a108513ae58cbc2dbf6dc0794e24bcd7b8a4ee", func := "loop.example/g03010/laws.FnExactPlaceOf", spec := "fnExactPlaceOf", apart := false }
def FnExactPlaceOfSaid : Prop := fnExactPlaceOfRow.holds Try.pinned (OpenSpec.ofChange fnExactPlaceOfSpec)

/-- ITS FALSE NEIGHBOUR: 'it returns false'. Refute it at one input. -/
def fnExactPlaceOfWrong : ChangeSpec := { name := "fnExactPlaceOf", fn := fun _ => fun
  | [d1, d2] => { results := [.lit (.bool false)], args := [d1, d2] }
  | _ => none }
def FnExactPlaceOfWrongFalsely : Prop := fnExactPlaceOfRow.holds Try.pinned (OpenSpec.ofChange fnExactPlaceOfWrong)

/-- 'laws.FnExactHasCard': WHATEVER THE INPUT: true; the input reads as it did. -/
def fnExactHasCardSpec : ChangeSpec := { name := "fnExactHasCard", fn := fun _ => fun
  | [d1, d2] => { results := [.lit (.bool true)], args := [d1, d2] }
  | _ => none }
def fnExactHasCardRow : OpenClaim := { program := "ytbjecehiappdeaa", sum := "7cafd512469d84acea7209a785a108513ae58cbc2dbf6dc0794e24bcd7b8a4ee", func := "loop.example/g03010/laws.FnExactHasCard", spec := "fnExactHasCard", apart := false }
def FnExactHasCardSaid : Prop := fnExactHasCardRow.holds Try.pinned (OpenSpec.ofChange fnExactHasCardSpec)

/-- ITS FALSE NEIGHBOUR: 'it returns false'. Refute it at one input. -/
def fnExactHasCardWrong : ChangeSpec := { name := "fnExactHasCard", fn := fun _ => fun
  | [d1, d2] => { results := [.lit (.bool false)], args := [d1, d2] }
  | _ => none }
def FnExactHasCardWrongFalsely : Prop := fnExactHasCardRow.holds Try.pinned (OpenSpec.ofChange fnExactHasCardWrong)

/-- 'laws.FnExactEqualInts': WHATEVER THE INPUT: true; the input reads as it did. -/
def fnExactEqualIntsSpec : ChangeSpec := { name := "fnExactEqualInts", fn := fun _ => fun
  | [d1, d2] => { results := [.lit (.bool true)], args := [d1, d2] }
  | _ => none }
def fnExactEqualIntsRow : OpenClaim := { program := "ytbjecehiappdeaa", sum := "7cafd512469d84acea7209a785a108513ae58cbc2dbf6dc0794e24bcd7b8a4ee", func := "loop.example/g03010/laws.FnExactEqualInts", spec := "fnExactEqualInts", apart := false }
def FnExactEqualIntsSaid : Prop := fnExactEqualIntsRow.holds Try.pinned (OpenSpec.ofChange fnExactEqualIntsSpec)

/-- ITS FALSE NEIGHBOUR: 'it returns false'. Refute it at one input. -/
def fnExactEqualIntsWrong : ChangeSpec := { name := "fnExactEqualInts", fn := fun _ => fun
  | [d1, d2] => { results := [.lit (.bool false)], args := [d1, d2] }
  | _ => none }
def FnExactEqualIntsWrongFalsely : Prop := fnExactEqualIntsRow.holds Try.pinned (OpenSpec.ofChange fnExactEqualIntsWrong)

/-- 'laws.FnExactHash': WHATEVER THE INPUT: true; the input reads as it did. -/
def fnExactHashSpec : ChangeSpec := { name := "fnExactHash", fn := fun _ => fun
  | [d] => { results := [.lit (.bool true)], args := [d] }
  | _ => none }
def fnExactHashRow : OpenClaim := { program := "ytbjecehiappdeaa", sum := "7cafd512469d84acea7209a785a108513ae58cbc2dbf6dc0794e24bcd7b8a4ee", func := "loop.example/g03010/laws.FnExactHash", spec := "fnExactHash", apart := false }
def FnExactHashSaid : Prop := fnExactHashRow.holds Try.pinned (OpenSpec.ofChange fnExactHashSpec)

/-- ITS FALSE NEIGHBOUR: 'it returns false'. Refute it at one input. -/
def fnExactHashWrong : ChangeSpec := { name := "fnExactHash", fn := fun _ => fun
  | [d] => { results := [.lit (.bool false)], args := [d] }
  | _ => none }
def FnExactHashWrongFalsely : Prop := fnExactHashRow.holds Try.pinned (OpenSpec.ofChange fnExactHashWrong)

/-- 'laws.FnExactParseCard': WHATEVER THE INPUT: true; the input reads as it did. -/
def fnExactParseCardSpec : ChangeSpec := { name := "fnExactParseCard", fn := fun _ => fun
  | [d] => { results := [.lit (.bool true)], args := [d] }
  | _ => none }
def fnExactParseCardRow : OpenClaim := { program := "ytbjecehiappdeaa", sum := "7cafd512469d84acea7209a785a108513ae58cbc2dbf6dc0794e24bcd7b8a4ee", func := "loop.example/g03010/laws.FnExactParseCard", spec := "fnExactParseCard", inPlace := ["internal/bytealg.IndexByteString"], apart := false }
def FnExactParseCardSaid : Prop := fnExactParseCardRow.holds Try.pinned (OpenSpec.ofChange fnExactParseCardSpec)

/-- ITS FALSE NEIGHBOUR: 'it returns false'. Refute it at one input. -/
def fnExactParseCardWrong : ChangeSpec := { name := "fnExactParseCard", fn := fun _ => fun
  | [d] => { results := [.lit (.bool false)], args := [d] }
  | _ => none }
def FnExactParseCardWrongFalsely : Prop := fnExactParseCardRow.holds Try.pinned (OpenSpec.ofChange fnExactParseCardWrong)

/-- 'laws.FnExactIsHand': WHATEVER THE INPUT: true; the input reads as it did. -/
def fnExactIsHandSpec : ChangeSpec := { name := "fnExactIsHand", fn := fun _ => fun
  | [d] => { results := [.lit (.bool true)], args := [d] }
  | _ => none }
def fnExactIsHandRow : OpenClaim := { program := "ytbjecehiappdeaa", sum := "7cafd512469d84acea7209a785a108513ae58cbc2dbf6dc0794e24bcd7b8a4ee", func := "loop.example/g03010/laws.FnExactIsHand", spec := "fnExactIsHand", apart := false }
def FnExactIsHandSaid : Prop := fnExactIsHandRow.holds Try.pinned (OpenSpec.ofChange fnExactIsHandSpec)

/-- ITS FALSE NEIGHBOUR: 'it returns false'. Refute it at one input. -/
def fnExactIsHandWrong : ChangeSpec := { name := "fnExactIsHand", fn := fun _ => fun
  | [d] => { results := [.lit (.bool false)], args := [d] }
  | _ => none }
def FnExactIsHandWrongFalsely : Prop := fnExactIsHandRow.holds Try.pinned (OpenSpec.ofChange fnExactIsHandWrong)

/-- 'laws.FnExactCut': WHATEVER THE INPUT: true; the input reads as it did. -/
def fnExactCutSpec : ChangeSpec := { name := "fnExactCut", fn := fun _ => fun
  | [d1, d2] => { results := [.lit (.bool true)], args := [d1, d2] }
  | _ => none }
def fnExactCutRow : OpenClaim := { program := "ytbjecehiappdeaa", sum := "7cafd512469d84acea7209a785a108513ae58cbc2dbf6dc0794e24bcd7b8a4ee", func := "loop.example/g03010/laws.FnExactCut", spec := "fnExactCut", apart := false }
def FnExactCutSaid : Prop := fnExactCutRow.holds Try.pinned (OpenSpec.ofChange fnExactCutSpec)

/-- ITS FALSE NEIGHBOUR: 'it returns false'. Refute it at one input. -/
def fnExactCutWrong : ChangeSpec := { name := "fnExactCut", fn := fun _ => fun
  | [d1, d2] => { results := [.lit (.bool false)], args := [d1, d2] }
  | _ => none }
def FnExactCutWrongFalsely : Prop := fnExactCutRow.holds Try.pinned (OpenSpec.ofChange fnExactCutWrong)

/-- 'laws.FnExactKeyedHash': WHATEVER THE INPUT: true; the input reads as it did. -/
def fnExactKeyedHashSpec : ChangeSpec := { name := "fnExactKeyedHash", fn := fun _ => fun
  | [d1, d2] => { results := [.lit (.bool true)], args := [d1, d2] }
  | _ => none }
def fnExactKeyedHashRow : OpenClaim := { program := "ytbjecehiappdeaa", sum := "7cafd512469d84acea7209a785a108513ae58cbc2dbf6dc0794e24bcd7b8a4ee", func := "loop.example/g03010/laws.FnExactKeyedHash", spec := "fnExactKeyedHash", apart := false }
def FnExactKeyedHashSaid : Prop := fnExactKeyedHashRow.holds Try.pinned (OpenSpec.ofChange fnExactKeyedHashSpec)

/-- ITS FALSE NEIGHBOUR: 'it returns false'. Refute it at one input. -/
def fnExactKeyedHashWrong : ChangeSpec := { name := "fnExactKeyedHash", fn := fun _ => fun
  | [d1, d2] => { results := [.lit (.bool false)], args := [d1, d2] }
  | _ => none }
def FnExactKeyedHashWrongFalsely : Prop := fnExactKeyedHashRow.holds Try.pinned (OpenSpec.ofChange fnExactKeyedHashWrong)

/- THE SECOND FORM. 'bulk': how many values and letters a reading holds, each counted each time it is reached (what is shared counts as often as it is met; a slice's spare places count too). A statement '..UptoSaid' is the law's where the arguments, and the package variables that the reading takes, are together of bulk at most 1048576: NARROWER than '..Said'. Prove '..Said' where nothing that the law and all that it calls make is longer than what came in: it says more and counts as full. Else prove '..UptoSaid'. A law counts once. -/
mutual
def uptoBulk {H : Type} : DataW H → Nat
  | .lit (.string bytes) => bytes.length + 1
  | .lit _ => 1
  | .nil => 1
  | .ptr d => uptoBulk d + 1
  | .slice elems spare => uptoBulkAll elems + uptoBulkAll spare + 1
  | .agg parts => uptoBulkAll parts + 1
  | .iface _ d => uptoBulk d + 1
  | .map entries => uptoBulkEntries entries + 1
  | .held _ => 1
def uptoBulkAll {H : Type} : List (DataW H) → Nat
  | [] => 0
  | d :: r => uptoBulk d + uptoBulkAll r
def uptoBulkEntries {H : Type} : List (Lit × DataW H) → Nat
  | [] => 0
  | x :: r => uptoBulkEntry x + uptoBulkEntries r
def uptoBulkEntry {H : Type} : Lit × DataW H → Nat
  | (.string bytes, d) => bytes.length + uptoBulk d + 1
  | (_, d) => uptoBulk d + 1
 end
def uptoSmall : (H : Type) → List (DataW H) → Bool := fun _ ds => decide (uptoBulkAll ds ≤ 1048576)
def OpenSpec.upto (s : _root_.Go.ChangeSpec) : _root_.Go.OpenSpec := { _root_.Go.OpenSpec.ofChange s with cond := some uptoSmall }

/-- 'laws.FnExactEqualBytes', WHERE WHAT IT READS IS OF BULK AT MOST 1048576: true; the input reads as it did. -/
def fnExactEqualBytesUptoRow : OpenClaim := { program := "ytbjecehiappdeaa", sum := "7cafd512469d84acea7209a785a108513ae58cbc2dbf6dc0794e24bcd7b8a4ee", func := "loop.example/g03010/laws.FnExactEqualBytes", spec := "fnExactEqualBytes", apart := false, narrowed := true }
def FnExactEqualBytesUptoSaid : Prop := fnExactEqualBytesUptoRow.holds Try.pinned (OpenSpec.upto fnExactEqualBytesSpec)

/-- 'laws.FnExactCardText', WHERE WHAT IT READS IS OF BULK AT MOST 1048576: true; the input reads as it did. -/
def fnExactCardTextUptoRow : OpenClaim := { program := "ytbjecehiappdeaa", sum := "7cafd512469d84acea7209a785a108513ae58cbc2dbf6dc0794e24bcd7b8a4ee", func := "loop.example/g03010/laws.FnExactCardText", spec := "fnExactCardText", apart := false, narrowed := true }
def FnExactCardTextUptoSaid : Prop := fnExactCardTextUptoRow.holds Try.pinned (OpenSpec.upto fnExactCardTextSpec)

/-- 'laws.FnExactPlaceOf', WHERE WHAT IT READS IS OF BULK AT MOST 1048576: true; the input reads as it did. -/
def fnExactPlaceOfUptoRow : OpenClaim := { program := "ytbjecehiappdeaa", sum := "7cafd512469d84acea7209a785a108513ae58cbc2dbf6dc0794e24bcd7b8a4ee", func := "loop.example/g03010/laws.FnExactPlaceOf", spec := "fnExactPlaceOf", apart := false, narrowed := true }
def FnExactPlaceOfUptoSaid : Prop := fnExactPlaceOfUptoRow.holds Try.pinned (OpenSpec.upto fnExactPlaceOfSpec)

/-- 'laws.FnExactHasCard', WHERE WHAT IT READS IS OF BULK AT MOST 1048576: true; the input reads as it did. -/
def fnExactHasCardUptoRow : OpenClaim := { program := "ytbjecehiappdeaa", sum := "7cafd512469d84acea7209a785a108513ae58cbc2dbf6dc0794e24bcd7b8a4ee", func := "loop.example/g03010/laws.FnExactHasCard", spec := "fnExactHasCard", apart := false, narrowed := true }
def FnExactHasCardUptoSaid : Prop := fnExactHasCardUptoRow.holds Try.pinned (OpenSpec.upto fnExactHasCardSpec)

/-- 'laws.FnExactEqualInts', WHERE WHAT IT READS IS OF BULK AT MOST 1048576: true; the input reads as it did. -/
def fnExactEqualIntsUptoRow : OpenClaim := { program := "ytbjecehiappdeaa", sum := "7cafd512469d84acea7209a785a108513ae58cbc2dbf6dc0794e24bcd7b8a4ee", func := "loop.example/g03010/laws.FnExactEqualInts", spec := "fnExactEqualInts", apart := false, narrowed := true }
def FnExactEqualIntsUptoSaid : Prop := fnExactEqualIntsUptoRow.holds Try.pinned (OpenSpec.upto fnExactEqualIntsSpec)

/-- 'laws.FnExactHash', WHERE WHAT IT READS IS OF BULK AT MOST 1048576: true; the input reads as it did. -/
def fnExactHashUptoRow : OpenClaim := { program := "ytbjecehiappdeaa", sum := "7cafd512469d84acea7209a785a108513ae58cbc2dbf6dc0794e24bcd7b8a4ee", func := "loop.example/g03010/laws.FnExactHash", spec := "fnExactHash", apart := false, narrowed := true }
def FnExactHashUptoSaid : Prop := fnExactHashUptoRow.holds Try.pinned (OpenSpec.upto fnExactHashSpec)

/-- 'laws.FnExactParseCard', WHERE WHAT IT READS IS OF BULK AT MOST 1048576: true; the input reads as it did. -/
def fnExactParseCardUptoRow : OpenClaim := { program := "ytbjecehiappdeaa", sum := "7cafd512469d84acea7209a785a108513ae58cbc2dbf6dc0794e24bcd7b8a4ee", func := "loop.example/g03010/laws.FnExactParseCard", spec := "fnExactParseCard", inPlace := ["internal/bytealg.IndexByteString"], apart := false, narrowed := true }
def FnExactParseCardUptoSaid : Prop := fnExactParseCardUptoRow.holds Try.pinned (OpenSpec.upto fnExactParseCardSpec)

/-- 'laws.FnExactIsHand', WHERE WHAT IT READS IS OF BULK AT MOST 1048576: true; the input reads as it did. -/
def fnExactIsHandUptoRow : OpenClaim := { program := "ytbjecehiappdeaa", sum := "7cafd512469d84acea7209a785a108513ae58cbc2dbf6dc0794e24bcd7b8a4ee", func := "loop.example/g03010/laws.FnExactIsHand", spec := "fnExactIsHand", apart := false, narrowed := true }
def FnExactIsHandUptoSaid : Prop := fnExactIsHandUptoRow.holds Try.pinned (OpenSpec.upto fnExactIsHandSpec)

/-- 'laws.FnExactCut', WHERE WHAT IT READS IS OF BULK AT MOST 1048576: true; the input reads as it did. -/
def fnExactCutUptoRow : OpenClaim := { program := "ytbjecehiappdeaa", sum := "7cafd512469d84acea7209a785a108513ae58cbc2dbf6dc0794e24bcd7b8a4ee", func := "loop.example/g03010/laws.FnExactCut", spec := "fnExactCut", apart := false, narrowed := true }
def FnExactCutUptoSaid : Prop := fnExactCutUptoRow.holds Try.pinned (OpenSpec.upto fnExactCutSpec)

/-- 'laws.FnExactKeyedHash', WHERE WHAT IT READS IS OF BULK AT MOST 1048576: true; the input reads as it did. -/
def fnExactKeyedHashUptoRow : OpenClaim := { program := "ytbjecehiappdeaa", sum := "7cafd512469d84acea7209a785a108513ae58cbc2dbf6dc0794e24bcd7b8a4ee", func := "loop.example/g03010/laws.FnExactKeyedHash", spec := "fnExactKeyedHash", apart := false, narrowed := true }
def FnExactKeyedHashUptoSaid : Prop := fnExactKeyedHashUptoRow.holds Try.pinned (OpenSpec.upto fnExactKeyedHashSpec)

end Rows
end Go.Proofs.Ytbjecehiappdeaa
