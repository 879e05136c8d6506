/-
  No cell of these rows narrows 'for every input' (looked for: loops, veiled, ifaces, maps, wideKeys, modest, calm, conditions, laid).
  DERIVED. THE GIVEN ROWS OF THIS SEAT. 11 by the template 'for every input the law returns true; each argument reads behind the call as it read before'; 0 by the template 'total and deterministic' (their statements: YtpahdiihojfeoaaTotals.lean).
  GIVEN WITH THE SEED: the statements are not yours to turn. If you find one false, say at which input.
  Laid BY PROGRAM, IN A SANDBOX (cutbox-rows.mjs): the forced cells as the released guide's own fill.sh prints them over the translation c59371cb526fdf14… (all of the seat's roots in one cut). By AI agents, Wed Nov 11 2026. No macro, syntax, notation, axiom, sorry.
-/
import Derived.Test.YtpahdiihojfeoaaChecked
import GoSem.Claim
import GoSem.ClaimJoined
import GoSem.ClaimMapViews
import Derived.JoinedTies
import Derived.KernelRfl
namespace Go.Proofs.Ytpahdiihojfeoaa
/- THE CELL 'sum', in the pinned program and in every row, IS THE sha256 OF THE DUMP (.gsa) THAT YtpahdiihojfeoaaProg.lean LOADS. Nothing in Lean hashes anything: it is a label: what it is worth is what the hold of that sum in a sandbox is worth. -/
noncomputable def Try.pinned : Pinned := { name := "ytpahdiihojfeoaa", sum := "c59371cb526fdf14d9f566fe7f92a7908f4bf9c10b8fb48e37ee8ef5e4fd1c32", checked := Try.checked }
namespace Rows
def none {H : Type} : Left H := { results := [], args := [] }

/-- 'laws.FnExactConstants': WHATEVER THE INPUT: true; the input reads as it did. -/
def fnExactConstantsSpec : ChangeSpec := { name := "fnExactConstants", fn := fun _ => fun
  | [] => { results := [.lit (.bool true)], args := [] }
  | _ => none }
def fnExactConstantsRow : OpenClaim := { program := "ytpahdiihojfeoaa", sum := "c59371cb526fdf14d9f566fe7f92a7908f4bf9c10b8fb48e37ee8ef5e4fd1c32", func := "loop.example/g03010/laws.FnExactConstants", spec := "fnExactConstants", apart := false }
def FnExactConstantsSaid : Prop := fnExactConstantsRow.holds Try.pinned (OpenSpec.ofChange fnExactConstantsSpec)

/-- ITS FALSE NEIGHBOUR: 'it returns false'. Refute it at one input. -/
def fnExactConstantsWrong : ChangeSpec := { name := "fnExactConstants", fn := fun _ => fun
  | [] => { results := [.lit (.bool false)], args := [] }
  | _ => none }
def FnExactConstantsWrongFalsely : Prop := fnExactConstantsRow.holds Try.pinned (OpenSpec.ofChange fnExactConstantsWrong)

/-- 'laws.FnExactInRange': WHATEVER THE INPUT: true; the input reads as it did. -/
def fnExactInRangeSpec : ChangeSpec := { name := "fnExactInRange", fn := fun _ => fun
  | [d1, d2, d3] => { results := [.lit (.bool true)], args := [d1, d2, d3] }
  | _ => none }
def fnExactInRangeRow : OpenClaim := { program := "ytpahdiihojfeoaa", sum := "c59371cb526fdf14d9f566fe7f92a7908f4bf9c10b8fb48e37ee8ef5e4fd1c32", func := "loop.example/g03010/laws.FnExactInRange", spec := "fnExactInRange", apart := false }
def FnExactInRangeSaid : Prop := fnExactInRangeRow.holds Try.pinned (OpenSpec.ofChange fnExactInRangeSpec)

/-- ITS FALSE NEIGHBOUR: 'it returns false'. Refute it at one input. -/
def fnExactInRangeWrong : ChangeSpec := { name := "fnExactInRange", fn := fun _ => fun
  | [d1, d2, d3] => { results := [.lit (.bool false)], args := [d1, d2, d3] }
  | _ => none }
def FnExactInRangeWrongFalsely : Prop := fnExactInRangeRow.holds Try.pinned (OpenSpec.ofChange fnExactInRangeWrong)

/-- 'laws.FnExactIsCard': WHATEVER THE INPUT: true; the input reads as it did. -/
def fnExactIsCardSpec : ChangeSpec := { name := "fnExactIsCard", fn := fun _ => fun
  | [d] => { results := [.lit (.bool true)], args := [d] }
  | _ => none }
def fnExactIsCardRow : OpenClaim := { program := "ytpahdiihojfeoaa", sum := "c59371cb526fdf14d9f566fe7f92a7908f4bf9c10b8fb48e37ee8ef5e4fd1c32", func := "loop.example/g03010/laws.FnExactIsCard", spec := "fnExactIsCard", apart := false }
def FnExactIsCardSaid : Prop := fnExactIsCardRow.holds Try.pinned (OpenSpec.ofChange fnExactIsCardSpec)

/-- ITS FALSE NEIGHBOUR: 'it returns false'. Refute it at one input. -/
def fnExactIsCardWrong : ChangeSpec := { name := "fnExactIsCard", fn := fun _ => fun
  | [d] => { results := [.lit (.bool false)], args := [d] }
  | _ => none }
def FnExactIsCardWrongFalsely : Prop := fnExactIsCardRow.holds Try.pinned (OpenSpec.ofChange fnExactIsCardWrong)

/-- 'laws.FnExactIsValidKey': WHATEVER THE INPUT: true; the input reads as it did. -/
def fnExactIsValidKeySpec : ChangeSpec := { name := "fnExactIsValidKey", fn := fun _ => fun
  | [d] => { results := [.lit (.bool true)], args := [d] }
  | _ => none }
def fnExactIsValidKeyRow : OpenClaim := { program := "ytpahdiihojfeoaa", sum := "c59371cb526fdf14d9f566fe7f92a7908f4bf9c10b8fb48e37ee8ef5e4fd1c32", func := "loop.example/g03010/laws.FnExactIsValidKey", spec := "fnExactIsValidKey", apart := false }
def FnExactIsValidKeySaid : Prop := fnExactIsValidKeyRow.holds Try.pinned (OpenSpec.ofChange fnExactIsValidKeySpec)

/-- ITS FALSE NEIGHBOUR: 'it returns false'. Refute it at one input. -/
def fnExactIsValidKeyWrong : ChangeSpec := { name := "fnExactIsValidKey", fn := fun _ => fun
  | [d] => { results := [.lit (.bool false)], args := [d] }
  | _ => none }
def FnExactIsValidKeyWrongFalsely : Prop := fnExactIsValidKeyRow.holds Try.pinned (OpenSpec.ofChange fnExactIsValidKeyWrong)

/-- 'laws.FnExactMax': WHATEVER THE INPUT: true; the input reads as it did. -/
def fnExactMaxSpec : ChangeSpec := { name := "fnExactMax", fn := fun _ => fun
  | [d1, d2] => { results := [.lit (.bool true)], args := [d1, d2] }
  | _ => none }
def fnExactMaxRow : OpenClaim := { program := "ytpahdiihojfeoaa", sum := "c59371cb526fdf14d9f566fe7f92a7908f4bf9c10b8fb48e37ee8ef5e4fd1c32", func := "loop.example/g03010/laws.FnExactMax", spec := "fnExactMax", apart := false }
def FnExactMaxSaid : Prop := fnExactMaxRow.holds Try.pinned (OpenSpec.ofChange fnExactMaxSpec)

/-- ITS FALSE NEIGHBOUR: 'it returns false'. Refute it at one input. -/
def fnExactMaxWrong : ChangeSpec := { name := "fnExactMax", fn := fun _ => fun
  | [d1, d2] => { results := [.lit (.bool false)], args := [d1, d2] }
  | _ => none }
def FnExactMaxWrongFalsely : Prop := fnExactMaxRow.holds Try.pinned (OpenSpec.ofChange fnExactMaxWrong)

/-- 'laws.FnExactMin': WHATEVER THE INPUT: true; the input reads as it did. -/
def fnExactMinSpec : ChangeSpec := { name := "fnExactMin", fn := fun _ => fun
  | [d1, d2] => { results := [.lit (.bool true)], args := [d1, d2] }
  | _ => none }
def fnExactMinRow : OpenClaim := { program := "ytpahdiihojfeoaa", sum := "c59371cb526fdf14d9f566fe7f92a7908f4bf9c10b8fb48e37ee8ef5e4fd1c32", func := "loop.example/g03010/laws.FnExactMin", spec := "fnExactMin", apart := false }
def FnExactMinSaid : Prop := fnExactMinRow.holds Try.pinned (OpenSpec.ofChange fnExactMinSpec)

/-- ITS FALSE NEIGHBOUR: 'it returns false'. Refute it at one input. -/
def fnExactMinWrong : ChangeSpec := { name := "fnExactMin", fn := fun _ => fun
  | [d1, d2] => { results := [.lit (.bool false)], args := [d1, d2] }
  | _ => none }
def FnExactMinWrongFalsely : Prop := fnExactMinRow.holds Try.pinned (OpenSpec.ofChange fnExactMinWrong)

/-- 'laws.FnExactCeilDiv': WHATEVER THE INPUT: true; the input reads as it did. -/
def fnExactCeilDivSpec : ChangeSpec := { name := "fnExactCeilDiv", fn := fun _ => fun
  | [d1, d2] => { results := [.lit (.bool true)], args := [d1, d2] }
  | _ => none }
def fnExactCeilDivRow : OpenClaim := { program := "ytpahdiihojfeoaa", sum := "c59371cb526fdf14d9f566fe7f92a7908f4bf9c10b8fb48e37ee8ef5e4fd1c32", func := "loop.example/g03010/laws.FnExactCeilDiv", spec := "fnExactCeilDiv", apart := false }
def FnExactCeilDivSaid : Prop := fnExactCeilDivRow.holds Try.pinned (OpenSpec.ofChange fnExactCeilDivSpec)

/-- ITS FALSE NEIGHBOUR: 'it returns false'. Refute it at one input. -/
def fnExactCeilDivWrong : ChangeSpec := { name := "fnExactCeilDiv", fn := fun _ => fun
  | [d1, d2] => { results := [.lit (.bool false)], args := [d1, d2] }
  | _ => none }
def FnExactCeilDivWrongFalsely : Prop := fnExactCeilDivRow.holds Try.pinned (OpenSpec.ofChange fnExactCeilDivWrong)

/-- 'laws.FnExactMod': WHATEVER THE INPUT: true; the input reads as it did. -/
def fnExactModSpec : ChangeSpec := { name := "fnExactMod", fn := fun _ => fun
  | [d1, d2] => { results := [.lit (.bool true)], args := [d1, d2] }
  | _ => none }
def fnExactModRow : OpenClaim := { program := "ytpahdiihojfeoaa", sum := "c59371cb526fdf14d9f566fe7f92a7908f4bf9c10b8fb48e37ee8ef5e4fd1c32", func := "loop.example/g03010/laws.FnExactMod", spec := "fnExactMod", apart := false }
def FnExactModSaid : Prop := fnExactModRow.holds Try.pinned (OpenSpec.ofChange fnExactModSpec)

/-- ITS FALSE NEIGHBOUR: 'it returns false'. Refute it at one input. -/
def fnExactModWrong : ChangeSpec := { name := "fnExactMod", fn := fun _ => fun
  | [d1, d2] => { results := [.lit (.bool false)], args := [d1, d2] }
  | _ => none }
def FnExactModWrongFalsely : Prop := fnExactModRow.holds Try.pinned (OpenSpec.ofChange fnExactModWrong)

/-- 'laws.FnExactRankOf': WHATEVER THE INPUT: true; the input reads as it did. -/
def fnExactRankOfSpec : ChangeSpec := { name := "fnExactRankOf", fn := fun _ => fun
  | [d] => { results := [.lit (.bool true)], args := [d] }
  | _ => none }
def fnExactRankOfRow : OpenClaim := { program := "ytpahdiihojfeoaa", sum := "c59371cb526fdf14d9f566fe7f92a7908f4bf9c10b8fb48e37ee8ef5e4fd1c32", func := "loop.example/g03010/laws.FnExactRankOf", spec := "fnExactRankOf", apart := false }
def FnExactRankOfSaid : Prop := fnExactRankOfRow.holds Try.pinned (OpenSpec.ofChange fnExactRankOfSpec)

/-- ITS FALSE NEIGHBOUR: 'it returns false'. Refute it at one input. -/
def fnExactRankOfWrong : ChangeSpec := { name := "fnExactRankOf", fn := fun _ => fun
  | [d] => { results := [.lit (.bool false)], args := [d] }
  | _ => none }
def FnExactRankOfWrongFalsely : Prop := fnExactRankOfRow.holds Try.pinned (OpenSpec.ofChange fnExactRankOfWrong)

/-- 'laws.FnExactSuitOf': WHATEVER THE INPUT: true; the input reads as it did. -/
def fnExactSuitOfSpec : ChangeSpec := { name := "fnExactSuitOf", fn := fun _ => fun
  | [d] => { results := [.lit (.bool true)], args := [d] }
  | _ => none }
def fnExactSuitOfRow : OpenClaim := { program := "ytpahdiihojfeoaa", sum := "c59371cb526fdf14d9f566fe7f92a7908f4bf9c10b8fb48e37ee8ef5e4fd1c32", func := "loop.example/g03010/laws.FnExactSuitOf", spec := "fnExactSuitOf", apart := false }
def FnExactSuitOfSaid : Prop := fnExactSuitOfRow.holds Try.pinned (OpenSpec.ofChange fnExactSuitOfSpec)

/-- ITS FALSE NEIGHBOUR: 'it returns false'. Refute it at one input. -/
def fnExactSuitOfWrong : ChangeSpec := { name := "fnExactSuitOf", fn := fun _ => fun
  | [d] => { results := [.lit (.bool false)], args := [d] }
  | _ => none }
def FnExactSuitOfWrongFalsely : Prop := fnExactSuitOfRow.holds Try.pinned (OpenSpec.ofChange fnExactSuitOfWrong)

/-- 'laws.FnExactIsRed': WHATEVER THE INPUT: true; the input reads as it did. -/
def fnExactIsRedSpec : ChangeSpec := { name := "fnExactIsRed", fn := fun _ => fun
  | [d] => { results := [.lit (.bool true)], args := [d] }
  | _ => none }
def fnExactIsRedRow : OpenClaim := { program := "ytpahdiihojfeoaa", sum := "c59371cb526fdf14d9f566fe7f92a7908f4bf9c10b8fb48e37ee8ef5e4fd1c32", func := "loop.example/g03010/laws.FnExactIsRed", spec := "fnExactIsRed", apart := false }
def FnExactIsRedSaid : Prop := fnExactIsRedRow.holds Try.pinned (OpenSpec.ofChange fnExactIsRedSpec)

/-- ITS FALSE NEIGHBOUR: 'it returns false'. Refute it at one input. -/
def fnExactIsRedWrong : ChangeSpec := { name := "fnExactIsRed", fn := fun _ => fun
  | [d] => { results := [.lit (.bool false)], args := [d] }
  | _ => none }
def FnExactIsRedWrongFalsely : Prop := fnExactIsRedRow.holds Try.pinned (OpenSpec.ofChange fnExactIsRedWrong)

/- THE SECOND FORM. 'bulk': how many values and letters a reading holds, each counted each time it is reached (what is shared counts as often as it is met; a slice's spare places count too). A statement '..UptoSaid' is the law's where the arguments, and the package variables that the reading takes, are together of bulk at most 1048576: NARROWER than '..Said'. Prove '..Said' where nothing that the law and all that it calls make is longer than what came in: it says more and counts as full. Else prove '..UptoSaid'. A law counts once. -/
mutual
def uptoBulk {H : Type} : DataW H → Nat
  | .lit (.string bytes) => bytes.length + 1
  | .lit _ => 1
  | .nil => 1
  | .ptr d => uptoBulk d + 1
  | .slice elems spare => uptoBulkAll elems + uptoBulkAll spare + 1
  | .agg parts => uptoBulkAll parts + 1
  | .iface _ d => uptoBulk d + 1
  | .map entries => uptoBulkEntries entries + 1
  | .held _ => 1
def uptoBulkAll {H : Type} : List (DataW H) → Nat
  | [] => 0
  | d :: r => uptoBulk d + uptoBulkAll r
def uptoBulkEntries {H : Type} : List (Lit × DataW H) → Nat
  | [] => 0
  | x :: r => uptoBulkEntry x + uptoBulkEntries r
def uptoBulkEntry {H : Type} : Lit × DataW H → Nat
  | (.string bytes, d) => bytes.length + uptoBulk d + 1
  | (_, d) => uptoBulk d + 1
 end
def uptoSmall : (H : Type) → List (DataW H) → Bool := fun _ ds => decide (uptoBulkAll ds ≤ 1048576)
def OpenSpec.upto (s : _root_.Go.ChangeSpec) : _root_.Go.OpenSpec := { _root_.Go.OpenSpec.ofChange s with cond := some uptoSmall }

/-- 'laws.FnExactConstants', WHERE WHAT IT READS IS OF BULK AT MOST 1048576: true; the input reads as it did. -/
def fnExactConstantsUptoRow : OpenClaim := { program := "ytpahdiihojfeoaa", sum := "c59371cb526fdf14d9f566fe7f92a7908f4bf9c10b8fb48e37ee8ef5e4fd1c32", func := "loop.example/g03010/laws.FnExactConstants", spec := "fnExactConstants", apart := false, narrowed := true }
def FnExactConstantsUptoSaid : Prop := fnExactConstantsUptoRow.holds Try.pinned (OpenSpec.upto fnExactConstantsSpec)

/-- 'laws.FnExactInRange', WHERE WHAT IT READS IS OF BULK AT MOST 1048576: true; the input reads as it did. -/
def fnExactInRangeUptoRow : OpenClaim := { program := "ytpahdiihojfeoaa", sum := "c59371cb526fdf14d9f566fe7f92a7908f4bf9c10b8fb48e37ee8ef5e4fd1c32", func := "loop.example/g03010/laws.FnExactInRange", spec := "fnExactInRange", apart := false, narrowed := true }
def FnExactInRangeUptoSaid : Prop := fnExactInRangeUptoRow.holds Try.pinned (OpenSpec.upto fnExactInRangeSpec)

/-- 'laws.FnExactIsCard', WHERE WHAT IT READS IS OF BULK AT MOST 1048576: true; the input reads as it did. -/
def fnExactIsCardUptoRow : OpenClaim := { program := "ytpahdiihojfeoaa", sum := "c59371cb526fdf14d9f566fe7f92a7908f4bf9c10b8fb48e37ee8ef5e4fd1c32", func := "loop.example/g03010/laws.FnExactIsCard", spec := "fnExactIsCard", apart := false, narrowed := true }
def FnExactIsCardUptoSaid : Prop := fnExactIsCardUptoRow.holds Try.pinned (OpenSpec.upto fnExactIsCardSpec)

/-- 'laws.FnExactIsValidKey', WHERE WHAT IT READS IS OF BULK AT MOST 1048576: true; the input reads as it did. -/
def fnExactIsValidKeyUptoRow : OpenClaim := { program := "ytpahdiihojfeoaa", sum := "c59371cb526fdf14d9f566fe7f92a7908f4bf9c10b8fb48e37ee8ef5e4fd1c32", func := "loop.example/g03010/laws.FnExactIsValidKey", spec := "fnExactIsValidKey", apart := false, narrowed := true }
def FnExactIsValidKeyUptoSaid : Prop := fnExactIsValidKeyUptoRow.holds Try.pinned (OpenSpec.upto fnExactIsValidKeySpec)

/-- 'laws.FnExactMax', WHERE WHAT IT READS IS OF BULK AT MOST 1048576: true; the input reads as it did. -/
def fnExactMaxUptoRow : OpenClaim := { program := "ytpahdiihojfeoaa", sum := "c59371cb526fdf14d9f566fe7f92a7908f4bf9c10b8fb48e37ee8ef5e4fd1c32", func := "loop.example/g03010/laws.FnExactMax", spec := "fnExactMax", apart := false, narrowed := true }
def FnExactMaxUptoSaid : Prop := fnExactMaxUptoRow.holds Try.pinned (OpenSpec.upto fnExactMaxSpec)

/-- 'laws.FnExactMin', WHERE WHAT IT READS IS OF BULK AT MOST 1048576: true; the input reads as it did. -/
def fnExactMinUptoRow : OpenClaim := { program := "ytpahdiihojfeoaa", sum := "c59371cb526fdf14d9f566fe7f92a7908f4bf9c10b8fb48e37ee8ef5e4fd1c32", func := "loop.example/g03010/laws.FnExactMin", spec := "fnExactMin", apart := false, narrowed := true }
def FnExactMinUptoSaid : Prop := fnExactMinUptoRow.holds Try.pinned (OpenSpec.upto fnExactMinSpec)

/-- 'laws.FnExactCeilDiv', WHERE WHAT IT READS IS OF BULK AT MOST 1048576: true; the input reads as it did. -/
def fnExactCeilDivUptoRow : OpenClaim := { program := "ytpahdiihojfeoaa", sum := "c59371cb526fdf14d9f566fe7f92a7908f4bf9c10b8fb48e37ee8ef5e4fd1c32", func := "loop.example/g03010/laws.FnExactCeilDiv", spec := "fnExactCeilDiv", apart := false, narrowed := true }
def FnExactCeilDivUptoSaid : Prop := fnExactCeilDivUptoRow.holds Try.pinned (OpenSpec.upto fnExactCeilDivSpec)

/-- 'laws.FnExactMod', WHERE WHAT IT READS IS OF BULK AT MOST 1048576: true; the input reads as it did. -/
def fnExactModUptoRow : OpenClaim := { program := "ytpahdiihojfeoaa", sum := "c59371cb526fdf14d9f566fe7f92a7908f4bf9c10b8fb48e37ee8ef5e4fd1c32", func := "loop.example/g03010/laws.FnExactMod", spec := "fnExactMod", apart := false, narrowed := true }
def FnExactModUptoSaid : Prop := fnExactModUptoRow.holds Try.pinned (OpenSpec.upto fnExactModSpec)

/-- 'laws.FnExactRankOf', WHERE WHAT IT READS IS OF BULK AT MOST 1048576: true; the input reads as it did. -/
def fnExactRankOfUptoRow : OpenClaim := { program := "ytpahdiihojfeoaa", sum := "c59371cb526fdf14d9f566fe7f92a7908f4bf9c10b8fb48e37ee8ef5e4fd1c32", func := "loop.example/g03010/laws.FnExactRankOf", spec := "fnExactRankOf", apart := false, narrowed := true }
def FnExactRankOfUptoSaid : Prop := fnExactRankOfUptoRow.holds Try.pinned (OpenSpec.upto fnExactRankOfSpec)

/-- 'laws.FnExactSuitOf', WHERE WHAT IT READS IS OF BULK AT MOST 1048576: true; the input reads as it did. -/
def fnExactSuitOfUptoRow : OpenClaim := { program := "ytpahdiihojfeoaa", sum := "c59371cb526fdf14d9f566fe7f92a7908f4bf9c10b8fb48e37ee8ef5e4fd1c32", func := "loop.example/g03010/laws.FnExactSuitOf", spec := "fnExactSuitOf", apart := false, narrowed := true }
def FnExactSuitOfUptoSaid : Prop := fnExactSuitOfUptoRow.holds Try.pinned (OpenSpec.upto fnExactSuitOfSpec)

/-- 'laws.FnExactIsRed', WHERE WHAT IT READS IS OF BULK AT MOST 1048576: true; the input reads as it did. -/
def fnExactIsRedUptoRow : OpenClaim := { program := "ytpahdiihojfeoaa", sum := "c59371cb526fdf14d9f566fe7f92a7908f4bf9c10b8fb48e37ee8ef5e4fd1c32", func := "loop.example/g03010/laws.FnExactIsRed", spec := "fnExactIsRed", apart := false, narrowed := true }
def FnExactIsRedUptoSaid : Prop := fnExactIsRedUptoRow.holds Try.pinned (OpenSpec.upto fnExactIsRedSpec)

end Rows
end Go.Proofs.Ytpahdiihojfeoaa
