/-
  No cell of these rows narrows 'for every input' (looked for: loops, veiled, ifaces, maps, wideKeys, modest, calm, conditions, laid).
  DERIVED. THE GIVEN ROWS OF THIS SEAT. 12 by the template 'for every input the law returns true; each argument reads behind the call as it read before'; 0 by the template 'total and deterministic' (their statements: YtbjecehiappdeacTotals.lean).
  GIVEN WITH THE SEED: the statements are not yours to turn. If you find one false, say at which input.
  Laid BY PROGRAM, IN A SANDBOX (cutbox-rows.mjs): the forced cells as the released guide's own fill.sh prints them over the translation fb5b1fa0431f426b… (all of the seat's roots in one cut). By AI agents, Wed Nov 11 2026. No macro, syntax, notation, axiom, sorry.
-/
import Derived.Test.YtbjecehiappdeacChecked
import GoSem.Claim
import GoSem.ClaimJoined
import GoSem.ClaimMapViews
import Derived.JoinedTies
import Derived.KernelRfl
namespace Go.Proofs.Ytbjecehiappdeac
/- THE CELL 'sum', in the pinned program and in every row, IS THE sha256 OF THE DUMP (.gsa) THAT YtbjecehiappdeacProg.lean LOADS. Nothing in Lean hashes anything: it is a label: what it is worth is what the hold of that sum in a sandbox is worth. -/
noncomputable def Try.pinned : Pinned := { name := "ytbjecehiappdeac", sum := "fb5b1fa0431f426b90794609de3baee195647927c9c3092618564f311c3f6cff", checked := Try.checked }
namespace Rows
def none {H : Type} : Left H := { results := [], args := [] }

/-- 'laws.FnExactShuffled': WHATEVER THE INPUT: true; the input reads as it did. -/
def fnExactShuffledSpec : ChangeSpec := { name := "fnExactShuffled", fn := fun _ => fun
  | [d1, d2] => { results := [.lit (.bool true)], args := [d1, d2] }
  | _ => none }
def fnExactShuffledRow : OpenClaim := { program := "ytbjecehiappdeac", sum := "fb5b1fa0431f426b90794609de3baee195647927c9c3092618564f311c3f6cff", func := "loop.example/g03010/laws.FnExactShuffled", spec := "fnExactShuffled", apart := false }
def FnExactShuffledSaid : Prop := fnExactShuffledRow.holds Try.pinned (OpenSpec.ofChange fnExactShuffledSpec)

/-- ITS FALSE NEIGHBOUR: 'it returns false'. Refute it at one input. -/
def fnExactShuffledWrong : ChangeSpec := { name := "fnExactShuffled", fn := fun _ => fun
  | [d1, d2] => { results := [.lit (.bool false)], args := [d1, d2] }
  | _ => none }
def FnExactShuffledWrongFalsely : Prop := fnExactShuffledRow.holds Try.pinned (OpenSpec.ofChange fnExactShuffledWrong)

/-- 'laws.FnExactDecrypt': WHATEVER THE INPUT: true; the input reads as it did. -/
def fnExactDecryptSpec : ChangeSpec := { name := "fnExactDecrypt", fn := fun _ => fun
  | [d1, d2] => { results := [.lit (.bool true)], args := [d1, d2] }
  | _ => none }
def fnExactDecryptRow : OpenClaim := { program := "ytbjecehiappdeac", sum := "fb5b1fa0431f426b90794609de3baee195647927c9c3092618564f311c3f6cff", func := "loop.example/g03010/laws.FnExactDecrypt", spec := "fnExactDecrypt", apart := false }
def FnExactDecryptSaid : Prop := fnExactDecryptRow.holds Try.pinned (OpenSpec.ofChange fnExactDecryptSpec)

/-- ITS FALSE NEIGHBOUR: 'it returns false'. Refute it at one input. -/
def fnExactDecryptWrong : ChangeSpec := { name := "fnExactDecrypt", fn := fun _ => fun
  | [d1, d2] => { results := [.lit (.bool false)], args := [d1, d2] }
  | _ => none }
def FnExactDecryptWrongFalsely : Prop := fnExactDecryptRow.holds Try.pinned (OpenSpec.ofChange fnExactDecryptWrong)

/-- 'laws.FnExactEncrypt': WHATEVER THE INPUT: true; the input reads as it did. -/
def fnExactEncryptSpec : ChangeSpec := { name := "fnExactEncrypt", fn := fun _ => fun
  | [d1, d2] => { results := [.lit (.bool true)], args := [d1, d2] }
  | _ => none }
def fnExactEncryptRow : OpenClaim := { program := "ytbjecehiappdeac", sum := "fb5b1fa0431f426b90794609de3baee195647927c9c3092618564f311c3f6cff", func := "loop.example/g03010/laws.FnExactEncrypt", spec := "fnExactEncrypt", apart := false }
def FnExactEncryptSaid : Prop := fnExactEncryptRow.holds Try.pinned (OpenSpec.ofChange fnExactEncryptSpec)

/-- ITS FALSE NEIGHBOUR: 'it returns false'. Refute it at one input. -/
def fnExactEncryptWrong : ChangeSpec := { name := "fnExactEncrypt", fn := fun _ => fun
  | [d1, d2] => { results := [.lit (.bool false)], args := [d1, d2] }
  | _ => none }
def FnExactEncryptWrongFalsely : Prop := fnExactEncryptRow.holds Try.pinned (OpenSpec.ofChange fnExactEncryptWrong)

/-- 'laws.FnExactReadBytes': WHATEVER THE INPUT: true; the input reads as it did. -/
def fnExactReadBytesSpec : ChangeSpec := { name := "fnExactReadBytes", fn := fun _ => fun
  | [d1, d2, d3] => { results := [.lit (.bool true)], args := [d1, d2, d3] }
  | _ => none }
def fnExactReadBytesRow : OpenClaim := { program := "ytbjecehiappdeac", sum := "fb5b1fa0431f426b90794609de3baee195647927c9c3092618564f311c3f6cff", func := "loop.example/g03010/laws.FnExactReadBytes", spec := "fnExactReadBytes", apart := false }
def FnExactReadBytesSaid : Prop := fnExactReadBytesRow.holds Try.pinned (OpenSpec.ofChange fnExactReadBytesSpec)

/-- ITS FALSE NEIGHBOUR: 'it returns false'. Refute it at one input. -/
def fnExactReadBytesWrong : ChangeSpec := { name := "fnExactReadBytes", fn := fun _ => fun
  | [d1, d2, d3] => { results := [.lit (.bool false)], args := [d1, d2, d3] }
  | _ => none }
def FnExactReadBytesWrongFalsely : Prop := fnExactReadBytesRow.holds Try.pinned (OpenSpec.ofChange fnExactReadBytesWrong)

/-- 'laws.FnExactWhoHas': WHATEVER THE INPUT: true; the input reads as it did. -/
def fnExactWhoHasSpec : ChangeSpec := { name := "fnExactWhoHas", fn := fun _ => fun
  | [d1, d2] => { results := [.lit (.bool true)], args := [d1, d2] }
  | _ => none }
def fnExactWhoHasRow : OpenClaim := { program := "ytbjecehiappdeac", sum := "fb5b1fa0431f426b90794609de3baee195647927c9c3092618564f311c3f6cff", func := "loop.example/g03010/laws.FnExactWhoHas", spec := "fnExactWhoHas", apart := false }
def FnExactWhoHasSaid : Prop := fnExactWhoHasRow.holds Try.pinned (OpenSpec.ofChange fnExactWhoHasSpec)

/-- ITS FALSE NEIGHBOUR: 'it returns false'. Refute it at one input. -/
def fnExactWhoHasWrong : ChangeSpec := { name := "fnExactWhoHas", fn := fun _ => fun
  | [d1, d2] => { results := [.lit (.bool false)], args := [d1, d2] }
  | _ => none }
def FnExactWhoHasWrongFalsely : Prop := fnExactWhoHasRow.holds Try.pinned (OpenSpec.ofChange fnExactWhoHasWrong)

/-- 'laws.FnCipher': WHATEVER THE INPUT: true; the input reads as it did. -/
def fnCipherSpec : ChangeSpec := { name := "fnCipher", fn := fun _ => fun
  | [d] => { results := [.lit (.bool true)], args := [d] }
  | _ => none }
def fnCipherRow : OpenClaim := { program := "ytbjecehiappdeac", sum := "fb5b1fa0431f426b90794609de3baee195647927c9c3092618564f311c3f6cff", func := "loop.example/g03010/laws.FnCipher", spec := "fnCipher", apart := false }
def FnCipherSaid : Prop := fnCipherRow.holds Try.pinned (OpenSpec.ofChange fnCipherSpec)

/-- ITS FALSE NEIGHBOUR: 'it returns false'. Refute it at one input. -/
def fnCipherWrong : ChangeSpec := { name := "fnCipher", fn := fun _ => fun
  | [d] => { results := [.lit (.bool false)], args := [d] }
  | _ => none }
def FnCipherWrongFalsely : Prop := fnCipherRow.holds Try.pinned (OpenSpec.ofChange fnCipherWrong)

/-- 'laws.FnExactEncodeInts': WHATEVER THE INPUT: true; the input reads as it did. -/
def fnExactEncodeIntsSpec : ChangeSpec := { name := "fnExactEncodeInts", fn := fun _ => fun
  | [d] => { results := [.lit (.bool true)], args := [d] }
  | _ => none }
def fnExactEncodeIntsRow : OpenClaim := { program := "ytbjecehiappdeac", sum := "fb5b1fa0431f426b90794609de3baee195647927c9c3092618564f311c3f6cff", func := "loop.example/g03010/laws.FnExactEncodeInts", spec := "fnExactEncodeInts", apart := false }
def FnExactEncodeIntsSaid : Prop := fnExactEncodeIntsRow.holds Try.pinned (OpenSpec.ofChange fnExactEncodeIntsSpec)

/-- ITS FALSE NEIGHBOUR: 'it returns false'. Refute it at one input. -/
def fnExactEncodeIntsWrong : ChangeSpec := { name := "fnExactEncodeInts", fn := fun _ => fun
  | [d] => { results := [.lit (.bool false)], args := [d] }
  | _ => none }
def FnExactEncodeIntsWrongFalsely : Prop := fnExactEncodeIntsRow.holds Try.pinned (OpenSpec.ofChange fnExactEncodeIntsWrong)

/-- 'laws.FnExactCollected': WHATEVER THE INPUT: true; the input reads as it did. -/
def fnExactCollectedSpec : ChangeSpec := { name := "fnExactCollected", fn := fun _ => fun
  | [d1, d2] => { results := [.lit (.bool true)], args := [d1, d2] }
  | _ => none }
def fnExactCollectedRow : OpenClaim := { program := "ytbjecehiappdeac", sum := "fb5b1fa0431f426b90794609de3baee195647927c9c3092618564f311c3f6cff", func := "loop.example/g03010/laws.FnExactCollected", spec := "fnExactCollected", apart := false }
def FnExactCollectedSaid : Prop := fnExactCollectedRow.holds Try.pinned (OpenSpec.ofChange fnExactCollectedSpec)

/-- ITS FALSE NEIGHBOUR: 'it returns false'. Refute it at one input. -/
def fnExactCollectedWrong : ChangeSpec := { name := "fnExactCollected", fn := fun _ => fun
  | [d1, d2] => { results := [.lit (.bool false)], args := [d1, d2] }
  | _ => none }
def FnExactCollectedWrongFalsely : Prop := fnExactCollectedRow.holds Try.pinned (OpenSpec.ofChange fnExactCollectedWrong)

/-- 'laws.FnExactAllApart': WHATEVER THE INPUT: true; the input reads as it did. -/
def fnExactAllApartSpec : ChangeSpec := { name := "fnExactAllApart", fn := fun _ => fun
  | [d] => { results := [.lit (.bool true)], args := [d] }
  | _ => none }
def fnExactAllApartRow : OpenClaim := { program := "ytbjecehiappdeac", sum := "fb5b1fa0431f426b90794609de3baee195647927c9c3092618564f311c3f6cff", func := "loop.example/g03010/laws.FnExactAllApart", spec := "fnExactAllApart", apart := false }
def FnExactAllApartSaid : Prop := fnExactAllApartRow.holds Try.pinned (OpenSpec.ofChange fnExactAllApartSpec)

/-- ITS FALSE NEIGHBOUR: 'it returns false'. Refute it at one input. -/
def fnExactAllApartWrong : ChangeSpec := { name := "fnExactAllApart", fn := fun _ => fun
  | [d] => { results := [.lit (.bool false)], args := [d] }
  | _ => none }
def FnExactAllApartWrongFalsely : Prop := fnExactAllApartRow.holds Try.pinned (OpenSpec.ofChange fnExactAllApartWrong)

/-- 'laws.FnKeyedHash': WHATEVER THE INPUT: true; the input reads as it did. -/
def fnKeyedHashSpec : ChangeSpec := { name := "fnKeyedHash", fn := fun _ => fun
  | [d] => { results := [.lit (.bool true)], args := [d] }
  | _ => none }
def fnKeyedHashRow : OpenClaim := { program := "ytbjecehiappdeac", sum := "fb5b1fa0431f426b90794609de3baee195647927c9c3092618564f311c3f6cff", func := "loop.example/g03010/laws.FnKeyedHash", spec := "fnKeyedHash", apart := false }
def FnKeyedHashSaid : Prop := fnKeyedHashRow.holds Try.pinned (OpenSpec.ofChange fnKeyedHashSpec)

/-- ITS FALSE NEIGHBOUR: 'it returns false'. Refute it at one input. -/
def fnKeyedHashWrong : ChangeSpec := { name := "fnKeyedHash", fn := fun _ => fun
  | [d] => { results := [.lit (.bool false)], args := [d] }
  | _ => none }
def FnKeyedHashWrongFalsely : Prop := fnKeyedHashRow.holds Try.pinned (OpenSpec.ofChange fnKeyedHashWrong)

/-- 'laws.FnCards': WHATEVER THE INPUT: true; the input reads as it did. -/
def fnCardsSpec : ChangeSpec := { name := "fnCards", fn := fun _ => fun
  | [d] => { results := [.lit (.bool true)], args := [d] }
  | _ => none }
def fnCardsRow : OpenClaim := { program := "ytbjecehiappdeac", sum := "fb5b1fa0431f426b90794609de3baee195647927c9c3092618564f311c3f6cff", func := "loop.example/g03010/laws.FnCards", spec := "fnCards", inPlace := ["internal/bytealg.IndexByteString"], apart := false }
def FnCardsSaid : Prop := fnCardsRow.holds Try.pinned (OpenSpec.ofChange fnCardsSpec)

/-- ITS FALSE NEIGHBOUR: 'it returns false'. Refute it at one input. -/
def fnCardsWrong : ChangeSpec := { name := "fnCards", fn := fun _ => fun
  | [d] => { results := [.lit (.bool false)], args := [d] }
  | _ => none }
def FnCardsWrongFalsely : Prop := fnCardsRow.holds Try.pinned (OpenSpec.ofChange fnCardsWrong)

/-- 'laws.FnExactDecodeInts': WHATEVER THE INPUT: true; the input reads as it did. -/
def fnExactDecodeIntsSpec : ChangeSpec := { name := "fnExactDecodeInts", fn := fun _ => fun
  | [d1, d2, d3] => { results := [.lit (.bool true)], args := [d1, d2, d3] }
  | _ => none }
def fnExactDecodeIntsRow : OpenClaim := { program := "ytbjecehiappdeac", sum := "fb5b1fa0431f426b90794609de3baee195647927c9c3092618564f311c3f6cff", func := "loop.example/g03010/laws.FnExactDecodeInts", spec := "fnExactDecodeInts", apart := false }
def FnExactDecodeIntsSaid : Prop := fnExactDecodeIntsRow.holds Try.pinned (OpenSpec.ofChange fnExactDecodeIntsSpec)

/-- ITS FALSE NEIGHBOUR: 'it returns false'. Refute it at one input. -/
def fnExactDecodeIntsWrong : ChangeSpec := { name := "fnExactDecodeInts", fn := fun _ => fun
  | [d1, d2, d3] => { results := [.lit (.bool false)], args := [d1, d2, d3] }
  | _ => none }
def FnExactDecodeIntsWrongFalsely : Prop := fnExactDecodeIntsRow.holds Try.pinned (OpenSpec.ofChange fnExactDecodeIntsWrong)

/- THE SECOND FORM. 'bulk': how many values and letters a reading holds, each counted each time it is reached (what is shared counts as often as it is met; a slice's spare places count too). A statement '..UptoSaid' is the law's where the arguments, and the package variables that the reading takes, are together of bulk at most 1048576: NARROWER than '..Said'. Prove '..Said' where nothing that the law and all that it calls make is longer than what came in: it says more and counts as full. Else prove '..UptoSaid'. A law counts once. -/
mutual
def uptoBulk {H : Type} : DataW H → Nat
  | .lit (.string bytes) => bytes.length + 1
  | .lit _ => 1
  | .nil => 1
  | .ptr d => uptoBulk d + 1
  | .slice elems spare => uptoBulkAll elems + uptoBulkAll spare + 1
  | .agg parts => uptoBulkAll parts + 1
  | .iface _ d => uptoBulk d + 1
  | .map entries => uptoBulkEntries entries + 1
  | .held _ => 1
def uptoBulkAll {H : Type} : List (DataW H) → Nat
  | [] => 0
  | d :: r => uptoBulk d + uptoBulkAll r
def uptoBulkEntries {H : Type} : List (Lit × DataW H) → Nat
  | [] => 0
  | x :: r => uptoBulkEntry x + uptoBulkEntries r
def uptoBulkEntry {H : Type} : Lit × DataW H → Nat
  | (.string bytes, d) => bytes.length + uptoBulk d + 1
  | (_, d) => uptoBulk d + 1
 end
def uptoSmall : (H : Type) → List (DataW H) → Bool := fun _ ds => decide (uptoBulkAll ds ≤ 1048576)
def OpenSpec.upto (s : _root_.Go.ChangeSpec) : _root_.Go.OpenSpec := { _root_.Go.OpenSpec.ofChange s with cond := some uptoSmall }

/-- 'laws.FnExactShuffled', WHERE WHAT IT READS IS OF BULK AT MOST 1048576: true; the input reads as it did. -/
def fnExactShuffledUptoRow : OpenClaim := { program := "ytbjecehiappdeac", sum := "fb5b1fa0431f426b90794609de3baee195647927c9c3092618564f311c3f6cff", func := "loop.example/g03010/laws.FnExactShuffled", spec := "fnExactShuffled", apart := false, narrowed := true }
def FnExactShuffledUptoSaid : Prop := fnExactShuffledUptoRow.holds Try.pinned (OpenSpec.upto fnExactShuffledSpec)

/-- 'laws.FnExactDecrypt', WHERE WHAT IT READS IS OF BULK AT MOST 1048576: true; the input reads as it did. -/
def fnExactDecryptUptoRow : OpenClaim := { program := "ytbjecehiappdeac", sum := "fb5b1fa0431f426b90794609de3baee195647927c9c3092618564f311c3f6cff", func := "loop.example/g03010/laws.FnExactDecrypt", spec := "fnExactDecrypt", apart := false, narrowed := true }
def FnExactDecryptUptoSaid : Prop := fnExactDecryptUptoRow.holds Try.pinned (OpenSpec.upto fnExactDecryptSpec)

/-- 'laws.FnExactEncrypt', WHERE WHAT IT READS IS OF BULK AT MOST 1048576: true; the input reads as it did. -/
def fnExactEncryptUptoRow : OpenClaim := { program := "ytbjecehiappdeac", sum := "fb5b1fa0431f426b90794609de3baee195647927c9c3092618564f311c3f6cff", func := "loop.example/g03010/laws.FnExactEncrypt", spec := "fnExactEncrypt", apart := false, narrowed := true }
def FnExactEncryptUptoSaid : Prop := fnExactEncryptUptoRow.holds Try.pinned (OpenSpec.upto fnExactEncryptSpec)

/-- 'laws.FnExactReadBytes', WHERE WHAT IT READS IS OF BULK AT MOST 1048576: true; the input reads as it did. -/
def fnExactReadBytesUptoRow : OpenClaim := { program := "ytbjecehiappdeac", sum := "fb5b1fa0431f426b90794609de3baee195647927c9c3092618564f311c3f6cff", func := "loop.example/g03010/laws.FnExactReadBytes", spec := "fnExactReadBytes", apart := false, narrowed := true }
def FnExactReadBytesUptoSaid : Prop := fnExactReadBytesUptoRow.holds Try.pinned (OpenSpec.upto fnExactReadBytesSpec)

/-- 'laws.FnExactWhoHas', WHERE WHAT IT READS IS OF BULK AT MOST 1048576: true; the input reads as it did. -/
def fnExactWhoHasUptoRow : OpenClaim := { program := "ytbjecehiappdeac", sum := "fb5b1fa0431f426b90794609de3baee195647927c9c3092618564f311c3f6cff", func := "loop.example/g03010/laws.FnExactWhoHas", spec := "fnExactWhoHas", apart := false, narrowed := true }
def FnExactWhoHasUptoSaid : Prop := fnExactWhoHasUptoRow.holds Try.pinned (OpenSpec.upto fnExactWhoHasSpec)

/-- 'laws.FnCipher', WHERE WHAT IT READS IS OF BULK AT MOST 1048576: true; the input reads as it did. -/
def fnCipherUptoRow : OpenClaim := { program := "ytbjecehiappdeac", sum := "fb5b1fa0431f426b90794609de3baee195647927c9c3092618564f311c3f6cff", func := "loop.example/g03010/laws.FnCipher", spec := "fnCipher", apart := false, narrowed := true }
def FnCipherUptoSaid : Prop := fnCipherUptoRow.holds Try.pinned (OpenSpec.upto fnCipherSpec)

/-- 'laws.FnExactEncodeInts', WHERE WHAT IT READS IS OF BULK AT MOST 1048576: true; the input reads as it did. -/
def fnExactEncodeIntsUptoRow : OpenClaim := { program := "ytbjecehiappdeac", sum := "fb5b1fa0431f426b90794609de3baee195647927c9c3092618564f311c3f6cff", func := "loop.example/g03010/laws.FnExactEncodeInts", spec := "fnExactEncodeInts", apart := false, narrowed := true }
def FnExactEncodeIntsUptoSaid : Prop := fnExactEncodeIntsUptoRow.holds Try.pinned (OpenSpec.upto fnExactEncodeIntsSpec)

/-- 'laws.FnExactCollected', WHERE WHAT IT READS IS OF BULK AT MOST 1048576: true; the input reads as it did. -/
def fnExactCollectedUptoRow : OpenClaim := { program := "ytbjecehiappdeac", sum := "fb5b1fa0431f426b90794609de3baee195647927c9c3092618564f311c3f6cff", func := "loop.example/g03010/laws.FnExactCollected", spec := "fnExactCollected", apart := false, narrowed := true }
def FnExactCollectedUptoSaid : Prop := fnExactCollectedUptoRow.holds Try.pinned (OpenSpec.upto fnExactCollectedSpec)

/-- 'laws.FnExactAllApart', WHERE WHAT IT READS IS OF BULK AT MOST 1048576: true; the input reads as it did. -/
def fnExactAllApartUptoRow : OpenClaim := { program := "ytbjecehiappdeac", sum := "fb5b1fa0431f426b90794609de3baee195647927c9c3092618564f311c3f6cff", func := "loop.example/g03010/laws.FnExactAllApart", spec := "fnExactAllApart", apart := false, narrowed := true }
def FnExactAllApartUptoSaid : Prop := fnExactAllApartUptoRow.holds Try.pinned (OpenSpec.upto fnExactAllApartSpec)

/-- 'laws.FnKeyedHash', WHERE WHAT IT READS IS OF BULK AT MOST 1048576: true; the input reads as it did. -/
def fnKeyedHashUptoRow : OpenClaim := { program := "ytbjecehiappdeac", sum := "fb5b1fa0431f426b90794609de3baee195647927c9c3092618564f311c3f6cff", func := "loop.example/g03010/laws.FnKeyedHash", spec := "fnKeyedHash", apart := false, narrowed := true }
def FnKeyedHashUptoSaid : Prop := fnKeyedHashUptoRow.holds Try.pinned (OpenSpec.upto fnKeyedHashSpec)

/-- 'laws.FnCards', WHERE WHAT IT READS IS OF BULK AT MOST 1048576: true; the input reads as it did. -/
def fnCardsUptoRow : OpenClaim := { program := "ytbjecehiappdeac", sum := "fb5b1fa0431f426b90794609de3baee195647927c9c3092618564f311c3f6cff", func := "loop.example/g03010/laws.FnCards", spec := "fnCards", inPlace := ["internal/bytealg.IndexByteString"], apart := false, narrowed := true }
def FnCardsUptoSaid : Prop := fnCardsUptoRow.holds Try.pinned (OpenSpec.upto fnCardsSpec)

/-- 'laws.FnExactDecodeInts', WHERE WHAT IT READS IS OF BULK AT MOST 1048576: true; the input reads as it did. -/
def fnExactDecodeIntsUptoRow : OpenClaim := { program := "ytbjecehiappdeac", sum := "fb5b1fa0431f426b90794609de3baee195647927c9c3092618564f311c3f6cff", func := "loop.example/g03010/laws.FnExactDecodeInts", spec := "fnExactDecodeInts", apart := false, narrowed := true }
def FnExactDecodeIntsUptoSaid : Prop := fnExactDecodeIntsUptoRow.holds Try.pinned (OpenSpec.upto fnExactDecodeIntsSpec)

end Rows
end Go.Proofs.Ytbjecehiappdeac
