/-
  No cell of these rows narrows 'for every input' (looked for: loops, veiled, ifaces, maps, wideKeys, modest, calm, conditions, laid).
  DERIVED. THE GIVEN ROWS OF THIS SEAT. 7 by the template 'for every input the law returns true; each argument reads behind the call as it read before'; 0 by the template 'total and deterministic' (their statements: YtajdppfngnpklaaTotals.lean).
  GIVEN WITH THE SEED: the statements are not yours to turn. If you find one false, say at which input.
  Laid BY PROGRAM, IN A SANDBOX (cutbox-rows.mjs): the forced cells as the released guide's own fill.sh prints them over the translation f8c91a0348dab40d… (all of the seat's roots in one cut). By AI agents, Wed Nov 11 2026. No macro, syntax, notation, axiom, sorry.
-/
import Derived.Test.YtajdppfngnpklaaChecked
import GoSem.Claim
import GoSem.ClaimJoined
import GoSem.ClaimMapViews
import Derived.JoinedTies
import Derived.KernelRfl
namespace Go.Proofs.Ytajdppfngnpklaa
/- THE CELL 'sum', in the pinned program and in every row, IS THE sha256 OF THE DUMP (.gsa) THAT YtajdppfngnpklaaProg.lean LOADS. Nothing in Lean hashes anything: it is a label: what it is worth is what the hold of that sum in a sandbox is worth. -/
noncomputable def Try.pinned : Pinned := { name := "ytajdppfngnpklaa", sum := "f8c91a0348dab40d744bffa6f225bae58f4b249d4bf48650be964d8cdb3ecfe6", checked := Try.checked }
namespace Rows
def none {H : Type} : Left H := { results := [], args := [] }

/-- 'laws.FnExactMobileOk': WHATEVER THE INPUT: true; the input reads as it did. -/
def fnExactMobileOkSpec : ChangeSpec := { name := "fnExactMobileOk", fn := fun _ => fun
  | [d] => { results := [.lit (.bool true)], args := [d] }
  | _ => none }
def fnExactMobileOkRow : OpenClaim := { program := "ytajdppfngnpklaa", sum := "f8c91a0348dab40d744bffa6f225bae58f4b249d4bf48650be964d8cdb3ecfe6", func := "loop.example/g00992/laws.FnExactMobileOk", spec := "fnExactMobileOk", apart := false }
def FnExactMobileOkSaid : Prop := fnExactMobileOkRow.holds Try.pinned (OpenSpec.ofChange fnExactMobileOkSpec)

/-- ITS FALSE NEIGHBOUR: 'it returns false'. Refute it at one input. -/
def fnExactMobileOkWrong : ChangeSpec := { name := "fnExactMobileOk", fn := fun _ => fun
  | [d] => { results := [.lit (.bool false)], args := [d] }
  | _ => none }
def FnExactMobileOkWrongFalsely : Prop := fnExactMobileOkRow.holds Try.pinned (OpenSpec.ofChange fnExactMobileOkWrong)

/-- 'laws.FnExactCountParts': WHATEVER THE INPUT: true; the input reads as it did. -/
def fnExactCountPartsSpec : ChangeSpec := { name := "fnExactCountParts", fn := fun _ => fun
  | [d] => { results := [.lit (.bool true)], args := [d] }
  | _ => none }
def fnExactCountPartsRow : OpenClaim := { program := "ytajdppfngnpklaa", sum := "f8c91a0348dab40d744bffa6f225bae58f4b249d4bf48650be964d8cdb3ecfe6", func := "loop.example/g00992/laws.FnExactCountParts", spec := "fnExactCountParts", apart := false }
def FnExactCountPartsSaid : Prop := fnExactCountPartsRow.holds Try.pinned (OpenSpec.ofChange fnExactCountPartsSpec)

/-- ITS FALSE NEIGHBOUR: 'it returns false'. Refute it at one input. -/
def fnExactCountPartsWrong : ChangeSpec := { name := "fnExactCountParts", fn := fun _ => fun
  | [d] => { results := [.lit (.bool false)], args := [d] }
  | _ => none }
def FnExactCountPartsWrongFalsely : Prop := fnExactCountPartsRow.holds Try.pinned (OpenSpec.ofChange fnExactCountPartsWrong)

/-- 'laws.FnExactWeightOf': WHATEVER THE INPUT: true; the input reads as it did. -/
def fnExactWeightOfSpec : ChangeSpec := { name := "fnExactWeightOf", fn := fun _ => fun
  | [d1, d2] => { results := [.lit (.bool true)], args := [d1, d2] }
  | _ => none }
def fnExactWeightOfRow : OpenClaim := { program := "ytajdppfngnpklaa", sum := "f8c91a0348dab40d744bffa6f225bae58f4b249d4bf48650be964d8cdb3ecfe6", func := "loop.example/g00992/laws.FnExactWeightOf", spec := "fnExactWeightOf", recurses := true, apart := false }
def FnExactWeightOfSaid : Prop := fnExactWeightOfRow.holds Try.pinned (OpenSpec.ofChange fnExactWeightOfSpec)

/-- ITS FALSE NEIGHBOUR: 'it returns false'. Refute it at one input. -/
def fnExactWeightOfWrong : ChangeSpec := { name := "fnExactWeightOf", fn := fun _ => fun
  | [d1, d2] => { results := [.lit (.bool false)], args := [d1, d2] }
  | _ => none }
def FnExactWeightOfWrongFalsely : Prop := fnExactWeightOfRow.holds Try.pinned (OpenSpec.ofChange fnExactWeightOfWrong)

/-- 'laws.FnExactFirstTilted': WHATEVER THE INPUT: true; the input reads as it did. -/
def fnExactFirstTiltedSpec : ChangeSpec := { name := "fnExactFirstTilted", fn := fun _ => fun
  | [d] => { results := [.lit (.bool true)], args := [d] }
  | _ => none }
def fnExactFirstTiltedRow : OpenClaim := { program := "ytajdppfngnpklaa", sum := "f8c91a0348dab40d744bffa6f225bae58f4b249d4bf48650be964d8cdb3ecfe6", func := "loop.example/g00992/laws.FnExactFirstTilted", spec := "fnExactFirstTilted", recurses := true, apart := false }
def FnExactFirstTiltedSaid : Prop := fnExactFirstTiltedRow.holds Try.pinned (OpenSpec.ofChange fnExactFirstTiltedSpec)

/-- ITS FALSE NEIGHBOUR: 'it returns false'. Refute it at one input. -/
def fnExactFirstTiltedWrong : ChangeSpec := { name := "fnExactFirstTilted", fn := fun _ => fun
  | [d] => { results := [.lit (.bool false)], args := [d] }
  | _ => none }
def FnExactFirstTiltedWrongFalsely : Prop := fnExactFirstTiltedRow.holds Try.pinned (OpenSpec.ofChange fnExactFirstTiltedWrong)

/-- 'laws.FnExactIsBalanced': WHATEVER THE INPUT: true; the input reads as it did. -/
def fnExactIsBalancedSpec : ChangeSpec := { name := "fnExactIsBalanced", fn := fun _ => fun
  | [d] => { results := [.lit (.bool true)], args := [d] }
  | _ => none }
def fnExactIsBalancedRow : OpenClaim := { program := "ytajdppfngnpklaa", sum := "f8c91a0348dab40d744bffa6f225bae58f4b249d4bf48650be964d8cdb3ecfe6", func := "loop.example/g00992/laws.FnExactIsBalanced", spec := "fnExactIsBalanced", recurses := true, apart := false }
def FnExactIsBalancedSaid : Prop := fnExactIsBalancedRow.holds Try.pinned (OpenSpec.ofChange fnExactIsBalancedSpec)

/-- ITS FALSE NEIGHBOUR: 'it returns false'. Refute it at one input. -/
def fnExactIsBalancedWrong : ChangeSpec := { name := "fnExactIsBalanced", fn := fun _ => fun
  | [d] => { results := [.lit (.bool false)], args := [d] }
  | _ => none }
def FnExactIsBalancedWrongFalsely : Prop := fnExactIsBalancedRow.holds Try.pinned (OpenSpec.ofChange fnExactIsBalancedWrong)

/-- 'laws.FnExactLeastWeights': WHATEVER THE INPUT: true; the input reads as it did. -/
def fnExactLeastWeightsSpec : ChangeSpec := { name := "fnExactLeastWeights", fn := fun _ => fun
  | [d] => { results := [.lit (.bool true)], args := [d] }
  | _ => none }
def fnExactLeastWeightsRow : OpenClaim := { program := "ytajdppfngnpklaa", sum := "f8c91a0348dab40d744bffa6f225bae58f4b249d4bf48650be964d8cdb3ecfe6", func := "loop.example/g00992/laws.FnExactLeastWeights", spec := "fnExactLeastWeights", recurses := true, apart := false }
def FnExactLeastWeightsSaid : Prop := fnExactLeastWeightsRow.holds Try.pinned (OpenSpec.ofChange fnExactLeastWeightsSpec)

/-- ITS FALSE NEIGHBOUR: 'it returns false'. Refute it at one input. -/
def fnExactLeastWeightsWrong : ChangeSpec := { name := "fnExactLeastWeights", fn := fun _ => fun
  | [d] => { results := [.lit (.bool false)], args := [d] }
  | _ => none }
def FnExactLeastWeightsWrongFalsely : Prop := fnExactLeastWeightsRow.holds Try.pinned (OpenSpec.ofChange fnExactLeastWeightsWrong)

/-- 'laws.FnMobiles': WHATEVER THE INPUT: true; the input reads as it did. -/
def fnMobilesSpec : ChangeSpec := { name := "fnMobiles", fn := fun _ => fun
  | [d] => { results := [.lit (.bool true)], args := [d] }
  | _ => none }
def fnMobilesRow : OpenClaim := { program := "ytajdppfngnpklaa", sum := "f8c91a0348dab40d744bffa6f225bae58f4b249d4bf48650be964d8cdb3ecfe6", func := "loop.example/g00992/laws.FnMobiles", spec := "fnMobiles", recurses := true, apart := false }
def FnMobilesSaid : Prop := fnMobilesRow.holds Try.pinned (OpenSpec.ofChange fnMobilesSpec)

/-- ITS FALSE NEIGHBOUR: 'it returns false'. Refute it at one input. -/
def fnMobilesWrong : ChangeSpec := { name := "fnMobiles", fn := fun _ => fun
  | [d] => { results := [.lit (.bool false)], args := [d] }
  | _ => none }
def FnMobilesWrongFalsely : Prop := fnMobilesRow.holds Try.pinned (OpenSpec.ofChange fnMobilesWrong)

/- THE SECOND FORM. 'bulk': how many values and letters a reading holds, each counted each time it is reached (what is shared counts as often as it is met; a slice's spare places count too). A statement '..UptoSaid' is the law's where the arguments, and the package variables that the reading takes, are together of bulk at most 1048576: NARROWER than '..Said'. Prove '..Said' where nothing that the law and all that it calls make is longer than what came in: it says more and counts as full. Else prove '..UptoSaid'. A law counts once. -/
mutual
def uptoBulk {H : Type} : DataW H → Nat
  | .lit (.string bytes) => bytes.length + 1
  | .lit _ => 1
  | .nil => 1
  | .ptr d => uptoBulk d + 1
  | .slice elems spare => uptoBulkAll elems + uptoBulkAll spare + 1
  | .agg parts => uptoBulkAll parts + 1
  | .iface _ d => uptoBulk d + 1
  | .map entries => uptoBulkEntries entries + 1
  | .held _ => 1
def uptoBulkAll {H : Type} : List (DataW H) → Nat
  | [] => 0
  | d :: r => uptoBulk d + uptoBulkAll r
def uptoBulkEntries {H : Type} : List (Lit × DataW H) → Nat
  | [] => 0
  | x :: r => uptoBulkEntry x + uptoBulkEntries r
def uptoBulkEntry {H : Type} : Lit × DataW H → Nat
  | (.string bytes, d) => bytes.length + uptoBulk d + 1
  | (_, d) => uptoBulk d + 1
 end
def uptoSmall : (H : Type) → List (DataW H) → Bool := fun _ ds => decide (uptoBulkAll ds ≤ 1048576)
def OpenSpec.upto (s : _root_.Go.ChangeSpec) : _root_.Go.OpenSpec := { _root_.Go.OpenSpec.ofChange s with cond := some uptoSmall }

/-- 'laws.FnExactMobileOk', WHERE WHAT IT READS IS OF BULK AT MOST 1048576: true; the input reads as it did. -/
def fnExactMobileOkUptoRow : OpenClaim := { program := "ytajdppfngnpklaa", sum := "f8c91a0348dab40d744bffa6f225bae58f4b249d4bf48650be964d8cdb3ecfe6", func := "loop.example/g00992/laws.FnExactMobileOk", spec := "fnExactMobileOk", apart := false, narrowed := true }
def FnExactMobileOkUptoSaid : Prop := fnExactMobileOkUptoRow.holds Try.pinned (OpenSpec.upto fnExactMobileOkSpec)

/-- 'laws.FnExactCountParts', WHERE WHAT IT READS IS OF BULK AT MOST 1048576: true; the input reads as it did. -/
def fnExactCountPartsUptoRow : OpenClaim := { program := "ytajdppfngnpklaa", sum := "f8c91a0348dab40d744bffa6f225bae58f4b249d4bf48650be964d8cdb3ecfe6", func := "loop.example/g00992/laws.FnExactCountParts", spec := "fnExactCountParts", apart := false, narrowed := true }
def FnExactCountPartsUptoSaid : Prop := fnExactCountPartsUptoRow.holds Try.pinned (OpenSpec.upto fnExactCountPartsSpec)

/-- 'laws.FnExactWeightOf', WHERE WHAT IT READS IS OF BULK AT MOST 1048576: true; the input reads as it did. -/
def fnExactWeightOfUptoRow : OpenClaim := { program := "ytajdppfngnpklaa", sum := "f8c91a0348dab40d744bffa6f225bae58f4b249d4bf48650be964d8cdb3ecfe6", func := "loop.example/g00992/laws.FnExactWeightOf", spec := "fnExactWeightOf", recurses := true, apart := false, narrowed := true }
def FnExactWeightOfUptoSaid : Prop := fnExactWeightOfUptoRow.holds Try.pinned (OpenSpec.upto fnExactWeightOfSpec)

/-- 'laws.FnExactFirstTilted', WHERE WHAT IT READS IS OF BULK AT MOST 1048576: true; the input reads as it did. -/
def fnExactFirstTiltedUptoRow : OpenClaim := { program := "ytajdppfngnpklaa", sum := "f8c91a0348dab40d744bffa6f225bae58f4b249d4bf48650be964d8cdb3ecfe6", func := "loop.example/g00992/laws.FnExactFirstTilted", spec := "fnExactFirstTilted", recurses := true, apart := false, narrowed := true }
def FnExactFirstTiltedUptoSaid : Prop := fnExactFirstTiltedUptoRow.holds Try.pinned (OpenSpec.upto fnExactFirstTiltedSpec)

/-- 'laws.FnExactIsBalanced', WHERE WHAT IT READS IS OF BULK AT MOST 1048576: true; the input reads as it did. -/
def fnExactIsBalancedUptoRow : OpenClaim := { program := "ytajdppfngnpklaa", sum := "f8c91a0348dab40d744bffa6f225bae58f4b249d4bf48650be964d8cdb3ecfe6", func := "loop.example/g00992/laws.FnExactIsBalanced", spec := "fnExactIsBalanced", recurses := true, apart := false, narrowed := true }
def FnExactIsBalancedUptoSaid : Prop := fnExactIsBalancedUptoRow.holds Try.pinned (OpenSpec.upto fnExactIsBalancedSpec)

/-- 'laws.FnExactLeastWeights', WHERE WHAT IT READS IS OF BULK AT MOST 1048576: true; the input reads as it did. -/
def fnExactLeastWeightsUptoRow : OpenClaim := { program := "ytajdppfngnpklaa", sum := "f8c91a0348dab40d744bffa6f225bae58f4b249d4bf48650be964d8cdb3ecfe6", func := "loop.example/g00992/laws.FnExactLeastWeights", spec := "fnExactLeastWeights", recurses := true, apart := false, narrowed := true }
def FnExactLeastWeightsUptoSaid : Prop := fnExactLeastWeightsUptoRow.holds Try.pinned (OpenSpec.upto fnExactLeastWeightsSpec)

/-- 'laws.FnMobiles', WHERE WHAT IT READS IS OF BULK AT MOST 1048576: true; the input reads as it did. -/
def fnMobilesUptoRow : OpenClaim := { program := "ytajdppfngnpklaa", sum := "f8c91a0348dab40d744bffa6f225bae58f4b249d4bf48650be964d8cdb3ecfe6", func := "loop.example/g00992/laws.FnMobiles", spec := "fnMobiles", recurses := true, apart := false, narrowed := true }
def FnMobilesUptoSaid : Prop := fnMobilesUptoRow.holds Try.pinned (OpenSpec.upto fnMobilesSpec)

end Rows
end Go.Proofs.Ytajdppfngnpklaa
