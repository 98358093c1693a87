/-
  No cell of these rows narrows 'for every input' (looked for: loops, veiled, ifaces, maps, wideKeys, modest, calm, conditions, laid).
  DERIVED. THE GIVEN ROWS OF THIS SEAT. 7 by the template 'for every input the law returns true; each argument reads behind the call as it read before'; 0 by the template 'total and deterministic' (their statements: YtoobpkcnmgjccaaTotals.lean).
  GIVEN WITH THE SEED: the statements are not yours to turn. If you find one false, say at which input.
  Laid BY PROGRAM, IN A SANDBOX (cutbox-rows.mjs): the forced cells as the released guide's own fill.sh prints them over the translation 6c7c60560c313af4… (all of the seat's roots in one cut). By AI agents, Wed Nov 11 2026. No macro, syntax, notation, axiom, sorry.
-/
import Derived.Test.YtoobpkcnmgjccaaChecked
import GoSem.Claim
import GoSem.ClaimJoined
import GoSem.ClaimMapViews
import Derived.JoinedTies
import Derived.KernelRfl
namespace Go.Proofs.Ytoobpkcnmgjccaa
/- THE CELL 'sum', in the pinned program and in every row, IS THE sha256 OF THE DUMP (.gsa) THAT YtoobpkcnmgjccaaProg.lean LOADS. Nothing in Lean hashes anything: it is a label: what it is worth is what the hold of that sum in a sandbox is worth. -/
noncomputable def Try.pinned : Pinned := { name := "ytoobpkcnmgjccaa", sum := "6c7c60560c313af4410d79f4017e2aecab0ce191a2af80a13ba8e0f3524f6f46", checked := Try.checked }
namespace Rows
def none {H : Type} : Left H := { results := [], args := [] }

/-- 'laws.FnExactCircleOk': WHATEVER THE INPUT: true; the input reads as it did. -/
def fnExactCircleOkSpec : ChangeSpec := { name := "fnExactCircleOk", fn := fun _ => fun
  | [d1, d2] => { results := [.lit (.bool true)], args := [d1, d2] }
  | _ => none }
def fnExactCircleOkRow : OpenClaim := { program := "ytoobpkcnmgjccaa", sum := "6c7c60560c313af4410d79f4017e2aecab0ce191a2af80a13ba8e0f3524f6f46", func := "loop.example/g00992/laws.FnExactCircleOk", spec := "fnExactCircleOk", apart := false }
def FnExactCircleOkSaid : Prop := fnExactCircleOkRow.holds Try.pinned (OpenSpec.ofChange fnExactCircleOkSpec)

/-- ITS FALSE NEIGHBOUR: 'it returns false'. Refute it at one input. -/
def fnExactCircleOkWrong : ChangeSpec := { name := "fnExactCircleOk", fn := fun _ => fun
  | [d1, d2] => { results := [.lit (.bool false)], args := [d1, d2] }
  | _ => none }
def FnExactCircleOkWrongFalsely : Prop := fnExactCircleOkRow.holds Try.pinned (OpenSpec.ofChange fnExactCircleOkWrong)

/-- 'laws.FnExactArcsOf': WHATEVER THE INPUT: true; the input reads as it did. -/
def fnExactArcsOfSpec : ChangeSpec := { name := "fnExactArcsOf", fn := fun _ => fun
  | [d1, d2] => { results := [.lit (.bool true)], args := [d1, d2] }
  | _ => none }
def fnExactArcsOfRow : OpenClaim := { program := "ytoobpkcnmgjccaa", sum := "6c7c60560c313af4410d79f4017e2aecab0ce191a2af80a13ba8e0f3524f6f46", func := "loop.example/g00992/laws.FnExactArcsOf", spec := "fnExactArcsOf", apart := false }
def FnExactArcsOfSaid : Prop := fnExactArcsOfRow.holds Try.pinned (OpenSpec.ofChange fnExactArcsOfSpec)

/-- ITS FALSE NEIGHBOUR: 'it returns false'. Refute it at one input. -/
def fnExactArcsOfWrong : ChangeSpec := { name := "fnExactArcsOf", fn := fun _ => fun
  | [d1, d2] => { results := [.lit (.bool false)], args := [d1, d2] }
  | _ => none }
def FnExactArcsOfWrongFalsely : Prop := fnExactArcsOfRow.holds Try.pinned (OpenSpec.ofChange fnExactArcsOfWrong)

/-- 'laws.FnExactIsDifferenceSet': WHATEVER THE INPUT: true; the input reads as it did. -/
def fnExactIsDifferenceSetSpec : ChangeSpec := { name := "fnExactIsDifferenceSet", fn := fun _ => fun
  | [d1, d2] => { results := [.lit (.bool true)], args := [d1, d2] }
  | _ => none }
def fnExactIsDifferenceSetRow : OpenClaim := { program := "ytoobpkcnmgjccaa", sum := "6c7c60560c313af4410d79f4017e2aecab0ce191a2af80a13ba8e0f3524f6f46", func := "loop.example/g00992/laws.FnExactIsDifferenceSet", spec := "fnExactIsDifferenceSet", apart := false }
def FnExactIsDifferenceSetSaid : Prop := fnExactIsDifferenceSetRow.holds Try.pinned (OpenSpec.ofChange fnExactIsDifferenceSetSpec)

/-- ITS FALSE NEIGHBOUR: 'it returns false'. Refute it at one input. -/
def fnExactIsDifferenceSetWrong : ChangeSpec := { name := "fnExactIsDifferenceSet", fn := fun _ => fun
  | [d1, d2] => { results := [.lit (.bool false)], args := [d1, d2] }
  | _ => none }
def FnExactIsDifferenceSetWrongFalsely : Prop := fnExactIsDifferenceSetRow.holds Try.pinned (OpenSpec.ofChange fnExactIsDifferenceSetWrong)

/-- 'laws.FnExactFindDifferenceSet': WHATEVER THE INPUT: true; the input reads as it did. -/
def fnExactFindDifferenceSetSpec : ChangeSpec := { name := "fnExactFindDifferenceSet", fn := fun _ => fun
  | [d] => { results := [.lit (.bool true)], args := [d] }
  | _ => none }
def fnExactFindDifferenceSetRow : OpenClaim := { program := "ytoobpkcnmgjccaa", sum := "6c7c60560c313af4410d79f4017e2aecab0ce191a2af80a13ba8e0f3524f6f46", func := "loop.example/g00992/laws.FnExactFindDifferenceSet", spec := "fnExactFindDifferenceSet", recurses := true, apart := false }
def FnExactFindDifferenceSetSaid : Prop := fnExactFindDifferenceSetRow.holds Try.pinned (OpenSpec.ofChange fnExactFindDifferenceSetSpec)

/-- ITS FALSE NEIGHBOUR: 'it returns false'. Refute it at one input. -/
def fnExactFindDifferenceSetWrong : ChangeSpec := { name := "fnExactFindDifferenceSet", fn := fun _ => fun
  | [d] => { results := [.lit (.bool false)], args := [d] }
  | _ => none }
def FnExactFindDifferenceSetWrongFalsely : Prop := fnExactFindDifferenceSetRow.holds Try.pinned (OpenSpec.ofChange fnExactFindDifferenceSetWrong)

/-- 'laws.FnExactTurnMarks': WHATEVER THE INPUT: true; the input reads as it did. -/
def fnExactTurnMarksSpec : ChangeSpec := { name := "fnExactTurnMarks", fn := fun _ => fun
  | [d1, d2, d3] => { results := [.lit (.bool true)], args := [d1, d2, d3] }
  | _ => none }
def fnExactTurnMarksRow : OpenClaim := { program := "ytoobpkcnmgjccaa", sum := "6c7c60560c313af4410d79f4017e2aecab0ce191a2af80a13ba8e0f3524f6f46", func := "loop.example/g00992/laws.FnExactTurnMarks", spec := "fnExactTurnMarks", recurses := true, apart := false }
def FnExactTurnMarksSaid : Prop := fnExactTurnMarksRow.holds Try.pinned (OpenSpec.ofChange fnExactTurnMarksSpec)

/-- ITS FALSE NEIGHBOUR: 'it returns false'. Refute it at one input. -/
def fnExactTurnMarksWrong : ChangeSpec := { name := "fnExactTurnMarks", fn := fun _ => fun
  | [d1, d2, d3] => { results := [.lit (.bool false)], args := [d1, d2, d3] }
  | _ => none }
def FnExactTurnMarksWrongFalsely : Prop := fnExactTurnMarksRow.holds Try.pinned (OpenSpec.ofChange fnExactTurnMarksWrong)

/-- 'laws.FnExactStretchMarks': WHATEVER THE INPUT: true; the input reads as it did. -/
def fnExactStretchMarksSpec : ChangeSpec := { name := "fnExactStretchMarks", fn := fun _ => fun
  | [d1, d2, d3] => { results := [.lit (.bool true)], args := [d1, d2, d3] }
  | _ => none }
def fnExactStretchMarksRow : OpenClaim := { program := "ytoobpkcnmgjccaa", sum := "6c7c60560c313af4410d79f4017e2aecab0ce191a2af80a13ba8e0f3524f6f46", func := "loop.example/g00992/laws.FnExactStretchMarks", spec := "fnExactStretchMarks", recurses := true, apart := false }
def FnExactStretchMarksSaid : Prop := fnExactStretchMarksRow.holds Try.pinned (OpenSpec.ofChange fnExactStretchMarksSpec)

/-- ITS FALSE NEIGHBOUR: 'it returns false'. Refute it at one input. -/
def fnExactStretchMarksWrong : ChangeSpec := { name := "fnExactStretchMarks", fn := fun _ => fun
  | [d1, d2, d3] => { results := [.lit (.bool false)], args := [d1, d2, d3] }
  | _ => none }
def FnExactStretchMarksWrongFalsely : Prop := fnExactStretchMarksRow.holds Try.pinned (OpenSpec.ofChange fnExactStretchMarksWrong)

/-- 'laws.FnCircles': WHATEVER THE INPUT: true; the input reads as it did. -/
def fnCirclesSpec : ChangeSpec := { name := "fnCircles", fn := fun _ => fun
  | [d] => { results := [.lit (.bool true)], args := [d] }
  | _ => none }
def fnCirclesRow : OpenClaim := { program := "ytoobpkcnmgjccaa", sum := "6c7c60560c313af4410d79f4017e2aecab0ce191a2af80a13ba8e0f3524f6f46", func := "loop.example/g00992/laws.FnCircles", spec := "fnCircles", recurses := true, apart := false }
def FnCirclesSaid : Prop := fnCirclesRow.holds Try.pinned (OpenSpec.ofChange fnCirclesSpec)

/-- ITS FALSE NEIGHBOUR: 'it returns false'. Refute it at one input. -/
def fnCirclesWrong : ChangeSpec := { name := "fnCircles", fn := fun _ => fun
  | [d] => { results := [.lit (.bool false)], args := [d] }
  | _ => none }
def FnCirclesWrongFalsely : Prop := fnCirclesRow.holds Try.pinned (OpenSpec.ofChange fnCirclesWrong)

/- THE SECOND FORM. 'bulk': how many values and letters a reading holds, each counted each time it is reached (what is shared counts as often as it is met; a slice's spare places count too). A statement '..UptoSaid' is the law's where the arguments, and the package variables that the reading takes, are together of bulk at most 1048576: NARROWER than '..Said'. Prove '..Said' where nothing that the law and all that it calls make is longer than what came in: it says more and counts as full. Else prove '..UptoSaid'. A law counts once. -/
mutual
def uptoBulk {H : Type} : DataW H → Nat
  | .lit (.string bytes) => bytes.length + 1
  | .lit _ => 1
  | .nil => 1
  | .ptr d => uptoBulk d + 1
  | .slice elems spare => uptoBulkAll elems + uptoBulkAll spare + 1
  | .agg parts => uptoBulkAll parts + 1
  | .iface _ d => uptoBulk d + 1
  | .map entries => uptoBulkEntries entries + 1
  | .held _ => 1
def uptoBulkAll {H : Type} : List (DataW H) → Nat
  | [] => 0
  | d :: r => uptoBulk d + uptoBulkAll r
def uptoBulkEntries {H : Type} : List (Lit × DataW H) → Nat
  | [] => 0
  | x :: r => uptoBulkEntry x + uptoBulkEntries r
def uptoBulkEntry {H : Type} : Lit × DataW H → Nat
  | (.string bytes, d) => bytes.length + uptoBulk d + 1
  | (_, d) => uptoBulk d + 1
 end
def uptoSmall : (H : Type) → List (DataW H) → Bool := fun _ ds => decide (uptoBulkAll ds ≤ 1048576)
def OpenSpec.upto (s : _root_.Go.ChangeSpec) : _root_.Go.OpenSpec := { _root_.Go.OpenSpec.ofChange s with cond := some uptoSmall }

/-- 'laws.FnExactCircleOk', WHERE WHAT IT READS IS OF BULK AT MOST 1048576: true; the input reads as it did. -/
def fnExactCircleOkUptoRow : OpenClaim := { program := "ytoobpkcnmgjccaa", sum := "6c7c60560c313af4410d79f4017e2aecab0ce191a2af80a13ba8e0f3524f6f46", func := "loop.example/g00992/laws.FnExactCircleOk", spec := "fnExactCircleOk", apart := false, narrowed := true }
def FnExactCircleOkUptoSaid : Prop := fnExactCircleOkUptoRow.holds Try.pinned (OpenSpec.upto fnExactCircleOkSpec)

/-- 'laws.FnExactArcsOf', WHERE WHAT IT READS IS OF BULK AT MOST 1048576: true; the input reads as it did. -/
def fnExactArcsOfUptoRow : OpenClaim := { program := "ytoobpkcnmgjccaa", sum := "6c7c60560c313af4410d79f4017e2aecab0ce191a2af80a13ba8e0f3524f6f46", func := "loop.example/g00992/laws.FnExactArcsOf", spec := "fnExactArcsOf", apart := false, narrowed := true }
def FnExactArcsOfUptoSaid : Prop := fnExactArcsOfUptoRow.holds Try.pinned (OpenSpec.upto fnExactArcsOfSpec)

/-- 'laws.FnExactIsDifferenceSet', WHERE WHAT IT READS IS OF BULK AT MOST 1048576: true; the input reads as it did. -/
def fnExactIsDifferenceSetUptoRow : OpenClaim := { program := "ytoobpkcnmgjccaa", sum := "6c7c60560c313af4410d79f4017e2aecab0ce191a2af80a13ba8e0f3524f6f46", func := "loop.example/g00992/laws.FnExactIsDifferenceSet", spec := "fnExactIsDifferenceSet", apart := false, narrowed := true }
def FnExactIsDifferenceSetUptoSaid : Prop := fnExactIsDifferenceSetUptoRow.holds Try.pinned (OpenSpec.upto fnExactIsDifferenceSetSpec)

/-- 'laws.FnExactFindDifferenceSet', WHERE WHAT IT READS IS OF BULK AT MOST 1048576: true; the input reads as it did. -/
def fnExactFindDifferenceSetUptoRow : OpenClaim := { program := "ytoobpkcnmgjccaa", sum := "6c7c60560c313af4410d79f4017e2aecab0ce191a2af80a13ba8e0f3524f6f46", func := "loop.example/g00992/laws.FnExactFindDifferenceSet", spec := "fnExactFindDifferenceSet", recurses := true, apart := false, narrowed := true }
def FnExactFindDifferenceSetUptoSaid : Prop := fnExactFindDifferenceSetUptoRow.holds Try.pinned (OpenSpec.upto fnExactFindDifferenceSetSpec)

/-- 'laws.FnExactTurnMarks', WHERE WHAT IT READS IS OF BULK AT MOST 1048576: true; the input reads as it did. -/
def fnExactTurnMarksUptoRow : OpenClaim := { program := "ytoobpkcnmgjccaa", sum := "6c7c60560c313af4410d79f4017e2aecab0ce191a2af80a13ba8e0f3524f6f46", func := "loop.example/g00992/laws.FnExactTurnMarks", spec := "fnExactTurnMarks", recurses := true, apart := false, narrowed := true }
def FnExactTurnMarksUptoSaid : Prop := fnExactTurnMarksUptoRow.holds Try.pinned (OpenSpec.upto fnExactTurnMarksSpec)

/-- 'laws.FnExactStretchMarks', WHERE WHAT IT READS IS OF BULK AT MOST 1048576: true; the input reads as it did. -/
def fnExactStretchMarksUptoRow : OpenClaim := { program := "ytoobpkcnmgjccaa", sum := "6c7c60560c313af4410d79f4017e2aecab0ce191a2af80a13ba8e0f3524f6f46", func := "loop.example/g00992/laws.FnExactStretchMarks", spec := "fnExactStretchMarks", recurses := true, apart := false, narrowed := true }
def FnExactStretchMarksUptoSaid : Prop := fnExactStretchMarksUptoRow.holds Try.pinned (OpenSpec.upto fnExactStretchMarksSpec)

/-- 'laws.FnCircles', WHERE WHAT IT READS IS OF BULK AT MOST 1048576: true; the input reads as it did. -/
def fnCirclesUptoRow : OpenClaim := { program := "ytoobpkcnmgjccaa", sum := "6c7c60560c313af4410d79f4017e2aecab0ce191a2af80a13ba8e0f3524f6f46", func := "loop.example/g00992/laws.FnCircles", spec := "fnCircles", recurses := true, apart := false, narrowed := true }
def FnCirclesUptoSaid : Prop := fnCirclesUptoRow.holds Try.pinned (OpenSpec.upto fnCirclesSpec)

end Rows
end Go.Proofs.Ytoobpkcnmgjccaa
