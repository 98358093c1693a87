/-
  No cell of these rows narrows 'for every input' (looked for: loops, veiled, ifaces, maps, wideKeys, modest, calm, conditions, laid).
  DERIVED. THE GIVEN ROWS OF THIS SEAT. 8 by the template 'for every input the law returns true; each argument reads behind the call as it read before'; 0 by the template 'total and deterministic' (their statements: YtamhdjbhoafbhaaTotals.lean).
  GIVEN WITH THE SEED: the statements are not yours to turn. If you find one false, say at which input.
  Laid BY PROGRAM, IN A SANDBOX (cutbox-rows.mjs): the forced cells as the released guide's own fill.sh prints them over the translation 2a802c09f5445b9e… (all of the seat's roots in one cut). By AI agents, Wed Nov 11 2026. No macro, syntax, notation, axiom, sorry.
-/
import Derived.Test.YtamhdjbhoafbhaaChecked
import GoSem.Claim
import GoSem.ClaimJoined
import GoSem.ClaimMapViews
import Derived.JoinedTies
import Derived.KernelRfl
namespace Go.Proofs.Ytamhdjbhoafbhaa
/- THE CELL 'sum', in the pinned program and in every row, IS THE sha256 OF THE DUMP (.gsa) THAT YtamhdjbhoafbhaaProg.lean LOADS. Nothing in Lean hashes anything: it is a label: what it is worth is what the hold of that sum in a sandbox is worth. -/
noncomputable def Try.pinned : Pinned := { name := "ytamhdjbhoafbhaa", sum := "2a802c09f5445b9e9cba1693f4ff29aada7b3dea27a37b28d8376ffa02ab0a29", checked := Try.checked }
namespace Rows
def none {H : Type} : Left H := { results := [], args := [] }

/-- 'laws.FnExactArmsOk': WHATEVER THE INPUT: true; the input reads as it did. -/
def fnExactArmsOkSpec : ChangeSpec := { name := "fnExactArmsOk", fn := fun _ => fun
  | [d1, d2] => { results := [.lit (.bool true)], args := [d1, d2] }
  | _ => none }
def fnExactArmsOkRow : OpenClaim := { program := "ytamhdjbhoafbhaa", sum := "2a802c09f5445b9e9cba1693f4ff29aada7b3dea27a37b28d8376ffa02ab0a29", func := "loop.example/g00992/laws.FnExactArmsOk", spec := "fnExactArmsOk", apart := false }
def FnExactArmsOkSaid : Prop := fnExactArmsOkRow.holds Try.pinned (OpenSpec.ofChange fnExactArmsOkSpec)

/-- ITS FALSE NEIGHBOUR: 'it returns false'. Refute it at one input. -/
def fnExactArmsOkWrong : ChangeSpec := { name := "fnExactArmsOk", fn := fun _ => fun
  | [d1, d2] => { results := [.lit (.bool false)], args := [d1, d2] }
  | _ => none }
def FnExactArmsOkWrongFalsely : Prop := fnExactArmsOkRow.holds Try.pinned (OpenSpec.ofChange fnExactArmsOkWrong)

/-- 'laws.FnExactSteelyardOk': WHATEVER THE INPUT: true; the input reads as it did. -/
def fnExactSteelyardOkSpec : ChangeSpec := { name := "fnExactSteelyardOk", fn := fun _ => fun
  | [d] => { results := [.lit (.bool true)], args := [d] }
  | _ => none }
def fnExactSteelyardOkRow : OpenClaim := { program := "ytamhdjbhoafbhaa", sum := "2a802c09f5445b9e9cba1693f4ff29aada7b3dea27a37b28d8376ffa02ab0a29", func := "loop.example/g00992/laws.FnExactSteelyardOk", spec := "fnExactSteelyardOk", apart := false }
def FnExactSteelyardOkSaid : Prop := fnExactSteelyardOkRow.holds Try.pinned (OpenSpec.ofChange fnExactSteelyardOkSpec)

/-- ITS FALSE NEIGHBOUR: 'it returns false'. Refute it at one input. -/
def fnExactSteelyardOkWrong : ChangeSpec := { name := "fnExactSteelyardOk", fn := fun _ => fun
  | [d] => { results := [.lit (.bool false)], args := [d] }
  | _ => none }
def FnExactSteelyardOkWrongFalsely : Prop := fnExactSteelyardOkRow.holds Try.pinned (OpenSpec.ofChange fnExactSteelyardOkWrong)

/-- 'laws.FnExactLevelWith': WHATEVER THE INPUT: true; the input reads as it did. -/
def fnExactLevelWithSpec : ChangeSpec := { name := "fnExactLevelWith", fn := fun _ => fun
  | [d1, d2, d3] => { results := [.lit (.bool true)], args := [d1, d2, d3] }
  | _ => none }
def fnExactLevelWithRow : OpenClaim := { program := "ytamhdjbhoafbhaa", sum := "2a802c09f5445b9e9cba1693f4ff29aada7b3dea27a37b28d8376ffa02ab0a29", func := "loop.example/g00992/laws.FnExactLevelWith", spec := "fnExactLevelWith", apart := false }
def FnExactLevelWithSaid : Prop := fnExactLevelWithRow.holds Try.pinned (OpenSpec.ofChange fnExactLevelWithSpec)

/-- ITS FALSE NEIGHBOUR: 'it returns false'. Refute it at one input. -/
def fnExactLevelWithWrong : ChangeSpec := { name := "fnExactLevelWith", fn := fun _ => fun
  | [d1, d2, d3] => { results := [.lit (.bool false)], args := [d1, d2, d3] }
  | _ => none }
def FnExactLevelWithWrongFalsely : Prop := fnExactLevelWithRow.holds Try.pinned (OpenSpec.ofChange fnExactLevelWithWrong)

/-- 'laws.FnExactRatioFrom': WHATEVER THE INPUT: true; the input reads as it did. -/
def fnExactRatioFromSpec : ChangeSpec := { name := "fnExactRatioFrom", fn := fun _ => fun
  | [d1, d2] => { results := [.lit (.bool true)], args := [d1, d2] }
  | _ => none }
def fnExactRatioFromRow : OpenClaim := { program := "ytamhdjbhoafbhaa", sum := "2a802c09f5445b9e9cba1693f4ff29aada7b3dea27a37b28d8376ffa02ab0a29", func := "loop.example/g00992/laws.FnExactRatioFrom", spec := "fnExactRatioFrom", apart := false }
def FnExactRatioFromSaid : Prop := fnExactRatioFromRow.holds Try.pinned (OpenSpec.ofChange fnExactRatioFromSpec)

/-- ITS FALSE NEIGHBOUR: 'it returns false'. Refute it at one input. -/
def fnExactRatioFromWrong : ChangeSpec := { name := "fnExactRatioFrom", fn := fun _ => fun
  | [d1, d2] => { results := [.lit (.bool false)], args := [d1, d2] }
  | _ => none }
def FnExactRatioFromWrongFalsely : Prop := fnExactRatioFromRow.holds Try.pinned (OpenSpec.ofChange fnExactRatioFromWrong)

/-- 'laws.FnExactMarkFor': WHATEVER THE INPUT: true; the input reads as it did. -/
def fnExactMarkForSpec : ChangeSpec := { name := "fnExactMarkFor", fn := fun _ => fun
  | [d1, d2] => { results := [.lit (.bool true)], args := [d1, d2] }
  | _ => none }
def fnExactMarkForRow : OpenClaim := { program := "ytamhdjbhoafbhaa", sum := "2a802c09f5445b9e9cba1693f4ff29aada7b3dea27a37b28d8376ffa02ab0a29", func := "loop.example/g00992/laws.FnExactMarkFor", spec := "fnExactMarkFor", apart := false }
def FnExactMarkForSaid : Prop := fnExactMarkForRow.holds Try.pinned (OpenSpec.ofChange fnExactMarkForSpec)

/-- ITS FALSE NEIGHBOUR: 'it returns false'. Refute it at one input. -/
def fnExactMarkForWrong : ChangeSpec := { name := "fnExactMarkFor", fn := fun _ => fun
  | [d1, d2] => { results := [.lit (.bool false)], args := [d1, d2] }
  | _ => none }
def FnExactMarkForWrongFalsely : Prop := fnExactMarkForRow.holds Try.pinned (OpenSpec.ofChange fnExactMarkForWrong)

/-- 'laws.FnExactLoadAt': WHATEVER THE INPUT: true; the input reads as it did. -/
def fnExactLoadAtSpec : ChangeSpec := { name := "fnExactLoadAt", fn := fun _ => fun
  | [d1, d2] => { results := [.lit (.bool true)], args := [d1, d2] }
  | _ => none }
def fnExactLoadAtRow : OpenClaim := { program := "ytamhdjbhoafbhaa", sum := "2a802c09f5445b9e9cba1693f4ff29aada7b3dea27a37b28d8376ffa02ab0a29", func := "loop.example/g00992/laws.FnExactLoadAt", spec := "fnExactLoadAt", apart := false }
def FnExactLoadAtSaid : Prop := fnExactLoadAtRow.holds Try.pinned (OpenSpec.ofChange fnExactLoadAtSpec)

/-- ITS FALSE NEIGHBOUR: 'it returns false'. Refute it at one input. -/
def fnExactLoadAtWrong : ChangeSpec := { name := "fnExactLoadAt", fn := fun _ => fun
  | [d1, d2] => { results := [.lit (.bool false)], args := [d1, d2] }
  | _ => none }
def FnExactLoadAtWrongFalsely : Prop := fnExactLoadAtRow.holds Try.pinned (OpenSpec.ofChange fnExactLoadAtWrong)

/-- 'laws.FnExactMarksOf': WHATEVER THE INPUT: true; the input reads as it did. -/
def fnExactMarksOfSpec : ChangeSpec := { name := "fnExactMarksOf", fn := fun _ => fun
  | [d1, d2, d3] => { results := [.lit (.bool true)], args := [d1, d2, d3] }
  | _ => none }
def fnExactMarksOfRow : OpenClaim := { program := "ytamhdjbhoafbhaa", sum := "2a802c09f5445b9e9cba1693f4ff29aada7b3dea27a37b28d8376ffa02ab0a29", func := "loop.example/g00992/laws.FnExactMarksOf", spec := "fnExactMarksOf", apart := false }
def FnExactMarksOfSaid : Prop := fnExactMarksOfRow.holds Try.pinned (OpenSpec.ofChange fnExactMarksOfSpec)

/-- ITS FALSE NEIGHBOUR: 'it returns false'. Refute it at one input. -/
def fnExactMarksOfWrong : ChangeSpec := { name := "fnExactMarksOf", fn := fun _ => fun
  | [d1, d2, d3] => { results := [.lit (.bool false)], args := [d1, d2, d3] }
  | _ => none }
def FnExactMarksOfWrongFalsely : Prop := fnExactMarksOfRow.holds Try.pinned (OpenSpec.ofChange fnExactMarksOfWrong)

/-- 'laws.FnSteelyards': WHATEVER THE INPUT: true; the input reads as it did. -/
def fnSteelyardsSpec : ChangeSpec := { name := "fnSteelyards", fn := fun _ => fun
  | [d] => { results := [.lit (.bool true)], args := [d] }
  | _ => none }
def fnSteelyardsRow : OpenClaim := { program := "ytamhdjbhoafbhaa", sum := "2a802c09f5445b9e9cba1693f4ff29aada7b3dea27a37b28d8376ffa02ab0a29", func := "loop.example/g00992/laws.FnSteelyards", spec := "fnSteelyards", apart := false }
def FnSteelyardsSaid : Prop := fnSteelyardsRow.holds Try.pinned (OpenSpec.ofChange fnSteelyardsSpec)

/-- ITS FALSE NEIGHBOUR: 'it returns false'. Refute it at one input. -/
def fnSteelyardsWrong : ChangeSpec := { name := "fnSteelyards", fn := fun _ => fun
  | [d] => { results := [.lit (.bool false)], args := [d] }
  | _ => none }
def FnSteelyardsWrongFalsely : Prop := fnSteelyardsRow.holds Try.pinned (OpenSpec.ofChange fnSteelyardsWrong)

/- THE SECOND FORM. 'bulk': how many values and letters a reading holds, each counted each time it is reached (what is shared counts as often as it is met; a slice's spare places count too). A statement '..UptoSaid' is the law's where the arguments, and the package variables that the reading takes, are together of bulk at most 1048576: NARROWER than '..Said'. Prove '..Said' where nothing that the law and all that it calls make is longer than what came in: it says more and counts as full. Else prove '..UptoSaid'. A law counts once. -/
mutual
def uptoBulk {H : Type} : DataW H → Nat
  | .lit (.string bytes) => bytes.length + 1
  | .lit _ => 1
  | .nil => 1
  | .ptr d => uptoBulk d + 1
  | .slice elems spare => uptoBulkAll elems + uptoBulkAll spare + 1
  | .agg parts => uptoBulkAll parts + 1
  | .iface _ d => uptoBulk d + 1
  | .map entries => uptoBulkEntries entries + 1
  | .held _ => 1
def uptoBulkAll {H : Type} : List (DataW H) → Nat
  | [] => 0
  | d :: r => uptoBulk d + uptoBulkAll r
def uptoBulkEntries {H : Type} : List (Lit × DataW H) → Nat
  | [] => 0
  | x :: r => uptoBulkEntry x + uptoBulkEntries r
def uptoBulkEntry {H : Type} : Lit × DataW H → Nat
  | (.string bytes, d) => bytes.length + uptoBulk d + 1
  | (_, d) => uptoBulk d + 1
 end
def uptoSmall : (H : Type) → List (DataW H) → Bool := fun _ ds => decide (uptoBulkAll ds ≤ 1048576)
def OpenSpec.upto (s : _root_.Go.ChangeSpec) : _root_.Go.OpenSpec := { _root_.Go.OpenSpec.ofChange s with cond := some uptoSmall }

/-- 'laws.FnExactArmsOk', WHERE WHAT IT READS IS OF BULK AT MOST 1048576: true; the input reads as it did. -/
def fnExactArmsOkUptoRow : OpenClaim := { program := "ytamhdjbhoafbhaa", sum := "2a802c09f5445b9e9cba1693f4ff29aada7b3dea27a37b28d8376ffa02ab0a29", func := "loop.example/g00992/laws.FnExactArmsOk", spec := "fnExactArmsOk", apart := false, narrowed := true }
def FnExactArmsOkUptoSaid : Prop := fnExactArmsOkUptoRow.holds Try.pinned (OpenSpec.upto fnExactArmsOkSpec)

/-- 'laws.FnExactSteelyardOk', WHERE WHAT IT READS IS OF BULK AT MOST 1048576: true; the input reads as it did. -/
def fnExactSteelyardOkUptoRow : OpenClaim := { program := "ytamhdjbhoafbhaa", sum := "2a802c09f5445b9e9cba1693f4ff29aada7b3dea27a37b28d8376ffa02ab0a29", func := "loop.example/g00992/laws.FnExactSteelyardOk", spec := "fnExactSteelyardOk", apart := false, narrowed := true }
def FnExactSteelyardOkUptoSaid : Prop := fnExactSteelyardOkUptoRow.holds Try.pinned (OpenSpec.upto fnExactSteelyardOkSpec)

/-- 'laws.FnExactLevelWith', WHERE WHAT IT READS IS OF BULK AT MOST 1048576: true; the input reads as it did. -/
def fnExactLevelWithUptoRow : OpenClaim := { program := "ytamhdjbhoafbhaa", sum := "2a802c09f5445b9e9cba1693f4ff29aada7b3dea27a37b28d8376ffa02ab0a29", func := "loop.example/g00992/laws.FnExactLevelWith", spec := "fnExactLevelWith", apart := false, narrowed := true }
def FnExactLevelWithUptoSaid : Prop := fnExactLevelWithUptoRow.holds Try.pinned (OpenSpec.upto fnExactLevelWithSpec)

/-- 'laws.FnExactRatioFrom', WHERE WHAT IT READS IS OF BULK AT MOST 1048576: true; the input reads as it did. -/
def fnExactRatioFromUptoRow : OpenClaim := { program := "ytamhdjbhoafbhaa", sum := "2a802c09f5445b9e9cba1693f4ff29aada7b3dea27a37b28d8376ffa02ab0a29", func := "loop.example/g00992/laws.FnExactRatioFrom", spec := "fnExactRatioFrom", apart := false, narrowed := true }
def FnExactRatioFromUptoSaid : Prop := fnExactRatioFromUptoRow.holds Try.pinned (OpenSpec.upto fnExactRatioFromSpec)

/-- 'laws.FnExactMarkFor', WHERE WHAT IT READS IS OF BULK AT MOST 1048576: true; the input reads as it did. -/
def fnExactMarkForUptoRow : OpenClaim := { program := "ytamhdjbhoafbhaa", sum := "2a802c09f5445b9e9cba1693f4ff29aada7b3dea27a37b28d8376ffa02ab0a29", func := "loop.example/g00992/laws.FnExactMarkFor", spec := "fnExactMarkFor", apart := false, narrowed := true }
def FnExactMarkForUptoSaid : Prop := fnExactMarkForUptoRow.holds Try.pinned (OpenSpec.upto fnExactMarkForSpec)

/-- 'laws.FnExactLoadAt', WHERE WHAT IT READS IS OF BULK AT MOST 1048576: true; the input reads as it did. -/
def fnExactLoadAtUptoRow : OpenClaim := { program := "ytamhdjbhoafbhaa", sum := "2a802c09f5445b9e9cba1693f4ff29aada7b3dea27a37b28d8376ffa02ab0a29", func := "loop.example/g00992/laws.FnExactLoadAt", spec := "fnExactLoadAt", apart := false, narrowed := true }
def FnExactLoadAtUptoSaid : Prop := fnExactLoadAtUptoRow.holds Try.pinned (OpenSpec.upto fnExactLoadAtSpec)

/-- 'laws.FnExactMarksOf', WHERE WHAT IT READS IS OF BULK AT MOST 1048576: true; the input reads as it did. -/
def fnExactMarksOfUptoRow : OpenClaim := { program := "ytamhdjbhoafbhaa", sum := "2a802c09f5445b9e9cba1693f4ff29aada7b3dea27a37b28d8376ffa02ab0a29", func := "loop.example/g00992/laws.FnExactMarksOf", spec := "fnExactMarksOf", apart := false, narrowed := true }
def FnExactMarksOfUptoSaid : Prop := fnExactMarksOfUptoRow.holds Try.pinned (OpenSpec.upto fnExactMarksOfSpec)

/-- 'laws.FnSteelyards', WHERE WHAT IT READS IS OF BULK AT MOST 1048576: true; the input reads as it did. -/
def fnSteelyardsUptoRow : OpenClaim := { program := "ytamhdjbhoafbhaa", sum := "2a802c09f5445b9e9cba1693f4ff29aada7b3dea27a37b28d8376ffa02ab0a29", func := "loop.example/g00992/laws.FnSteelyards", spec := "fnSteelyards", apart := false, narrowed := true }
def FnSteelyardsUptoSaid : Prop := fnSteelyardsUptoRow.holds Try.pinned (OpenSpec.upto fnSteelyardsSpec)

end Rows
end Go.Proofs.Ytamhdjbhoafbhaa
