/-
  No cell of these rows narrows 'for every input' (looked for: loops, veiled, ifaces, maps, wideKeys, modest, calm, conditions, laid).
  DERIVED. THE GIVEN ROWS OF THIS SEAT. 8 by the template 'for every input the law returns true; each argument reads behind the call as it read before'; 0 by the template 'total and deterministic' (their statements: YtnfajiokmjkebaaTotals.lean).
  GIVEN WITH THE SEED: the statements are not yours to turn. If you find one false, say at which input.
  Laid BY PROGRAM, IN A SANDBOX (cutbox-rows.mjs): the forced cells as the released guide's own fill.sh prints them over the translation 39542c959a910590… (all of the seat's roots in one cut). By AI agents, Wed Nov 11 2026. No macro, syntax, notation, axiom, sorry.
-/
import Derived.Test.YtnfajiokmjkebaaChecked
import GoSem.Claim
import GoSem.ClaimJoined
import GoSem.ClaimMapViews
import Derived.JoinedTies
import Derived.KernelRfl
namespace Go.Proofs.Ytnfajiokmjkebaa
/- THE CELL 'sum', in the pinned program and in every row, IS THE sha256 OF THE DUMP (.gsa) THAT YtnfajiokmjkebaaProg.lean LOADS. Nothing in Lean hashes anything: it is a label: what it is worth is what the hold of that sum in a sandbox is worth. -/
noncomputable def Try.pinned : Pinned := { name := "ytnfajiokmjkebaa", sum := "39542c959a910590cb89a7ff75a9c6ef166a3b188d755865543789473a3f3fc7", checked := Try.checked }
namespace Rows
def none {H : Type} : Left H := { results := [], args := [] }

/-- 'laws.FnExactBeamOk': WHATEVER THE INPUT: true; the input reads as it did. -/
def fnExactBeamOkSpec : ChangeSpec := { name := "fnExactBeamOk", fn := fun _ => fun
  | [d] => { results := [.lit (.bool true)], args := [d] }
  | _ => none }
def fnExactBeamOkRow : OpenClaim := { program := "ytnfajiokmjkebaa", sum := "39542c959a910590cb89a7ff75a9c6ef166a3b188d755865543789473a3f3fc7", func := "loop.example/g00992/laws.FnExactBeamOk", spec := "fnExactBeamOk", apart := false }
def FnExactBeamOkSaid : Prop := fnExactBeamOkRow.holds Try.pinned (OpenSpec.ofChange fnExactBeamOkSpec)

/-- ITS FALSE NEIGHBOUR: 'it returns false'. Refute it at one input. -/
def fnExactBeamOkWrong : ChangeSpec := { name := "fnExactBeamOk", fn := fun _ => fun
  | [d] => { results := [.lit (.bool false)], args := [d] }
  | _ => none }
def FnExactBeamOkWrongFalsely : Prop := fnExactBeamOkRow.holds Try.pinned (OpenSpec.ofChange fnExactBeamOkWrong)

/-- 'laws.FnExactTorqueOf': WHATEVER THE INPUT: true; the input reads as it did. -/
def fnExactTorqueOfSpec : ChangeSpec := { name := "fnExactTorqueOf", fn := fun _ => fun
  | [d] => { results := [.lit (.bool true)], args := [d] }
  | _ => none }
def fnExactTorqueOfRow : OpenClaim := { program := "ytnfajiokmjkebaa", sum := "39542c959a910590cb89a7ff75a9c6ef166a3b188d755865543789473a3f3fc7", func := "loop.example/g00992/laws.FnExactTorqueOf", spec := "fnExactTorqueOf", apart := false }
def FnExactTorqueOfSaid : Prop := fnExactTorqueOfRow.holds Try.pinned (OpenSpec.ofChange fnExactTorqueOfSpec)

/-- ITS FALSE NEIGHBOUR: 'it returns false'. Refute it at one input. -/
def fnExactTorqueOfWrong : ChangeSpec := { name := "fnExactTorqueOf", fn := fun _ => fun
  | [d] => { results := [.lit (.bool false)], args := [d] }
  | _ => none }
def FnExactTorqueOfWrongFalsely : Prop := fnExactTorqueOfRow.holds Try.pinned (OpenSpec.ofChange fnExactTorqueOfWrong)

/-- 'laws.FnExactIsLevel': WHATEVER THE INPUT: true; the input reads as it did. -/
def fnExactIsLevelSpec : ChangeSpec := { name := "fnExactIsLevel", fn := fun _ => fun
  | [d] => { results := [.lit (.bool true)], args := [d] }
  | _ => none }
def fnExactIsLevelRow : OpenClaim := { program := "ytnfajiokmjkebaa", sum := "39542c959a910590cb89a7ff75a9c6ef166a3b188d755865543789473a3f3fc7", func := "loop.example/g00992/laws.FnExactIsLevel", spec := "fnExactIsLevel", apart := false }
def FnExactIsLevelSaid : Prop := fnExactIsLevelRow.holds Try.pinned (OpenSpec.ofChange fnExactIsLevelSpec)

/-- ITS FALSE NEIGHBOUR: 'it returns false'. Refute it at one input. -/
def fnExactIsLevelWrong : ChangeSpec := { name := "fnExactIsLevel", fn := fun _ => fun
  | [d] => { results := [.lit (.bool false)], args := [d] }
  | _ => none }
def FnExactIsLevelWrongFalsely : Prop := fnExactIsLevelRow.holds Try.pinned (OpenSpec.ofChange fnExactIsLevelWrong)

/-- 'laws.FnExactShiftBeam': WHATEVER THE INPUT: true; the input reads as it did. -/
def fnExactShiftBeamSpec : ChangeSpec := { name := "fnExactShiftBeam", fn := fun _ => fun
  | [d1, d2] => { results := [.lit (.bool true)], args := [d1, d2] }
  | _ => none }
def fnExactShiftBeamRow : OpenClaim := { program := "ytnfajiokmjkebaa", sum := "39542c959a910590cb89a7ff75a9c6ef166a3b188d755865543789473a3f3fc7", func := "loop.example/g00992/laws.FnExactShiftBeam", spec := "fnExactShiftBeam", apart := false }
def FnExactShiftBeamSaid : Prop := fnExactShiftBeamRow.holds Try.pinned (OpenSpec.ofChange fnExactShiftBeamSpec)

/-- ITS FALSE NEIGHBOUR: 'it returns false'. Refute it at one input. -/
def fnExactShiftBeamWrong : ChangeSpec := { name := "fnExactShiftBeam", fn := fun _ => fun
  | [d1, d2] => { results := [.lit (.bool false)], args := [d1, d2] }
  | _ => none }
def FnExactShiftBeamWrongFalsely : Prop := fnExactShiftBeamRow.holds Try.pinned (OpenSpec.ofChange fnExactShiftBeamWrong)

/-- 'laws.FnExactPlaceFor': WHATEVER THE INPUT: true; the input reads as it did. -/
def fnExactPlaceForSpec : ChangeSpec := { name := "fnExactPlaceFor", fn := fun _ => fun
  | [d1, d2] => { results := [.lit (.bool true)], args := [d1, d2] }
  | _ => none }
def fnExactPlaceForRow : OpenClaim := { program := "ytnfajiokmjkebaa", sum := "39542c959a910590cb89a7ff75a9c6ef166a3b188d755865543789473a3f3fc7", func := "loop.example/g00992/laws.FnExactPlaceFor", spec := "fnExactPlaceFor", apart := false }
def FnExactPlaceForSaid : Prop := fnExactPlaceForRow.holds Try.pinned (OpenSpec.ofChange fnExactPlaceForSpec)

/-- ITS FALSE NEIGHBOUR: 'it returns false'. Refute it at one input. -/
def fnExactPlaceForWrong : ChangeSpec := { name := "fnExactPlaceFor", fn := fun _ => fun
  | [d1, d2] => { results := [.lit (.bool false)], args := [d1, d2] }
  | _ => none }
def FnExactPlaceForWrongFalsely : Prop := fnExactPlaceForRow.holds Try.pinned (OpenSpec.ofChange fnExactPlaceForWrong)

/-- 'laws.FnExactCenterOf': WHATEVER THE INPUT: true; the input reads as it did. -/
def fnExactCenterOfSpec : ChangeSpec := { name := "fnExactCenterOf", fn := fun _ => fun
  | [d] => { results := [.lit (.bool true)], args := [d] }
  | _ => none }
def fnExactCenterOfRow : OpenClaim := { program := "ytnfajiokmjkebaa", sum := "39542c959a910590cb89a7ff75a9c6ef166a3b188d755865543789473a3f3fc7", func := "loop.example/g00992/laws.FnExactCenterOf", spec := "fnExactCenterOf", apart := false }
def FnExactCenterOfSaid : Prop := fnExactCenterOfRow.holds Try.pinned (OpenSpec.ofChange fnExactCenterOfSpec)

/-- ITS FALSE NEIGHBOUR: 'it returns false'. Refute it at one input. -/
def fnExactCenterOfWrong : ChangeSpec := { name := "fnExactCenterOf", fn := fun _ => fun
  | [d] => { results := [.lit (.bool false)], args := [d] }
  | _ => none }
def FnExactCenterOfWrongFalsely : Prop := fnExactCenterOfRow.holds Try.pinned (OpenSpec.ofChange fnExactCenterOfWrong)

/-- 'laws.FnExactMergeHangs': WHATEVER THE INPUT: true; the input reads as it did. -/
def fnExactMergeHangsSpec : ChangeSpec := { name := "fnExactMergeHangs", fn := fun _ => fun
  | [d] => { results := [.lit (.bool true)], args := [d] }
  | _ => none }
def fnExactMergeHangsRow : OpenClaim := { program := "ytnfajiokmjkebaa", sum := "39542c959a910590cb89a7ff75a9c6ef166a3b188d755865543789473a3f3fc7", func := "loop.example/g00992/laws.FnExactMergeHangs", spec := "fnExactMergeHangs", inPlace := ["internal/reflectlite.ValueOf", "internal/reflectlite.Swapper", "(internal/reflectlite.Value).Len"], unfollowed := true, recurses := true, apart := false }
def FnExactMergeHangsSaid : Prop := fnExactMergeHangsRow.holds Try.pinned (OpenSpec.ofChange fnExactMergeHangsSpec)

/-- ITS FALSE NEIGHBOUR: 'it returns false'. Refute it at one input. -/
def fnExactMergeHangsWrong : ChangeSpec := { name := "fnExactMergeHangs", fn := fun _ => fun
  | [d] => { results := [.lit (.bool false)], args := [d] }
  | _ => none }
def FnExactMergeHangsWrongFalsely : Prop := fnExactMergeHangsRow.holds Try.pinned (OpenSpec.ofChange fnExactMergeHangsWrong)

/-- 'laws.FnLevers': WHATEVER THE INPUT: true; the input reads as it did. -/
def fnLeversSpec : ChangeSpec := { name := "fnLevers", fn := fun _ => fun
  | [d] => { results := [.lit (.bool true)], args := [d] }
  | _ => none }
def fnLeversRow : OpenClaim := { program := "ytnfajiokmjkebaa", sum := "39542c959a910590cb89a7ff75a9c6ef166a3b188d755865543789473a3f3fc7", func := "loop.example/g00992/laws.FnLevers", spec := "fnLevers", inPlace := ["internal/reflectlite.ValueOf", "internal/reflectlite.Swapper", "(internal/reflectlite.Value).Len"], unfollowed := true, recurses := true, apart := false }
def FnLeversSaid : Prop := fnLeversRow.holds Try.pinned (OpenSpec.ofChange fnLeversSpec)

/-- ITS FALSE NEIGHBOUR: 'it returns false'. Refute it at one input. -/
def fnLeversWrong : ChangeSpec := { name := "fnLevers", fn := fun _ => fun
  | [d] => { results := [.lit (.bool false)], args := [d] }
  | _ => none }
def FnLeversWrongFalsely : Prop := fnLeversRow.holds Try.pinned (OpenSpec.ofChange fnLeversWrong)

/- THE SECOND FORM. 'bulk': how many values and letters a reading holds, each counted each time it is reached (what is shared counts as often as it is met; a slice's spare places count too). A statement '..UptoSaid' is the law's where the arguments, and the package variables that the reading takes, are together of bulk at most 1048576: NARROWER than '..Said'. Prove '..Said' where nothing that the law and all that it calls make is longer than what came in: it says more and counts as full. Else prove '..UptoSaid'. A law counts once. -/
mutual
def uptoBulk {H : Type} : DataW H → Nat
  | .lit (.string bytes) => bytes.length + 1
  | .lit _ => 1
  | .nil => 1
  | .ptr d => uptoBulk d + 1
  | .slice elems spare => uptoBulkAll elems + uptoBulkAll spare + 1
  | .agg parts => uptoBulkAll parts + 1
  | .iface _ d => uptoBulk d + 1
  | .map entries => uptoBulkEntries entries + 1
  | .held _ => 1
def uptoBulkAll {H : Type} : List (DataW H) → Nat
  | [] => 0
  | d :: r => uptoBulk d + uptoBulkAll r
def uptoBulkEntries {H : Type} : List (Lit × DataW H) → Nat
  | [] => 0
  | x :: r => uptoBulkEntry x + uptoBulkEntries r
def uptoBulkEntry {H : Type} : Lit × DataW H → Nat
  | (.string bytes, d) => bytes.length + uptoBulk d + 1
  | (_, d) => uptoBulk d + 1
 end
def uptoSmall : (H : Type) → List (DataW H) → Bool := fun _ ds => decide (uptoBulkAll ds ≤ 1048576)
def OpenSpec.upto (s : _root_.Go.ChangeSpec) : _root_.Go.OpenSpec := { _root_.Go.OpenSpec.ofChange s with cond := some uptoSmall }

/-- 'laws.FnExactBeamOk', WHERE WHAT IT READS IS OF BULK AT MOST 1048576: true; the input reads as it did. -/
def fnExactBeamOkUptoRow : OpenClaim := { program := "ytnfajiokmjkebaa", sum := "39542c959a910590cb89a7ff75a9c6ef166a3b188d755865543789473a3f3fc7", func := "loop.example/g00992/laws.FnExactBeamOk", spec := "fnExactBeamOk", apart := false, narrowed := true }
def FnExactBeamOkUptoSaid : Prop := fnExactBeamOkUptoRow.holds Try.pinned (OpenSpec.upto fnExactBeamOkSpec)

/-- 'laws.FnExactTorqueOf', WHERE WHAT IT READS IS OF BULK AT MOST 1048576: true; the input reads as it did. -/
def fnExactTorqueOfUptoRow : OpenClaim := { program := "ytnfajiokmjkebaa", sum := "39542c959a910590cb89a7ff75a9c6ef166a3b188d755865543789473a3f3fc7", func := "loop.example/g00992/laws.FnExactTorqueOf", spec := "fnExactTorqueOf", apart := false, narrowed := true }
def FnExactTorqueOfUptoSaid : Prop := fnExactTorqueOfUptoRow.holds Try.pinned (OpenSpec.upto fnExactTorqueOfSpec)

/-- 'laws.FnExactIsLevel', WHERE WHAT IT READS IS OF BULK AT MOST 1048576: true; the input reads as it did. -/
def fnExactIsLevelUptoRow : OpenClaim := { program := "ytnfajiokmjkebaa", sum := "39542c959a910590cb89a7ff75a9c6ef166a3b188d755865543789473a3f3fc7", func := "loop.example/g00992/laws.FnExactIsLevel", spec := "fnExactIsLevel", apart := false, narrowed := true }
def FnExactIsLevelUptoSaid : Prop := fnExactIsLevelUptoRow.holds Try.pinned (OpenSpec.upto fnExactIsLevelSpec)

/-- 'laws.FnExactShiftBeam', WHERE WHAT IT READS IS OF BULK AT MOST 1048576: true; the input reads as it did. -/
def fnExactShiftBeamUptoRow : OpenClaim := { program := "ytnfajiokmjkebaa", sum := "39542c959a910590cb89a7ff75a9c6ef166a3b188d755865543789473a3f3fc7", func := "loop.example/g00992/laws.FnExactShiftBeam", spec := "fnExactShiftBeam", apart := false, narrowed := true }
def FnExactShiftBeamUptoSaid : Prop := fnExactShiftBeamUptoRow.holds Try.pinned (OpenSpec.upto fnExactShiftBeamSpec)

/-- 'laws.FnExactPlaceFor', WHERE WHAT IT READS IS OF BULK AT MOST 1048576: true; the input reads as it did. -/
def fnExactPlaceForUptoRow : OpenClaim := { program := "ytnfajiokmjkebaa", sum := "39542c959a910590cb89a7ff75a9c6ef166a3b188d755865543789473a3f3fc7", func := "loop.example/g00992/laws.FnExactPlaceFor", spec := "fnExactPlaceFor", apart := false, narrowed := true }
def FnExactPlaceForUptoSaid : Prop := fnExactPlaceForUptoRow.holds Try.pinned (OpenSpec.upto fnExactPlaceForSpec)

/-- 'laws.FnExactCenterOf', WHERE WHAT IT READS IS OF BULK AT MOST 1048576: true; the input reads as it did. -/
def fnExactCenterOfUptoRow : OpenClaim := { program := "ytnfajiokmjkebaa", sum := "39542c959a910590cb89a7ff75a9c6ef166a3b188d755865543789473a3f3fc7", func := "loop.example/g00992/laws.FnExactCenterOf", spec := "fnExactCenterOf", apart := false, narrowed := true }
def FnExactCenterOfUptoSaid : Prop := fnExactCenterOfUptoRow.holds Try.pinned (OpenSpec.upto fnExactCenterOfSpec)

/-- 'laws.FnExactMergeHangs', WHERE WHAT IT READS IS OF BULK AT MOST 1048576: true; the input reads as it did. -/
def fnExactMergeHangsUptoRow : OpenClaim := { program := "ytnfajiokmjkebaa", sum := "39542c959a910590cb89a7ff75a9c6ef166a3b188d755865543789473a3f3fc7", func := "loop.example/g00992/laws.FnExactMergeHangs", spec := "fnExactMergeHangs", inPlace := ["internal/reflectlite.ValueOf", "internal/reflectlite.Swapper", "(internal/reflectlite.Value).Len"], unfollowed := true, recurses := true, apart := false, narrowed := true }
def FnExactMergeHangsUptoSaid : Prop := fnExactMergeHangsUptoRow.holds Try.pinned (OpenSpec.upto fnExactMergeHangsSpec)

/-- 'laws.FnLevers', WHERE WHAT IT READS IS OF BULK AT MOST 1048576: true; the input reads as it did. -/
def fnLeversUptoRow : OpenClaim := { program := "ytnfajiokmjkebaa", sum := "39542c959a910590cb89a7ff75a9c6ef166a3b188d755865543789473a3f3fc7", func := "loop.example/g00992/laws.FnLevers", spec := "fnLevers", inPlace := ["internal/reflectlite.ValueOf", "internal/reflectlite.Swapper", "(internal/reflectlite.Value).Len"], unfollowed := true, recurses := true, apart := false, narrowed := true }
def FnLeversUptoSaid : Prop := fnLeversUptoRow.holds Try.pinned (OpenSpec.upto fnLeversSpec)

end Rows
end Go.Proofs.Ytnfajiokmjkebaa
