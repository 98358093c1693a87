/-
  No cell of these rows narrows 'for every input' (looked for: loops, veiled, ifaces, maps, wideKeys, modest, calm, conditions, laid).
  DERIVED. THE GIVEN ROWS OF THIS SEAT. 6 by the template 'for every input the law returns true; each argument reads behind the call as it read before'; 0 by the template 'total and deterministic' (their statements: YtgkjckhjmphoaaaTotals.lean).
  GIVEN WITH THE SEED: the statements are not yours to turn. If you find one false, say at which input.
  Laid BY PROGRAM, IN A SANDBOX (cutbox-rows.mjs): the forced cells as the released guide's own fill.sh prints them over the translation 65e4edd72e56bb2f… (all of the seat's roots in one cut). By AI agents, Wed Nov 11 2026. No macro, syntax, notation, axiom, sorry.
-/
import Derived.Test.YtgkjckhjmphoaaaChecked
import GoSem.Claim
import GoSem.ClaimJoined
import GoSem.ClaimMapViews
import Derived.JoinedTies
import Derived.KernelRfl
namespace Go.Proofs.Ytgkjckhjmphoaaa
/- THE CELL 'sum', in the pinned program and in every row, IS THE sha256 OF THE DUMP (.gsa) THAT YtgkjckhjmphoaaaProg.lean LOADS. Nothing in Lean hashes anything: it is a label: what it is worth is what the hold of that sum in a sandbox is worth. -/
noncomputable def Try.pinned : Pinned := { name := "ytgkjckhjmphoaaa", sum := "65e4edd72e56bb2ff3697b5ae2731bb34ffee1b92f290e5c92d3165d9ab27625", checked := Try.checked }
namespace Rows
def none {H : Type} : Left H := { results := [], args := [] }

/-- 'laws.FnExactJugsOk': WHATEVER THE INPUT: true; the input reads as it did. -/
def fnExactJugsOkSpec : ChangeSpec := { name := "fnExactJugsOk", fn := fun _ => fun
  | [d] => { results := [.lit (.bool true)], args := [d] }
  | _ => none }
def fnExactJugsOkRow : OpenClaim := { program := "ytgkjckhjmphoaaa", sum := "65e4edd72e56bb2ff3697b5ae2731bb34ffee1b92f290e5c92d3165d9ab27625", func := "loop.example/g00992/laws.FnExactJugsOk", spec := "fnExactJugsOk", plainKeys := false, apart := false }
def FnExactJugsOkSaid : Prop := fnExactJugsOkRow.holds Try.pinned (OpenSpec.ofChange fnExactJugsOkSpec)

/-- ITS FALSE NEIGHBOUR: 'it returns false'. Refute it at one input. -/
def fnExactJugsOkWrong : ChangeSpec := { name := "fnExactJugsOk", fn := fun _ => fun
  | [d] => { results := [.lit (.bool false)], args := [d] }
  | _ => none }
def FnExactJugsOkWrongFalsely : Prop := fnExactJugsOkRow.holds Try.pinned (OpenSpec.ofChange fnExactJugsOkWrong)

/-- 'laws.FnExactPour': WHATEVER THE INPUT: true; the input reads as it did. -/
def fnExactPourSpec : ChangeSpec := { name := "fnExactPour", fn := fun _ => fun
  | [d1, d2] => { results := [.lit (.bool true)], args := [d1, d2] }
  | _ => none }
def fnExactPourRow : OpenClaim := { program := "ytgkjckhjmphoaaa", sum := "65e4edd72e56bb2ff3697b5ae2731bb34ffee1b92f290e5c92d3165d9ab27625", func := "loop.example/g00992/laws.FnExactPour", spec := "fnExactPour", plainKeys := false, apart := false }
def FnExactPourSaid : Prop := fnExactPourRow.holds Try.pinned (OpenSpec.ofChange fnExactPourSpec)

/-- ITS FALSE NEIGHBOUR: 'it returns false'. Refute it at one input. -/
def fnExactPourWrong : ChangeSpec := { name := "fnExactPour", fn := fun _ => fun
  | [d1, d2] => { results := [.lit (.bool false)], args := [d1, d2] }
  | _ => none }
def FnExactPourWrongFalsely : Prop := fnExactPourRow.holds Try.pinned (OpenSpec.ofChange fnExactPourWrong)

/-- 'laws.FnExactPourAll': WHATEVER THE INPUT: true; the input reads as it did. -/
def fnExactPourAllSpec : ChangeSpec := { name := "fnExactPourAll", fn := fun _ => fun
  | [d1, d2] => { results := [.lit (.bool true)], args := [d1, d2] }
  | _ => none }
def fnExactPourAllRow : OpenClaim := { program := "ytgkjckhjmphoaaa", sum := "65e4edd72e56bb2ff3697b5ae2731bb34ffee1b92f290e5c92d3165d9ab27625", func := "loop.example/g00992/laws.FnExactPourAll", spec := "fnExactPourAll", plainKeys := false, apart := false }
def FnExactPourAllSaid : Prop := fnExactPourAllRow.holds Try.pinned (OpenSpec.ofChange fnExactPourAllSpec)

/-- ITS FALSE NEIGHBOUR: 'it returns false'. Refute it at one input. -/
def fnExactPourAllWrong : ChangeSpec := { name := "fnExactPourAll", fn := fun _ => fun
  | [d1, d2] => { results := [.lit (.bool false)], args := [d1, d2] }
  | _ => none }
def FnExactPourAllWrongFalsely : Prop := fnExactPourAllRow.holds Try.pinned (OpenSpec.ofChange fnExactPourAllWrong)

/-- 'laws.FnExactFewestPours': WHATEVER THE INPUT: true; the input reads as it did. -/
def fnExactFewestPoursSpec : ChangeSpec := { name := "fnExactFewestPours", fn := fun _ => fun
  | [d1, d2, d3] => { results := [.lit (.bool true)], args := [d1, d2, d3] }
  | _ => none }
def fnExactFewestPoursRow : OpenClaim := { program := "ytgkjckhjmphoaaa", sum := "65e4edd72e56bb2ff3697b5ae2731bb34ffee1b92f290e5c92d3165d9ab27625", func := "loop.example/g00992/laws.FnExactFewestPours", spec := "fnExactFewestPours", plainKeys := false, apart := false }
def FnExactFewestPoursSaid : Prop := fnExactFewestPoursRow.holds Try.pinned (OpenSpec.ofChange fnExactFewestPoursSpec)

/-- ITS FALSE NEIGHBOUR: 'it returns false'. Refute it at one input. -/
def fnExactFewestPoursWrong : ChangeSpec := { name := "fnExactFewestPours", fn := fun _ => fun
  | [d1, d2, d3] => { results := [.lit (.bool false)], args := [d1, d2, d3] }
  | _ => none }
def FnExactFewestPoursWrongFalsely : Prop := fnExactFewestPoursRow.holds Try.pinned (OpenSpec.ofChange fnExactFewestPoursWrong)

/-- 'laws.FnExactCanMeasure': WHATEVER THE INPUT: true; the input reads as it did. -/
def fnExactCanMeasureSpec : ChangeSpec := { name := "fnExactCanMeasure", fn := fun _ => fun
  | [d1, d2, d3] => { results := [.lit (.bool true)], args := [d1, d2, d3] }
  | _ => none }
def fnExactCanMeasureRow : OpenClaim := { program := "ytgkjckhjmphoaaa", sum := "65e4edd72e56bb2ff3697b5ae2731bb34ffee1b92f290e5c92d3165d9ab27625", func := "loop.example/g00992/laws.FnExactCanMeasure", spec := "fnExactCanMeasure", plainKeys := false, apart := false }
def FnExactCanMeasureSaid : Prop := fnExactCanMeasureRow.holds Try.pinned (OpenSpec.ofChange fnExactCanMeasureSpec)

/-- ITS FALSE NEIGHBOUR: 'it returns false'. Refute it at one input. -/
def fnExactCanMeasureWrong : ChangeSpec := { name := "fnExactCanMeasure", fn := fun _ => fun
  | [d1, d2, d3] => { results := [.lit (.bool false)], args := [d1, d2, d3] }
  | _ => none }
def FnExactCanMeasureWrongFalsely : Prop := fnExactCanMeasureRow.holds Try.pinned (OpenSpec.ofChange fnExactCanMeasureWrong)

/-- 'laws.FnJugs': WHATEVER THE INPUT: true; the input reads as it did. -/
def fnJugsSpec : ChangeSpec := { name := "fnJugs", fn := fun _ => fun
  | [d] => { results := [.lit (.bool true)], args := [d] }
  | _ => none }
def fnJugsRow : OpenClaim := { program := "ytgkjckhjmphoaaa", sum := "65e4edd72e56bb2ff3697b5ae2731bb34ffee1b92f290e5c92d3165d9ab27625", func := "loop.example/g00992/laws.FnJugs", spec := "fnJugs", plainKeys := false, apart := false }
def FnJugsSaid : Prop := fnJugsRow.holds Try.pinned (OpenSpec.ofChange fnJugsSpec)

/-- ITS FALSE NEIGHBOUR: 'it returns false'. Refute it at one input. -/
def fnJugsWrong : ChangeSpec := { name := "fnJugs", fn := fun _ => fun
  | [d] => { results := [.lit (.bool false)], args := [d] }
  | _ => none }
def FnJugsWrongFalsely : Prop := fnJugsRow.holds Try.pinned (OpenSpec.ofChange fnJugsWrong)

/- THE SECOND FORM. 'bulk': how many values and letters a reading holds, each counted each time it is reached (what is shared counts as often as it is met; a slice's spare places count too). A statement '..UptoSaid' is the law's where the arguments, and the package variables that the reading takes, are together of bulk at most 1048576: NARROWER than '..Said'. Prove '..Said' where nothing that the law and all that it calls make is longer than what came in: it says more and counts as full. Else prove '..UptoSaid'. A law counts once. -/
mutual
def uptoBulk {H : Type} : DataW H → Nat
  | .lit (.string bytes) => bytes.length + 1
  | .lit _ => 1
  | .nil => 1
  | .ptr d => uptoBulk d + 1
  | .slice elems spare => uptoBulkAll elems + uptoBulkAll spare + 1
  | .agg parts => uptoBulkAll parts + 1
  | .iface _ d => uptoBulk d + 1
  | .map entries => uptoBulkEntries entries + 1
  | .held _ => 1
def uptoBulkAll {H : Type} : List (DataW H) → Nat
  | [] => 0
  | d :: r => uptoBulk d + uptoBulkAll r
def uptoBulkEntries {H : Type} : List (Lit × DataW H) → Nat
  | [] => 0
  | x :: r => uptoBulkEntry x + uptoBulkEntries r
def uptoBulkEntry {H : Type} : Lit × DataW H → Nat
  | (.string bytes, d) => bytes.length + uptoBulk d + 1
  | (_, d) => uptoBulk d + 1
 end
def uptoSmall : (H : Type) → List (DataW H) → Bool := fun _ ds => decide (uptoBulkAll ds ≤ 1048576)
def OpenSpec.upto (s : _root_.Go.ChangeSpec) : _root_.Go.OpenSpec := { _root_.Go.OpenSpec.ofChange s with cond := some uptoSmall }

/-- 'laws.FnExactJugsOk', WHERE WHAT IT READS IS OF BULK AT MOST 1048576: true; the input reads as it did. -/
def fnExactJugsOkUptoRow : OpenClaim := { program := "ytgkjckhjmphoaaa", sum := "65e4edd72e56bb2ff3697b5ae2731bb34ffee1b92f290e5c92d3165d9ab27625", func := "loop.example/g00992/laws.FnExactJugsOk", spec := "fnExactJugsOk", plainKeys := false, apart := false, narrowed := true }
def FnExactJugsOkUptoSaid : Prop := fnExactJugsOkUptoRow.holds Try.pinned (OpenSpec.upto fnExactJugsOkSpec)

/-- 'laws.FnExactPour', WHERE WHAT IT READS IS OF BULK AT MOST 1048576: true; the input reads as it did. -/
def fnExactPourUptoRow : OpenClaim := { program := "ytgkjckhjmphoaaa", sum := "65e4edd72e56bb2ff3697b5ae2731bb34ffee1b92f290e5c92d3165d9ab27625", func := "loop.example/g00992/laws.FnExactPour", spec := "fnExactPour", plainKeys := false, apart := false, narrowed := true }
def FnExactPourUptoSaid : Prop := fnExactPourUptoRow.holds Try.pinned (OpenSpec.upto fnExactPourSpec)

/-- 'laws.FnExactPourAll', WHERE WHAT IT READS IS OF BULK AT MOST 1048576: true; the input reads as it did. -/
def fnExactPourAllUptoRow : OpenClaim := { program := "ytgkjckhjmphoaaa", sum := "65e4edd72e56bb2ff3697b5ae2731bb34ffee1b92f290e5c92d3165d9ab27625", func := "loop.example/g00992/laws.FnExactPourAll", spec := "fnExactPourAll", plainKeys := false, apart := false, narrowed := true }
def FnExactPourAllUptoSaid : Prop := fnExactPourAllUptoRow.holds Try.pinned (OpenSpec.upto fnExactPourAllSpec)

/-- 'laws.FnExactFewestPours', WHERE WHAT IT READS IS OF BULK AT MOST 1048576: true; the input reads as it did. -/
def fnExactFewestPoursUptoRow : OpenClaim := { program := "ytgkjckhjmphoaaa", sum := "65e4edd72e56bb2ff3697b5ae2731bb34ffee1b92f290e5c92d3165d9ab27625", func := "loop.example/g00992/laws.FnExactFewestPours", spec := "fnExactFewestPours", plainKeys := false, apart := false, narrowed := true }
def FnExactFewestPoursUptoSaid : Prop := fnExactFewestPoursUptoRow.holds Try.pinned (OpenSpec.upto fnExactFewestPoursSpec)

/-- 'laws.FnExactCanMeasure', WHERE WHAT IT READS IS OF BULK AT MOST 1048576: true; the input reads as it did. -/
def fnExactCanMeasureUptoRow : OpenClaim := { program := "ytgkjckhjmphoaaa", sum := "65e4edd72e56bb2ff3697b5ae2731bb34ffee1b92f290e5c92d3165d9ab27625", func := "loop.example/g00992/laws.FnExactCanMeasure", spec := "fnExactCanMeasure", plainKeys := false, apart := false, narrowed := true }
def FnExactCanMeasureUptoSaid : Prop := fnExactCanMeasureUptoRow.holds Try.pinned (OpenSpec.upto fnExactCanMeasureSpec)

/-- 'laws.FnJugs', WHERE WHAT IT READS IS OF BULK AT MOST 1048576: true; the input reads as it did. -/
def fnJugsUptoRow : OpenClaim := { program := "ytgkjckhjmphoaaa", sum := "65e4edd72e56bb2ff3697b5ae2731bb34ffee1b92f290e5c92d3165d9ab27625", func := "loop.example/g00992/laws.FnJugs", spec := "fnJugs", plainKeys := false, apart := false, narrowed := true }
def FnJugsUptoSaid : Prop := fnJugsUptoRow.holds Try.pinned (OpenSpec.upto fnJugsSpec)

end Rows
end Go.Proofs.Ytgkjckhjmphoaaa
