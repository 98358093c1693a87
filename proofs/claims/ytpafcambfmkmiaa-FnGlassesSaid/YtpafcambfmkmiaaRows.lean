/-
  No cell of these rows narrows 'for every input' (looked for: loops, veiled, ifaces, maps, wideKeys, modest, calm, conditions, laid).
  DERIVED. THE GIVEN ROWS OF THIS SEAT. 6 by the template 'for every input the law returns true; each argument reads behind the call as it read before'; 0 by the template 'total and deterministic' (their statements: YtpafcambfmkmiaaTotals.lean).
  GIVEN WITH THE SEED: the statements are not yours to turn. If you find one false, say at which input.
  Laid BY PROGRAM, IN A SANDBOX (cutbox-rows.mjs): the forced cells as the released guide's own fill.sh prints them over the translation 22a60d3fd56fc761… (all of the seat's roots in one cut). By AI agents, Wed Nov 11 2026. No macro, syntax, notation, axiom, sorry.
-/
import Derived.Test.YtpafcambfmkmiaaChecked
import GoSem.Claim
import GoSem.ClaimJoined
import GoSem.ClaimMapViews
import Derived.JoinedTies
import Derived.KernelRfl
namespace Go.Proofs.Ytpafcambfmkmiaa
/- THE CELL 'sum', in the pinned program and in every row, IS THE sha256 OF THE DUMP (.gsa) THAT YtpafcambfmkmiaaProg.lean LOADS. Nothing in Lean hashes anything: it is a label: what it is worth is what the hold of that sum in a sandbox is worth. -/
noncomputable def Try.pinned : Pinned := { name := "ytpafcambfmkmiaa", sum := "22a60d3fd56fc761b004846944634ee45e295ce0ee870609ea0696a69cbc60a6", checked := Try.checked }
namespace Rows
def none {H : Type} : Left H := { results := [], args := [] }

/-- 'laws.FnExactGlassesOk': WHATEVER THE INPUT: true; the input reads as it did. -/
def fnExactGlassesOkSpec : ChangeSpec := { name := "fnExactGlassesOk", fn := fun _ => fun
  | [d] => { results := [.lit (.bool true)], args := [d] }
  | _ => none }
def fnExactGlassesOkRow : OpenClaim := { program := "ytpafcambfmkmiaa", sum := "22a60d3fd56fc761b004846944634ee45e295ce0ee870609ea0696a69cbc60a6", func := "loop.example/g00992/laws.FnExactGlassesOk", spec := "fnExactGlassesOk", plainKeys := false, apart := false }
def FnExactGlassesOkSaid : Prop := fnExactGlassesOkRow.holds Try.pinned (OpenSpec.ofChange fnExactGlassesOkSpec)

/-- ITS FALSE NEIGHBOUR: 'it returns false'. Refute it at one input. -/
def fnExactGlassesOkWrong : ChangeSpec := { name := "fnExactGlassesOk", fn := fun _ => fun
  | [d] => { results := [.lit (.bool false)], args := [d] }
  | _ => none }
def FnExactGlassesOkWrongFalsely : Prop := fnExactGlassesOkRow.holds Try.pinned (OpenSpec.ofChange fnExactGlassesOkWrong)

/-- 'laws.FnExactFlip': WHATEVER THE INPUT: true; the input reads as it did. -/
def fnExactFlipSpec : ChangeSpec := { name := "fnExactFlip", fn := fun _ => fun
  | [d1, d2] => { results := [.lit (.bool true)], args := [d1, d2] }
  | _ => none }
def fnExactFlipRow : OpenClaim := { program := "ytpafcambfmkmiaa", sum := "22a60d3fd56fc761b004846944634ee45e295ce0ee870609ea0696a69cbc60a6", func := "loop.example/g00992/laws.FnExactFlip", spec := "fnExactFlip", plainKeys := false, apart := false }
def FnExactFlipSaid : Prop := fnExactFlipRow.holds Try.pinned (OpenSpec.ofChange fnExactFlipSpec)

/-- ITS FALSE NEIGHBOUR: 'it returns false'. Refute it at one input. -/
def fnExactFlipWrong : ChangeSpec := { name := "fnExactFlip", fn := fun _ => fun
  | [d1, d2] => { results := [.lit (.bool false)], args := [d1, d2] }
  | _ => none }
def FnExactFlipWrongFalsely : Prop := fnExactFlipRow.holds Try.pinned (OpenSpec.ofChange fnExactFlipWrong)

/-- 'laws.FnExactRunOut': WHATEVER THE INPUT: true; the input reads as it did. -/
def fnExactRunOutSpec : ChangeSpec := { name := "fnExactRunOut", fn := fun _ => fun
  | [d] => { results := [.lit (.bool true)], args := [d] }
  | _ => none }
def fnExactRunOutRow : OpenClaim := { program := "ytpafcambfmkmiaa", sum := "22a60d3fd56fc761b004846944634ee45e295ce0ee870609ea0696a69cbc60a6", func := "loop.example/g00992/laws.FnExactRunOut", spec := "fnExactRunOut", plainKeys := false, apart := false }
def FnExactRunOutSaid : Prop := fnExactRunOutRow.holds Try.pinned (OpenSpec.ofChange fnExactRunOutSpec)

/-- ITS FALSE NEIGHBOUR: 'it returns false'. Refute it at one input. -/
def fnExactRunOutWrong : ChangeSpec := { name := "fnExactRunOut", fn := fun _ => fun
  | [d] => { results := [.lit (.bool false)], args := [d] }
  | _ => none }
def FnExactRunOutWrongFalsely : Prop := fnExactRunOutRow.holds Try.pinned (OpenSpec.ofChange fnExactRunOutWrong)

/-- 'laws.FnExactTimesWith': WHATEVER THE INPUT: true; the input reads as it did. -/
def fnExactTimesWithSpec : ChangeSpec := { name := "fnExactTimesWith", fn := fun _ => fun
  | [d1, d2, d3] => { results := [.lit (.bool true)], args := [d1, d2, d3] }
  | _ => none }
def fnExactTimesWithRow : OpenClaim := { program := "ytpafcambfmkmiaa", sum := "22a60d3fd56fc761b004846944634ee45e295ce0ee870609ea0696a69cbc60a6", func := "loop.example/g00992/laws.FnExactTimesWith", spec := "fnExactTimesWith", recurses := true, plainKeys := false, apart := false }
def FnExactTimesWithSaid : Prop := fnExactTimesWithRow.holds Try.pinned (OpenSpec.ofChange fnExactTimesWithSpec)

/-- ITS FALSE NEIGHBOUR: 'it returns false'. Refute it at one input. -/
def fnExactTimesWithWrong : ChangeSpec := { name := "fnExactTimesWith", fn := fun _ => fun
  | [d1, d2, d3] => { results := [.lit (.bool false)], args := [d1, d2, d3] }
  | _ => none }
def FnExactTimesWithWrongFalsely : Prop := fnExactTimesWithRow.holds Try.pinned (OpenSpec.ofChange fnExactTimesWithWrong)

/-- 'laws.FnExactCanTime': WHATEVER THE INPUT: true; the input reads as it did. -/
def fnExactCanTimeSpec : ChangeSpec := { name := "fnExactCanTime", fn := fun _ => fun
  | [d1, d2, d3] => { results := [.lit (.bool true)], args := [d1, d2, d3] }
  | _ => none }
def fnExactCanTimeRow : OpenClaim := { program := "ytpafcambfmkmiaa", sum := "22a60d3fd56fc761b004846944634ee45e295ce0ee870609ea0696a69cbc60a6", func := "loop.example/g00992/laws.FnExactCanTime", spec := "fnExactCanTime", recurses := true, plainKeys := false, apart := false }
def FnExactCanTimeSaid : Prop := fnExactCanTimeRow.holds Try.pinned (OpenSpec.ofChange fnExactCanTimeSpec)

/-- ITS FALSE NEIGHBOUR: 'it returns false'. Refute it at one input. -/
def fnExactCanTimeWrong : ChangeSpec := { name := "fnExactCanTime", fn := fun _ => fun
  | [d1, d2, d3] => { results := [.lit (.bool false)], args := [d1, d2, d3] }
  | _ => none }
def FnExactCanTimeWrongFalsely : Prop := fnExactCanTimeRow.holds Try.pinned (OpenSpec.ofChange fnExactCanTimeWrong)

/-- 'laws.FnGlasses': WHATEVER THE INPUT: true; the input reads as it did. -/
def fnGlassesSpec : ChangeSpec := { name := "fnGlasses", fn := fun _ => fun
  | [d] => { results := [.lit (.bool true)], args := [d] }
  | _ => none }
def fnGlassesRow : OpenClaim := { program := "ytpafcambfmkmiaa", sum := "22a60d3fd56fc761b004846944634ee45e295ce0ee870609ea0696a69cbc60a6", func := "loop.example/g00992/laws.FnGlasses", spec := "fnGlasses", recurses := true, plainKeys := false, apart := false }
def FnGlassesSaid : Prop := fnGlassesRow.holds Try.pinned (OpenSpec.ofChange fnGlassesSpec)

/-- ITS FALSE NEIGHBOUR: 'it returns false'. Refute it at one input. -/
def fnGlassesWrong : ChangeSpec := { name := "fnGlasses", fn := fun _ => fun
  | [d] => { results := [.lit (.bool false)], args := [d] }
  | _ => none }
def FnGlassesWrongFalsely : Prop := fnGlassesRow.holds Try.pinned (OpenSpec.ofChange fnGlassesWrong)

/- THE SECOND FORM. 'bulk': how many values and letters a reading holds, each counted each time it is reached (what is shared counts as often as it is met; a slice's spare places count too). A statement '..UptoSaid' is the law's where the arguments, and the package variables that the reading takes, are together of bulk at most 1048576: NARROWER than '..Said'. Prove '..Said' where nothing that the law and all that it calls make is longer than what came in: it says more and counts as full. Else prove '..UptoSaid'. A law counts once. -/
mutual
def uptoBulk {H : Type} : DataW H → Nat
  | .lit (.string bytes) => bytes.length + 1
  | .lit _ => 1
  | .nil => 1
  | .ptr d => uptoBulk d + 1
  | .slice elems spare => uptoBulkAll elems + uptoBulkAll spare + 1
  | .agg parts => uptoBulkAll parts + 1
  | .iface _ d => uptoBulk d + 1
  | .map entries => uptoBulkEntries entries + 1
  | .held _ => 1
def uptoBulkAll {H : Type} : List (DataW H) → Nat
  | [] => 0
  | d :: r => uptoBulk d + uptoBulkAll r
def uptoBulkEntries {H : Type} : List (Lit × DataW H) → Nat
  | [] => 0
  | x :: r => uptoBulkEntry x + uptoBulkEntries r
def uptoBulkEntry {H : Type} : Lit × DataW H → Nat
  | (.string bytes, d) => bytes.length + uptoBulk d + 1
  | (_, d) => uptoBulk d + 1
 end
def uptoSmall : (H : Type) → List (DataW H) → Bool := fun _ ds => decide (uptoBulkAll ds ≤ 1048576)
def OpenSpec.upto (s : _root_.Go.ChangeSpec) : _root_.Go.OpenSpec := { _root_.Go.OpenSpec.ofChange s with cond := some uptoSmall }

/-- 'laws.FnExactGlassesOk', WHERE WHAT IT READS IS OF BULK AT MOST 1048576: true; the input reads as it did. -/
def fnExactGlassesOkUptoRow : OpenClaim := { program := "ytpafcambfmkmiaa", sum := "22a60d3fd56fc761b004846944634ee45e295ce0ee870609ea0696a69cbc60a6", func := "loop.example/g00992/laws.FnExactGlassesOk", spec := "fnExactGlassesOk", plainKeys := false, apart := false, narrowed := true }
def FnExactGlassesOkUptoSaid : Prop := fnExactGlassesOkUptoRow.holds Try.pinned (OpenSpec.upto fnExactGlassesOkSpec)

/-- 'laws.FnExactFlip', WHERE WHAT IT READS IS OF BULK AT MOST 1048576: true; the input reads as it did. -/
def fnExactFlipUptoRow : OpenClaim := { program := "ytpafcambfmkmiaa", sum := "22a60d3fd56fc761b004846944634ee45e295ce0ee870609ea0696a69cbc60a6", func := "loop.example/g00992/laws.FnExactFlip", spec := "fnExactFlip", plainKeys := false, apart := false, narrowed := true }
def FnExactFlipUptoSaid : Prop := fnExactFlipUptoRow.holds Try.pinned (OpenSpec.upto fnExactFlipSpec)

/-- 'laws.FnExactRunOut', WHERE WHAT IT READS IS OF BULK AT MOST 1048576: true; the input reads as it did. -/
def fnExactRunOutUptoRow : OpenClaim := { program := "ytpafcambfmkmiaa", sum := "22a60d3fd56fc761b004846944634ee45e295ce0ee870609ea0696a69cbc60a6", func := "loop.example/g00992/laws.FnExactRunOut", spec := "fnExactRunOut", plainKeys := false, apart := false, narrowed := true }
def FnExactRunOutUptoSaid : Prop := fnExactRunOutUptoRow.holds Try.pinned (OpenSpec.upto fnExactRunOutSpec)

/-- 'laws.FnExactTimesWith', WHERE WHAT IT READS IS OF BULK AT MOST 1048576: true; the input reads as it did. -/
def fnExactTimesWithUptoRow : OpenClaim := { program := "ytpafcambfmkmiaa", sum := "22a60d3fd56fc761b004846944634ee45e295ce0ee870609ea0696a69cbc60a6", func := "loop.example/g00992/laws.FnExactTimesWith", spec := "fnExactTimesWith", recurses := true, plainKeys := false, apart := false, narrowed := true }
def FnExactTimesWithUptoSaid : Prop := fnExactTimesWithUptoRow.holds Try.pinned (OpenSpec.upto fnExactTimesWithSpec)

/-- 'laws.FnExactCanTime', WHERE WHAT IT READS IS OF BULK AT MOST 1048576: true; the input reads as it did. -/
def fnExactCanTimeUptoRow : OpenClaim := { program := "ytpafcambfmkmiaa", sum := "22a60d3fd56fc761b004846944634ee45e295ce0ee870609ea0696a69cbc60a6", func := "loop.example/g00992/laws.FnExactCanTime", spec := "fnExactCanTime", recurses := true, plainKeys := false, apart := false, narrowed := true }
def FnExactCanTimeUptoSaid : Prop := fnExactCanTimeUptoRow.holds Try.pinned (OpenSpec.upto fnExactCanTimeSpec)

/-- 'laws.FnGlasses', WHERE WHAT IT READS IS OF BULK AT MOST 1048576: true; the input reads as it did. -/
def fnGlassesUptoRow : OpenClaim := { program := "ytpafcambfmkmiaa", sum := "22a60d3fd56fc761b004846944634ee45e295ce0ee870609ea0696a69cbc60a6", func := "loop.example/g00992/laws.FnGlasses", spec := "fnGlasses", recurses := true, plainKeys := false, apart := false, narrowed := true }
def FnGlassesUptoSaid : Prop := fnGlassesUptoRow.holds Try.pinned (OpenSpec.upto fnGlassesSpec)

end Rows
end Go.Proofs.Ytpafcambfmkmiaa
