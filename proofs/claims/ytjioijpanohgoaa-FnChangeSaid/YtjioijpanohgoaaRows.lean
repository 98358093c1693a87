/-
  No cell of these rows narrows 'for every input' (looked for: loops, veiled, ifaces, maps, wideKeys, modest, calm, conditions, laid).
  DERIVED. THE GIVEN ROWS OF THIS SEAT. 5 by the template 'for every input the law returns true; each argument reads behind the call as it read before'; 0 by the template 'total and deterministic' (their statements: YtjioijpanohgoaaTotals.lean).
  GIVEN WITH THE SEED: the statements are not yours to turn. If you find one false, say at which input.
  Laid BY PROGRAM, IN A SANDBOX (cutbox-rows.mjs): the forced cells as the released guide's own fill.sh prints them over the translation 2eb06bce72e731d0… (all of the seat's roots in one cut). By AI agents, Wed Nov 11 2026. No macro, syntax, notation, axiom, sorry.
-/
import Derived.Test.YtjioijpanohgoaaChecked
import GoSem.Claim
import GoSem.ClaimJoined
import GoSem.ClaimMapViews
import Derived.JoinedTies
import Derived.KernelRfl
namespace Go.Proofs.Ytjioijpanohgoaa
/- THE CELL 'sum', in the pinned program and in every row, IS THE sha256 OF THE DUMP (.gsa) THAT YtjioijpanohgoaaProg.lean LOADS. Nothing in Lean hashes anything: it is a label: what it is worth is what the hold of that sum in a sandbox is worth. -/
noncomputable def Try.pinned : Pinned := { name := "ytjioijpanohgoaa", sum := "2eb06bce72e731d069424fd653a73bd9a9b545683a2349831199621550bb544e", checked := Try.checked }
namespace Rows
def none {H : Type} : Left H := { results := [], args := [] }

/-- 'laws.FnExactFewestCoins': WHATEVER THE INPUT: true; the input reads as it did. -/
def fnExactFewestCoinsSpec : ChangeSpec := { name := "fnExactFewestCoins", fn := fun _ => fun
  | [d1, d2] => { results := [.lit (.bool true)], args := [d1, d2] }
  | _ => none }
def fnExactFewestCoinsRow : OpenClaim := { program := "ytjioijpanohgoaa", sum := "2eb06bce72e731d069424fd653a73bd9a9b545683a2349831199621550bb544e", func := "loop.example/g00992/laws.FnExactFewestCoins", spec := "fnExactFewestCoins", apart := false }
def FnExactFewestCoinsSaid : Prop := fnExactFewestCoinsRow.holds Try.pinned (OpenSpec.ofChange fnExactFewestCoinsSpec)

/-- ITS FALSE NEIGHBOUR: 'it returns false'. Refute it at one input. -/
def fnExactFewestCoinsWrong : ChangeSpec := { name := "fnExactFewestCoins", fn := fun _ => fun
  | [d1, d2] => { results := [.lit (.bool false)], args := [d1, d2] }
  | _ => none }
def FnExactFewestCoinsWrongFalsely : Prop := fnExactFewestCoinsRow.holds Try.pinned (OpenSpec.ofChange fnExactFewestCoinsWrong)

/-- 'laws.FnExactGreedyChange': WHATEVER THE INPUT: true; the input reads as it did. -/
def fnExactGreedyChangeSpec : ChangeSpec := { name := "fnExactGreedyChange", fn := fun _ => fun
  | [d1, d2] => { results := [.lit (.bool true)], args := [d1, d2] }
  | _ => none }
def fnExactGreedyChangeRow : OpenClaim := { program := "ytjioijpanohgoaa", sum := "2eb06bce72e731d069424fd653a73bd9a9b545683a2349831199621550bb544e", func := "loop.example/g00992/laws.FnExactGreedyChange", spec := "fnExactGreedyChange", apart := false }
def FnExactGreedyChangeSaid : Prop := fnExactGreedyChangeRow.holds Try.pinned (OpenSpec.ofChange fnExactGreedyChangeSpec)

/-- ITS FALSE NEIGHBOUR: 'it returns false'. Refute it at one input. -/
def fnExactGreedyChangeWrong : ChangeSpec := { name := "fnExactGreedyChange", fn := fun _ => fun
  | [d1, d2] => { results := [.lit (.bool false)], args := [d1, d2] }
  | _ => none }
def FnExactGreedyChangeWrongFalsely : Prop := fnExactGreedyChangeRow.holds Try.pinned (OpenSpec.ofChange fnExactGreedyChangeWrong)

/-- 'laws.FnExactIsGreedyGood': WHATEVER THE INPUT: true; the input reads as it did. -/
def fnExactIsGreedyGoodSpec : ChangeSpec := { name := "fnExactIsGreedyGood", fn := fun _ => fun
  | [d] => { results := [.lit (.bool true)], args := [d] }
  | _ => none }
def fnExactIsGreedyGoodRow : OpenClaim := { program := "ytjioijpanohgoaa", sum := "2eb06bce72e731d069424fd653a73bd9a9b545683a2349831199621550bb544e", func := "loop.example/g00992/laws.FnExactIsGreedyGood", spec := "fnExactIsGreedyGood", apart := false }
def FnExactIsGreedyGoodSaid : Prop := fnExactIsGreedyGoodRow.holds Try.pinned (OpenSpec.ofChange fnExactIsGreedyGoodSpec)

/-- ITS FALSE NEIGHBOUR: 'it returns false'. Refute it at one input. -/
def fnExactIsGreedyGoodWrong : ChangeSpec := { name := "fnExactIsGreedyGood", fn := fun _ => fun
  | [d] => { results := [.lit (.bool false)], args := [d] }
  | _ => none }
def FnExactIsGreedyGoodWrongFalsely : Prop := fnExactIsGreedyGoodRow.holds Try.pinned (OpenSpec.ofChange fnExactIsGreedyGoodWrong)

/-- 'laws.FnExactFirstGreedyBad': WHATEVER THE INPUT: true; the input reads as it did. -/
def fnExactFirstGreedyBadSpec : ChangeSpec := { name := "fnExactFirstGreedyBad", fn := fun _ => fun
  | [d] => { results := [.lit (.bool true)], args := [d] }
  | _ => none }
def fnExactFirstGreedyBadRow : OpenClaim := { program := "ytjioijpanohgoaa", sum := "2eb06bce72e731d069424fd653a73bd9a9b545683a2349831199621550bb544e", func := "loop.example/g00992/laws.FnExactFirstGreedyBad", spec := "fnExactFirstGreedyBad", apart := false }
def FnExactFirstGreedyBadSaid : Prop := fnExactFirstGreedyBadRow.holds Try.pinned (OpenSpec.ofChange fnExactFirstGreedyBadSpec)

/-- ITS FALSE NEIGHBOUR: 'it returns false'. Refute it at one input. -/
def fnExactFirstGreedyBadWrong : ChangeSpec := { name := "fnExactFirstGreedyBad", fn := fun _ => fun
  | [d] => { results := [.lit (.bool false)], args := [d] }
  | _ => none }
def FnExactFirstGreedyBadWrongFalsely : Prop := fnExactFirstGreedyBadRow.holds Try.pinned (OpenSpec.ofChange fnExactFirstGreedyBadWrong)

/-- 'laws.FnChange': WHATEVER THE INPUT: true; the input reads as it did. -/
def fnChangeSpec : ChangeSpec := { name := "fnChange", fn := fun _ => fun
  | [d] => { results := [.lit (.bool true)], args := [d] }
  | _ => none }
def fnChangeRow : OpenClaim := { program := "ytjioijpanohgoaa", sum := "2eb06bce72e731d069424fd653a73bd9a9b545683a2349831199621550bb544e", func := "loop.example/g00992/laws.FnChange", spec := "fnChange", apart := false }
def FnChangeSaid : Prop := fnChangeRow.holds Try.pinned (OpenSpec.ofChange fnChangeSpec)

/-- ITS FALSE NEIGHBOUR: 'it returns false'. Refute it at one input. -/
def fnChangeWrong : ChangeSpec := { name := "fnChange", fn := fun _ => fun
  | [d] => { results := [.lit (.bool false)], args := [d] }
  | _ => none }
def FnChangeWrongFalsely : Prop := fnChangeRow.holds Try.pinned (OpenSpec.ofChange fnChangeWrong)

/- THE SECOND FORM. 'bulk': how many values and letters a reading holds, each counted each time it is reached (what is shared counts as often as it is met; a slice's spare places count too). A statement '..UptoSaid' is the law's where the arguments, and the package variables that the reading takes, are together of bulk at most 1048576: NARROWER than '..Said'. Prove '..Said' where nothing that the law and all that it calls make is longer than what came in: it says more and counts as full. Else prove '..UptoSaid'. A law counts once. -/
mutual
def uptoBulk {H : Type} : DataW H → Nat
  | .lit (.string bytes) => bytes.length + 1
  | .lit _ => 1
  | .nil => 1
  | .ptr d => uptoBulk d + 1
  | .slice elems spare => uptoBulkAll elems + uptoBulkAll spare + 1
  | .agg parts => uptoBulkAll parts + 1
  | .iface _ d => uptoBulk d + 1
  | .map entries => uptoBulkEntries entries + 1
  | .held _ => 1
def uptoBulkAll {H : Type} : List (DataW H) → Nat
  | [] => 0
  | d :: r => uptoBulk d + uptoBulkAll r
def uptoBulkEntries {H : Type} : List (Lit × DataW H) → Nat
  | [] => 0
  | x :: r => uptoBulkEntry x + uptoBulkEntries r
def uptoBulkEntry {H : Type} : Lit × DataW H → Nat
  | (.string bytes, d) => bytes.length + uptoBulk d + 1
  | (_, d) => uptoBulk d + 1
 end
def uptoSmall : (H : Type) → List (DataW H) → Bool := fun _ ds => decide (uptoBulkAll ds ≤ 1048576)
def OpenSpec.upto (s : _root_.Go.ChangeSpec) : _root_.Go.OpenSpec := { _root_.Go.OpenSpec.ofChange s with cond := some uptoSmall }

/-- 'laws.FnExactFewestCoins', WHERE WHAT IT READS IS OF BULK AT MOST 1048576: true; the input reads as it did. -/
def fnExactFewestCoinsUptoRow : OpenClaim := { program := "ytjioijpanohgoaa", sum := "2eb06bce72e731d069424fd653a73bd9a9b545683a2349831199621550bb544e", func := "loop.example/g00992/laws.FnExactFewestCoins", spec := "fnExactFewestCoins", apart := false, narrowed := true }
def FnExactFewestCoinsUptoSaid : Prop := fnExactFewestCoinsUptoRow.holds Try.pinned (OpenSpec.upto fnExactFewestCoinsSpec)

/-- 'laws.FnExactGreedyChange', WHERE WHAT IT READS IS OF BULK AT MOST 1048576: true; the input reads as it did. -/
def fnExactGreedyChangeUptoRow : OpenClaim := { program := "ytjioijpanohgoaa", sum := "2eb06bce72e731d069424fd653a73bd9a9b545683a2349831199621550bb544e", func := "loop.example/g00992/laws.FnExactGreedyChange", spec := "fnExactGreedyChange", apart := false, narrowed := true }
def FnExactGreedyChangeUptoSaid : Prop := fnExactGreedyChangeUptoRow.holds Try.pinned (OpenSpec.upto fnExactGreedyChangeSpec)

/-- 'laws.FnExactIsGreedyGood', WHERE WHAT IT READS IS OF BULK AT MOST 1048576: true; the input reads as it did. -/
def fnExactIsGreedyGoodUptoRow : OpenClaim := { program := "ytjioijpanohgoaa", sum := "2eb06bce72e731d069424fd653a73bd9a9b545683a2349831199621550bb544e", func := "loop.example/g00992/laws.FnExactIsGreedyGood", spec := "fnExactIsGreedyGood", apart := false, narrowed := true }
def FnExactIsGreedyGoodUptoSaid : Prop := fnExactIsGreedyGoodUptoRow.holds Try.pinned (OpenSpec.upto fnExactIsGreedyGoodSpec)

/-- 'laws.FnExactFirstGreedyBad', WHERE WHAT IT READS IS OF BULK AT MOST 1048576: true; the input reads as it did. -/
def fnExactFirstGreedyBadUptoRow : OpenClaim := { program := "ytjioijpanohgoaa", sum := "2eb06bce72e731d069424fd653a73bd9a9b545683a2349831199621550bb544e", func := "loop.example/g00992/laws.FnExactFirstGreedyBad", spec := "fnExactFirstGreedyBad", apart := false, narrowed := true }
def FnExactFirstGreedyBadUptoSaid : Prop := fnExactFirstGreedyBadUptoRow.holds Try.pinned (OpenSpec.upto fnExactFirstGreedyBadSpec)

/-- 'laws.FnChange', WHERE WHAT IT READS IS OF BULK AT MOST 1048576: true; the input reads as it did. -/
def fnChangeUptoRow : OpenClaim := { program := "ytjioijpanohgoaa", sum := "2eb06bce72e731d069424fd653a73bd9a9b545683a2349831199621550bb544e", func := "loop.example/g00992/laws.FnChange", spec := "fnChange", apart := false, narrowed := true }
def FnChangeUptoSaid : Prop := fnChangeUptoRow.holds Try.pinned (OpenSpec.upto fnChangeSpec)

end Rows
end Go.Proofs.Ytjioijpanohgoaa
