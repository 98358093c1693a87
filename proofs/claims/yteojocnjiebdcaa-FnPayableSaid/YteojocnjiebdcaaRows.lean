/-
  No cell of these rows narrows 'for every input' (looked for: loops, veiled, ifaces, maps, wideKeys, modest, calm, conditions, laid).
  DERIVED. THE GIVEN ROWS OF THIS SEAT. 7 by the template 'for every input the law returns true; each argument reads behind the call as it read before'; 0 by the template 'total and deterministic' (their statements: YteojocnjiebdcaaTotals.lean).
  GIVEN WITH THE SEED: the statements are not yours to turn. If you find one false, say at which input.
  Laid BY PROGRAM, IN A SANDBOX (cutbox-rows.mjs): the forced cells as the released guide's own fill.sh prints them over the translation 394d6a441e56475b… (all of the seat's roots in one cut). By AI agents, Wed Nov 11 2026. No macro, syntax, notation, axiom, sorry.
-/
import Derived.Test.YteojocnjiebdcaaChecked
import GoSem.Claim
import GoSem.ClaimJoined
import GoSem.ClaimMapViews
import Derived.JoinedTies
import Derived.KernelRfl
namespace Go.Proofs.Yteojocnjiebdcaa
/- THE CELL 'sum', in the pinned program and in every row, IS THE sha256 OF THE DUMP (.gsa) THAT YteojocnjiebdcaaProg.lean LOADS. Nothing in Lean hashes anything: it is a label: what it is worth is what the hold of that sum in a sandbox is worth. -/
noncomputable def Try.pinned : Pinned := { name := "yteojocnjiebdcaa", sum := "394d6a441e56475b3cff80e0439d276cd484b0f3844d0245694fa19888b3f086", checked := Try.checked }
namespace Rows
def none {H : Type} : Left H := { results := [], args := [] }

/-- 'laws.FnExactPurseOk': WHATEVER THE INPUT: true; the input reads as it did. -/
def fnExactPurseOkSpec : ChangeSpec := { name := "fnExactPurseOk", fn := fun _ => fun
  | [d] => { results := [.lit (.bool true)], args := [d] }
  | _ => none }
def fnExactPurseOkRow : OpenClaim := { program := "yteojocnjiebdcaa", sum := "394d6a441e56475b3cff80e0439d276cd484b0f3844d0245694fa19888b3f086", func := "loop.example/g00992/laws.FnExactPurseOk", spec := "fnExactPurseOk", apart := false }
def FnExactPurseOkSaid : Prop := fnExactPurseOkRow.holds Try.pinned (OpenSpec.ofChange fnExactPurseOkSpec)

/-- ITS FALSE NEIGHBOUR: 'it returns false'. Refute it at one input. -/
def fnExactPurseOkWrong : ChangeSpec := { name := "fnExactPurseOk", fn := fun _ => fun
  | [d] => { results := [.lit (.bool false)], args := [d] }
  | _ => none }
def FnExactPurseOkWrongFalsely : Prop := fnExactPurseOkRow.holds Try.pinned (OpenSpec.ofChange fnExactPurseOkWrong)

/-- 'laws.FnExactIsPayable': WHATEVER THE INPUT: true; the input reads as it did. -/
def fnExactIsPayableSpec : ChangeSpec := { name := "fnExactIsPayable", fn := fun _ => fun
  | [d1, d2] => { results := [.lit (.bool true)], args := [d1, d2] }
  | _ => none }
def fnExactIsPayableRow : OpenClaim := { program := "yteojocnjiebdcaa", sum := "394d6a441e56475b3cff80e0439d276cd484b0f3844d0245694fa19888b3f086", func := "loop.example/g00992/laws.FnExactIsPayable", spec := "fnExactIsPayable", apart := false }
def FnExactIsPayableSaid : Prop := fnExactIsPayableRow.holds Try.pinned (OpenSpec.ofChange fnExactIsPayableSpec)

/-- ITS FALSE NEIGHBOUR: 'it returns false'. Refute it at one input. -/
def fnExactIsPayableWrong : ChangeSpec := { name := "fnExactIsPayable", fn := fun _ => fun
  | [d1, d2] => { results := [.lit (.bool false)], args := [d1, d2] }
  | _ => none }
def FnExactIsPayableWrongFalsely : Prop := fnExactIsPayableRow.holds Try.pinned (OpenSpec.ofChange fnExactIsPayableWrong)

/-- 'laws.FnExactCommonDivisor': WHATEVER THE INPUT: true; the input reads as it did. -/
def fnExactCommonDivisorSpec : ChangeSpec := { name := "fnExactCommonDivisor", fn := fun _ => fun
  | [d] => { results := [.lit (.bool true)], args := [d] }
  | _ => none }
def fnExactCommonDivisorRow : OpenClaim := { program := "yteojocnjiebdcaa", sum := "394d6a441e56475b3cff80e0439d276cd484b0f3844d0245694fa19888b3f086", func := "loop.example/g00992/laws.FnExactCommonDivisor", spec := "fnExactCommonDivisor", apart := false }
def FnExactCommonDivisorSaid : Prop := fnExactCommonDivisorRow.holds Try.pinned (OpenSpec.ofChange fnExactCommonDivisorSpec)

/-- ITS FALSE NEIGHBOUR: 'it returns false'. Refute it at one input. -/
def fnExactCommonDivisorWrong : ChangeSpec := { name := "fnExactCommonDivisor", fn := fun _ => fun
  | [d] => { results := [.lit (.bool false)], args := [d] }
  | _ => none }
def FnExactCommonDivisorWrongFalsely : Prop := fnExactCommonDivisorRow.holds Try.pinned (OpenSpec.ofChange fnExactCommonDivisorWrong)

/-- 'laws.FnExactExactChange': WHATEVER THE INPUT: true; the input reads as it did. -/
def fnExactExactChangeSpec : ChangeSpec := { name := "fnExactExactChange", fn := fun _ => fun
  | [d1, d2] => { results := [.lit (.bool true)], args := [d1, d2] }
  | _ => none }
def fnExactExactChangeRow : OpenClaim := { program := "yteojocnjiebdcaa", sum := "394d6a441e56475b3cff80e0439d276cd484b0f3844d0245694fa19888b3f086", func := "loop.example/g00992/laws.FnExactExactChange", spec := "fnExactExactChange", apart := false }
def FnExactExactChangeSaid : Prop := fnExactExactChangeRow.holds Try.pinned (OpenSpec.ofChange fnExactExactChangeSpec)

/-- ITS FALSE NEIGHBOUR: 'it returns false'. Refute it at one input. -/
def fnExactExactChangeWrong : ChangeSpec := { name := "fnExactExactChange", fn := fun _ => fun
  | [d1, d2] => { results := [.lit (.bool false)], args := [d1, d2] }
  | _ => none }
def FnExactExactChangeWrongFalsely : Prop := fnExactExactChangeRow.holds Try.pinned (OpenSpec.ofChange fnExactExactChangeWrong)

/-- 'laws.FnExactCountUnpayable': WHATEVER THE INPUT: true; the input reads as it did. -/
def fnExactCountUnpayableSpec : ChangeSpec := { name := "fnExactCountUnpayable", fn := fun _ => fun
  | [d] => { results := [.lit (.bool true)], args := [d] }
  | _ => none }
def fnExactCountUnpayableRow : OpenClaim := { program := "yteojocnjiebdcaa", sum := "394d6a441e56475b3cff80e0439d276cd484b0f3844d0245694fa19888b3f086", func := "loop.example/g00992/laws.FnExactCountUnpayable", spec := "fnExactCountUnpayable", apart := false }
def FnExactCountUnpayableSaid : Prop := fnExactCountUnpayableRow.holds Try.pinned (OpenSpec.ofChange fnExactCountUnpayableSpec)

/-- ITS FALSE NEIGHBOUR: 'it returns false'. Refute it at one input. -/
def fnExactCountUnpayableWrong : ChangeSpec := { name := "fnExactCountUnpayable", fn := fun _ => fun
  | [d] => { results := [.lit (.bool false)], args := [d] }
  | _ => none }
def FnExactCountUnpayableWrongFalsely : Prop := fnExactCountUnpayableRow.holds Try.pinned (OpenSpec.ofChange fnExactCountUnpayableWrong)

/-- 'laws.FnExactLargestUnpayable': WHATEVER THE INPUT: true; the input reads as it did. -/
def fnExactLargestUnpayableSpec : ChangeSpec := { name := "fnExactLargestUnpayable", fn := fun _ => fun
  | [d] => { results := [.lit (.bool true)], args := [d] }
  | _ => none }
def fnExactLargestUnpayableRow : OpenClaim := { program := "yteojocnjiebdcaa", sum := "394d6a441e56475b3cff80e0439d276cd484b0f3844d0245694fa19888b3f086", func := "loop.example/g00992/laws.FnExactLargestUnpayable", spec := "fnExactLargestUnpayable", apart := false }
def FnExactLargestUnpayableSaid : Prop := fnExactLargestUnpayableRow.holds Try.pinned (OpenSpec.ofChange fnExactLargestUnpayableSpec)

/-- ITS FALSE NEIGHBOUR: 'it returns false'. Refute it at one input. -/
def fnExactLargestUnpayableWrong : ChangeSpec := { name := "fnExactLargestUnpayable", fn := fun _ => fun
  | [d] => { results := [.lit (.bool false)], args := [d] }
  | _ => none }
def FnExactLargestUnpayableWrongFalsely : Prop := fnExactLargestUnpayableRow.holds Try.pinned (OpenSpec.ofChange fnExactLargestUnpayableWrong)

/-- 'laws.FnPayable': WHATEVER THE INPUT: true; the input reads as it did. -/
def fnPayableSpec : ChangeSpec := { name := "fnPayable", fn := fun _ => fun
  | [d] => { results := [.lit (.bool true)], args := [d] }
  | _ => none }
def fnPayableRow : OpenClaim := { program := "yteojocnjiebdcaa", sum := "394d6a441e56475b3cff80e0439d276cd484b0f3844d0245694fa19888b3f086", func := "loop.example/g00992/laws.FnPayable", spec := "fnPayable", apart := false }
def FnPayableSaid : Prop := fnPayableRow.holds Try.pinned (OpenSpec.ofChange fnPayableSpec)

/-- ITS FALSE NEIGHBOUR: 'it returns false'. Refute it at one input. -/
def fnPayableWrong : ChangeSpec := { name := "fnPayable", fn := fun _ => fun
  | [d] => { results := [.lit (.bool false)], args := [d] }
  | _ => none }
def FnPayableWrongFalsely : Prop := fnPayableRow.holds Try.pinned (OpenSpec.ofChange fnPayableWrong)

/- THE SECOND FORM. 'bulk': how many values and letters a reading holds, each counted each time it is reached (what is shared counts as often as it is met; a slice's spare places count too). A statement '..UptoSaid' is the law's where the arguments, and the package variables that the reading takes, are together of bulk at most 1048576: NARROWER than '..Said'. Prove '..Said' where nothing that the law and all that it calls make is longer than what came in: it says more and counts as full. Else prove '..UptoSaid'. A law counts once. -/
mutual
def uptoBulk {H : Type} : DataW H → Nat
  | .lit (.string bytes) => bytes.length + 1
  | .lit _ => 1
  | .nil => 1
  | .ptr d => uptoBulk d + 1
  | .slice elems spare => uptoBulkAll elems + uptoBulkAll spare + 1
  | .agg parts => uptoBulkAll parts + 1
  | .iface _ d => uptoBulk d + 1
  | .map entries => uptoBulkEntries entries + 1
  | .held _ => 1
def uptoBulkAll {H : Type} : List (DataW H) → Nat
  | [] => 0
  | d :: r => uptoBulk d + uptoBulkAll r
def uptoBulkEntries {H : Type} : List (Lit × DataW H) → Nat
  | [] => 0
  | x :: r => uptoBulkEntry x + uptoBulkEntries r
def uptoBulkEntry {H : Type} : Lit × DataW H → Nat
  | (.string bytes, d) => bytes.length + uptoBulk d + 1
  | (_, d) => uptoBulk d + 1
 end
def uptoSmall : (H : Type) → List (DataW H) → Bool := fun _ ds => decide (uptoBulkAll ds ≤ 1048576)
def OpenSpec.upto (s : _root_.Go.ChangeSpec) : _root_.Go.OpenSpec := { _root_.Go.OpenSpec.ofChange s with cond := some uptoSmall }

/-- 'laws.FnExactPurseOk', WHERE WHAT IT READS IS OF BULK AT MOST 1048576: true; the input reads as it did. -/
def fnExactPurseOkUptoRow : OpenClaim := { program := "yteojocnjiebdcaa", sum := "394d6a441e56475b3cff80e0439d276cd484b0f3844d0245694fa19888b3f086", func := "loop.example/g00992/laws.FnExactPurseOk", spec := "fnExactPurseOk", apart := false, narrowed := true }
def FnExactPurseOkUptoSaid : Prop := fnExactPurseOkUptoRow.holds Try.pinned (OpenSpec.upto fnExactPurseOkSpec)

/-- 'laws.FnExactIsPayable', WHERE WHAT IT READS IS OF BULK AT MOST 1048576: true; the input reads as it did. -/
def fnExactIsPayableUptoRow : OpenClaim := { program := "yteojocnjiebdcaa", sum := "394d6a441e56475b3cff80e0439d276cd484b0f3844d0245694fa19888b3f086", func := "loop.example/g00992/laws.FnExactIsPayable", spec := "fnExactIsPayable", apart := false, narrowed := true }
def FnExactIsPayableUptoSaid : Prop := fnExactIsPayableUptoRow.holds Try.pinned (OpenSpec.upto fnExactIsPayableSpec)

/-- 'laws.FnExactCommonDivisor', WHERE WHAT IT READS IS OF BULK AT MOST 1048576: true; the input reads as it did. -/
def fnExactCommonDivisorUptoRow : OpenClaim := { program := "yteojocnjiebdcaa", sum := "394d6a441e56475b3cff80e0439d276cd484b0f3844d0245694fa19888b3f086", func := "loop.example/g00992/laws.FnExactCommonDivisor", spec := "fnExactCommonDivisor", apart := false, narrowed := true }
def FnExactCommonDivisorUptoSaid : Prop := fnExactCommonDivisorUptoRow.holds Try.pinned (OpenSpec.upto fnExactCommonDivisorSpec)

/-- 'laws.FnExactExactChange', WHERE WHAT IT READS IS OF BULK AT MOST 1048576: true; the input reads as it did. -/
def fnExactExactChangeUptoRow : OpenClaim := { program := "yteojocnjiebdcaa", sum := "394d6a441e56475b3cff80e0439d276cd484b0f3844d0245694fa19888b3f086", func := "loop.example/g00992/laws.FnExactExactChange", spec := "fnExactExactChange", apart := false, narrowed := true }
def FnExactExactChangeUptoSaid : Prop := fnExactExactChangeUptoRow.holds Try.pinned (OpenSpec.upto fnExactExactChangeSpec)

/-- 'laws.FnExactCountUnpayable', WHERE WHAT IT READS IS OF BULK AT MOST 1048576: true; the input reads as it did. -/
def fnExactCountUnpayableUptoRow : OpenClaim := { program := "yteojocnjiebdcaa", sum := "394d6a441e56475b3cff80e0439d276cd484b0f3844d0245694fa19888b3f086", func := "loop.example/g00992/laws.FnExactCountUnpayable", spec := "fnExactCountUnpayable", apart := false, narrowed := true }
def FnExactCountUnpayableUptoSaid : Prop := fnExactCountUnpayableUptoRow.holds Try.pinned (OpenSpec.upto fnExactCountUnpayableSpec)

/-- 'laws.FnExactLargestUnpayable', WHERE WHAT IT READS IS OF BULK AT MOST 1048576: true; the input reads as it did. -/
def fnExactLargestUnpayableUptoRow : OpenClaim := { program := "yteojocnjiebdcaa", sum := "394d6a441e56475b3cff80e0439d276cd484b0f3844d0245694fa19888b3f086", func := "loop.example/g00992/laws.FnExactLargestUnpayable", spec := "fnExactLargestUnpayable", apart := false, narrowed := true }
def FnExactLargestUnpayableUptoSaid : Prop := fnExactLargestUnpayableUptoRow.holds Try.pinned (OpenSpec.upto fnExactLargestUnpayableSpec)

/-- 'laws.FnPayable', WHERE WHAT IT READS IS OF BULK AT MOST 1048576: true; the input reads as it did. -/
def fnPayableUptoRow : OpenClaim := { program := "yteojocnjiebdcaa", sum := "394d6a441e56475b3cff80e0439d276cd484b0f3844d0245694fa19888b3f086", func := "loop.example/g00992/laws.FnPayable", spec := "fnPayable", apart := false, narrowed := true }
def FnPayableUptoSaid : Prop := fnPayableUptoRow.holds Try.pinned (OpenSpec.upto fnPayableSpec)

end Rows
end Go.Proofs.Yteojocnjiebdcaa
