/- GreedyChange: contracts of the program's and the reference's for all arguments. -/
import Derived.Test.YtjioijpanohgoaaGreedy
set_option linter.unusedVariables false
namespace Go.Proofs.Ytjioijpanohgoaa
open Go.RowKit

theorem greedyC_no {xs : List Int} {N : Int} (h : ¬ (sysB xs = true ∧ inB N 0 1000 = true)) : greedyC xs N = [] := by
  rw [greedyC, if_neg (by simpa using h)]
theorem greedyC_yes {xs : List Int} {N : Int} (h1 : sysB xs = true) (h2 : inB N 0 1000 = true) : greedyC xs N = greedyL xs N := by
  rw [greedyC, h1, h2]; rfl
theorem sGreedyChange_any (A : Option Addr) (len c : Nat) (xs : List Int) (N : Int) (w : World) (hl : xs.length = len) (hn : len ≤ 1048576) (hr : Reads w w.heap.size 1 A len (xs.map (.int .i64))) :
    Calls Try.prog 12 #[.slice A len c, .int .i64 N] w fun e w' => ∃ v, e = .returned v ∧ OwI w.heap.size w' v (greedyC xs N) ∧ Kp w w' := by
  by_cases h1 : sysB xs = true
  · by_cases h2 : inB N 0 1000 = true
    · rw [greedyC_yes h1 h2]
      exact sGreedyIn_any A len c xs N w hl h1 h2 hr
    · rw [greedyC_no (fun h => h2 h.2)]
      have HR := Lib.hid hr
      clear hr
      go_enter Try.func12, Try.ntmps12
      go_wp2_with (first | (go_at_call 24; refine (sSystemOk_any _ _ _ xs _ hl hn HR.out).mono ?_; rintro e w1 ⟨rfl, hm⟩; have hk1 := Kp.of_drewN hm; clear hm) | (go_at_call 25; refine (l01In_any _ _ _ _).mono ?_; rintro e w' ⟨rfl, rfl⟩))
      go_ret
      exact ⟨_, rfl, owi_lit _ _ hk1.size, hk1.alloc _⟩
  · rw [greedyC_no (fun h => h1 h.1)]
    have HR := Lib.hid hr
    clear hr
    go_enter Try.func12, Try.ntmps12
    go_wp2_with (first | (go_at_call 24; refine (sSystemOk_any _ _ _ xs _ hl hn HR.out).mono ?_; rintro e w1 ⟨rfl, hm⟩; have hk1 := Kp.of_drewN hm; clear hm) | (go_at_call 25; refine (l01In_any _ _ _ _).mono ?_; rintro e w' ⟨rfl, rfl⟩))
    go_ret
    exact ⟨_, rfl, owi_lit _ _ hk1.size, hk1.alloc _⟩
theorem iGreedyChange_any (A : Option Addr) (len c : Nat) (xs : List Int) (N : Int) (w : World) (hl : xs.length = len) (hn : len ≤ 1048576) (hr : Reads w w.heap.size 1 A len (xs.map (.int .i64))) :
    Calls Try.prog 13 #[.slice A len c, .int .i64 N] w fun e w' => ∃ v, e = .returned v ∧ OwI w.heap.size w' v (greedyC xs N) ∧ Kp w w' := by
  by_cases h1 : sysB xs = true
  · by_cases h2 : inB N 0 1000 = true
    · rw [greedyC_yes h1 h2]
      have HR := Lib.hid hr
      have HN := Lib.hid h2
      have HS := Lib.hid h1
      clear hr
      go_enter Try.func13, Try.ntmps13
      go_upto_region 3 with (first | (go_at_call 27; refine (iSystemOk_any _ _ _ xs _ hl hn HR.out).mono ?_; rintro e w1 ⟨rfl, hm⟩; have hk1 := Kp.of_drewN hm; clear hm) | (go_at_call 28; refine (in_any _ _ _ _).mono ?_; rintro e w' ⟨rfl, rfl⟩))
      clear h1 h2
      go_wp2_with fail
      refine (iGreedy_any _ _ _ xs N _ hl HS.out HN.out (HR.out.kp hk1)).mono ?_
      rintro e w2 ⟨v, rfl, ho, hk2⟩
      have HO := Lib.hid (ho.weak hk1.size)
      clear ho
      go_wp2_with fail
      go_ret
      exact ⟨_, rfl, HO.out, hk1.trans hk2⟩
    · rw [greedyC_no (fun h => h2 h.2)]
      have HR := Lib.hid hr
      clear hr
      go_enter Try.func13, Try.ntmps13
      go_wp2_with (first | (go_at_call 27; refine (iSystemOk_any _ _ _ xs _ hl hn HR.out).mono ?_; rintro e w1 ⟨rfl, hm⟩; have hk1 := Kp.of_drewN hm; clear hm) | (go_at_call 28; refine (in_any _ _ _ _).mono ?_; rintro e w' ⟨rfl, rfl⟩))
      go_ret
      exact ⟨_, rfl, World.ownsRow_nil _ _ _ _, hk1⟩
  · rw [greedyC_no (fun h => h1 h.1)]
    have HR := Lib.hid hr
    clear hr
    go_enter Try.func13, Try.ntmps13
    go_wp2_with (first | (go_at_call 27; refine (iSystemOk_any _ _ _ xs _ hl hn HR.out).mono ?_; rintro e w1 ⟨rfl, hm⟩; have hk1 := Kp.of_drewN hm; clear hm) | (go_at_call 28; refine (in_any _ _ _ _).mono ?_; rintro e w' ⟨rfl, rfl⟩))
    go_ret
    exact ⟨_, rfl, World.ownsRow_nil _ _ _ _, hk1⟩
end Go.Proofs.Ytjioijpanohgoaa
