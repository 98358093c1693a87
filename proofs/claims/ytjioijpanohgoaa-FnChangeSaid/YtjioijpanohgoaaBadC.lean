/- FirstGreedyBad and IsGreedyGood: contracts for all arguments. -/
import Derived.Test.YtjioijpanohgoaaBad
set_option linter.unusedVariables false
namespace Go.Proofs.Ytjioijpanohgoaa
open Go.RowKit

theorem fgb_yes {xs : List Int} (h : sysB xs = true) : fgb xs = fgbM xs (mostN xs) := by rw [fgb, if_pos h]
theorem fgb_no {xs : List Int} (h : ¬ sysB xs = true) : fgb xs = -1 := by rw [fgb, if_neg h]
def goodB (xs : List Int) : Bool := sysB xs && decide (fgb xs < 0)
theorem goodB_eq (xs : List Int) : goodB xs = (sysB xs && (fgb xs == -1)) := by
  unfold goodB
  cases h : sysB xs with
  | false => rfl
  | true =>
    rw [fgb_yes h]
    rcases fgbM_bd xs (mostN xs) with h1 | h1
    · rw [h1]; rfl
    · rw [Bool.true_and, Bool.true_and, Bool.eq_iff_iff]
      simp
      omega
theorem iFirst_any (A : Option Addr) (len c : Nat) (xs : List Int) (w : World) (hl : xs.length = len) (hn : len ≤ 1048576) (hr : Reads w w.heap.size 1 A len (xs.map (.int .i64))) :
    Calls Try.prog 19 #[.slice A len c] w fun e w' => e = .returned (.int .i64 (fgb xs)) ∧ Kp w w' := by
  have HR := Lib.hid hr
  clear hr
  by_cases h1 : sysB xs = true
  · rw [fgb_yes h1]
    have HS := Lib.hid h1
    go_enter Try.func19, Try.ntmps19
    go_upto_region 3 with (go_at_call 27; refine (iSystemOk_any _ _ _ xs _ hl hn HR.out).mono ?_; rintro e w1 ⟨rfl, hm⟩; have hk1 := Kp.of_drewN hm; clear hm)
    clear h1
    go_wp2_with fail
    refine (iGreedyBad_any _ _ _ xs _ hl HS.out (HR.out.kp hk1)).mono ?_
    rintro e w2 ⟨rfl, hk2⟩
    go_wp2_with fail
    go_ret
    exact ⟨rfl, hk1.trans hk2⟩
  · rw [fgb_no h1]
    go_enter Try.func19, Try.ntmps19
    go_wp2_with (go_at_call 27; refine (iSystemOk_any _ _ _ xs _ hl hn HR.out).mono ?_; rintro e w1 ⟨rfl, hm⟩; have hk1 := Kp.of_drewN hm; clear hm)
    go_ret
    exact ⟨rfl, hk1⟩
theorem sFirst_any (A : Option Addr) (len c : Nat) (xs : List Int) (w : World) (hl : xs.length = len) (hn : len ≤ 1048576) (hr : Reads w w.heap.size 1 A len (xs.map (.int .i64))) :
    Calls Try.prog 18 #[.slice A len c] w fun e w' => e = .returned (.int .i64 (fgb xs)) ∧ Kp w w' := by
  by_cases h1 : sysB xs = true
  · by_cases h2 : len = 1
    · rw [fgb_one h1 (by omega)]
      have HR := Lib.hid hr
      clear hr
      have t : ((len : Int) == 1) = true := by simp; omega
      clear h2
      go_enter Try.func18, Try.ntmps18
      go_wp2_with (go_at_call 24; refine (sSystemOk_any _ _ _ xs _ hl hn HR.out).mono ?_; rintro e w1 ⟨rfl, hm⟩; have hk1 := Kp.of_drewN hm; clear hm)
      go_ret
      exact ⟨rfl, hk1⟩
    · rw [fgb_yes h1]
      exact sFirstIn_any A len c xs w hl h1 h2 hr
  · rw [fgb_no h1]
    have HR := Lib.hid hr
    clear hr
    go_enter Try.func18, Try.ntmps18
    go_wp2_with (go_at_call 24; refine (sSystemOk_any _ _ _ xs _ hl hn HR.out).mono ?_; rintro e w1 ⟨rfl, hm⟩; have hk1 := Kp.of_drewN hm; clear hm)
    go_ret
    exact ⟨rfl, hk1⟩
theorem iGood_any (A : Option Addr) (len c : Nat) (xs : List Int) (w : World) (hl : xs.length = len) (hn : len ≤ 1048576) (hr : Reads w w.heap.size 1 A len (xs.map (.int .i64))) :
    Calls Try.prog 17 #[.slice A len c] w fun e w' => e = .returned (.bool (goodB xs)) ∧ Kp w w' := by
  have HR := Lib.hid hr
  clear hr
  by_cases h1 : sysB xs = true
  · have HS := Lib.hid h1
    have HE := Lib.hid (fgb_yes h1)
    have HG := Lib.hid (show goodB xs = (fgb xs == -1) by rw [goodB_eq, h1, Bool.true_and])
    obtain ⟨G, eG⟩ : ∃ G, G = fgb xs := ⟨_, rfl⟩
    rw [← eG] at HE HG
    have CG := fun (W : World) hr => iGreedyBad_any A len c xs W hl HS.out hr
    rw [← HE.out] at CG
    have HC := Lib.hid CG
    clear CG eG
    go_enter Try.func17, Try.ntmps17
    go_wp2_with (first | (go_at_call 27; refine (iSystemOk_any _ _ _ xs _ hl hn HR.out).mono ?_; rintro e w1 ⟨rfl, hm⟩; have hk1 := Kp.of_drewN hm; clear hm) | (go_at_call 31; refine (HC.out _ (HR.out.kp hk1)).mono ?_; rintro e w2 ⟨rfl, hk2⟩))
    go_ret
    exact ⟨ret_bool (by rw [HG.out]), hk1.trans hk2⟩
  · have HG := Lib.hid (show goodB xs = false by rw [goodB]; simp [h1])
    go_enter Try.func17, Try.ntmps17
    go_wp2_with (go_at_call 27; refine (iSystemOk_any _ _ _ xs _ hl hn HR.out).mono ?_; rintro e w1 ⟨rfl, hm⟩; have hk1 := Kp.of_drewN hm; clear hm)
    go_ret
    exact ⟨ret_bool HG.out.symm, hk1⟩
theorem sGood_any (A : Option Addr) (len c : Nat) (xs : List Int) (w : World) (hl : xs.length = len) (hn : len ≤ 1048576) (hr : Reads w w.heap.size 1 A len (xs.map (.int .i64))) :
    Calls Try.prog 16 #[.slice A len c] w fun e w' => e = .returned (.bool (goodB xs)) ∧ Kp w w' := by
  have HR := Lib.hid hr
  clear hr
  by_cases h1 : sysB xs = true
  · have HS := Lib.hid h1
    have HE := Lib.hid (fgb_yes h1)
    have HG := Lib.hid (show goodB xs = (fgb xs < 0 : Bool) by rw [goodB, h1, Bool.true_and])
    obtain ⟨G, eG⟩ : ∃ G, G = fgb xs := ⟨_, rfl⟩
    rw [← eG] at HE HG
    have CG := fun (W : World) hr => sFirst_any A len c xs W hl hn hr
    rw [← eG] at CG
    have HC := Lib.hid CG
    clear CG eG
    go_enter Try.func16, Try.ntmps16
    go_wp2_with (first | (go_at_call 24; refine (sSystemOk_any _ _ _ xs _ hl hn HR.out).mono ?_; rintro e w1 ⟨rfl, hm⟩; have hk1 := Kp.of_drewN hm; clear hm) | (go_at_call 18; refine (HC.out _ (HR.out.kp hk1)).mono ?_; rintro e w2 ⟨rfl, hk2⟩))
    go_ret
    exact ⟨ret_bool (by rw [HG.out]), hk1.trans hk2⟩
  · have HG := Lib.hid (show goodB xs = false by rw [goodB]; simp [h1])
    go_enter Try.func16, Try.ntmps16
    go_wp2_with (go_at_call 24; refine (sSystemOk_any _ _ _ xs _ hl hn HR.out).mono ?_; rintro e w1 ⟨rfl, hm⟩; have hk1 := Kp.of_drewN hm; clear hm)
    go_ret
    exact ⟨ret_bool HG.out.symm, hk1⟩
end Go.Proofs.Ytjioijpanohgoaa
