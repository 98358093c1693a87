/- ExactChange: contracts of the program's and the reference's. -/
import Derived.Test.YteojocnjiebdcaaPay
set_option linter.unusedVariables false
namespace Go.Proofs.Yteojocnjiebdcaa
open Go.RowKit
theorem gcdL_pos {xs : List Int} (h : purseB xs = true) : 1 ≤ gcdL xs ∧ gcdL xs ≤ 20 := by
  obtain ⟨ha, hs, h1, h2⟩ := purseB_bd h
  have g1 := gcdL_le ha xs.length
  rw [List.take_length] at g1
  refine ⟨?_, g1⟩
  have := gcdL_succ (xs := xs) (k := xs.length - 1) (by omega)
  rw [show xs.length - 1 + 1 = xs.length by omega, List.take_length] at this
  rw [this]
  have hb := allB_iff.1 ha (xs.length - 1) (by omega)
  have : Int.gcd (gcdL (xs.take (xs.length - 1))) (xs.getD (xs.length - 1) 0) ≠ 0 := fun e => by
    have := (Int.gcd_eq_zero_iff.1 e).2
    omega
  omega
def exB (xs : List Int) (m : Int) : Bool := purseB xs && inB m (-1000) 1000 && (m.tmod (gcdL xs) == 0)
theorem implExactChange_any (A : Option Addr) (n c : Nat) (xs : List Int) (m : Int) (w : World) (hl : xs.length = n) (hn : n ≤ 1048576) (hr : Reads w w.heap.size 1 A n (xs.map (.int .i64))) :
    Calls Try.prog 19 #[.slice A n c, .int .i64 m] w fun e w' => e = .returned (.bool (exB xs m)) ∧ Kp w w' := by
  have HR := Lib.hid hr
  clear hr
  by_cases hp : purseB xs = true
  · by_cases hi : inB m (-1000) 1000 = true
    · have e : exB xs m = (m.tmod (gcdL xs) == 0) := by simp [exB, hp, hi]
      have ec : cdiv xs = gcdL xs := by rw [cdiv, if_pos hp]
      have gp := gcdL_pos hp
      have b1 := inB_true.1 hi
      rw [e]
      obtain ⟨G, hG⟩ : ∃ G, G = gcdL xs := ⟨_, rfl⟩
      rw [← hG] at ec gp ⊢
      have hC := fun W hr => iCommonDivisor_any A n c xs W hl hn hr
      rw [ec] at hC
      have HC := Lib.hid hC
      clear hG e ec hC
      go_enter Try.func19, Try.ntmps19
      go_wp2_with (first | (go_at_call 12; refine (iPurseOk_any _ _ _ xs _ hl hn HR.out).mono ?_; rintro e w1 ⟨rfl, hm⟩; have hk1 := Kp.of_drewN hm; clear hm) | (go_at_call 28; refine (in_any _ _ _ _).mono ?_; rintro e w' ⟨rfl, rfl⟩) | (go_at_call 17; refine (HC.out _ (HR.out.kp hk1)).mono ?_; rintro e w2 ⟨rfl, hk2⟩))
      go_ret
      exact ⟨rfl, hk1.trans hk2⟩
    · have e : exB xs m = false := by simp [exB, hi]
      have HE := Lib.hid e
      clear e
      go_enter Try.func19, Try.ntmps19
      go_wp2_with (first | (go_at_call 12; refine (iPurseOk_any _ _ _ xs _ hl hn HR.out).mono ?_; rintro e w1 ⟨rfl, hm⟩; have hk1 := Kp.of_drewN hm; clear hm) | (go_at_call 28; refine (in_any _ _ _ _).mono ?_; rintro e w' ⟨rfl, rfl⟩))
      go_ret
      exact ⟨ret_bool HE.out.symm, hk1⟩
  · have e : exB xs m = false := by simp [exB, hp]
    have HE := Lib.hid e
    clear e
    go_enter Try.func19, Try.ntmps19
    go_wp2_with (go_at_call 12; refine (iPurseOk_any _ _ _ xs _ hl hn HR.out).mono ?_; rintro e w1 ⟨rfl, hm⟩; have hk1 := Kp.of_drewN hm; clear hm)
    go_ret
    exact ⟨ret_bool HE.out.symm, hk1⟩
theorem specExactChange_any (A : Option Addr) (n c : Nat) (xs : List Int) (m : Int) (w : World) (hl : xs.length = n) (hn : n ≤ 1048576) (hr : Reads w w.heap.size 1 A n (xs.map (.int .i64))) :
    Calls Try.prog 18 #[.slice A n c, .int .i64 m] w fun e w' => e = .returned (.bool (exB xs m)) ∧ Kp w w' := by
  have HR := Lib.hid hr
  clear hr
  by_cases hp : purseB xs = true
  · by_cases hi : inB m (-1000) 1000 = true
    · have e : exB xs m = (m.tmod (gcdL xs) == 0) := by simp [exB, hp, hi]
      have ec : cdiv xs = gcdL xs := by rw [cdiv, if_pos hp]
      have gp := gcdL_pos hp
      have b1 := inB_true.1 hi
      rw [e]
      obtain ⟨G, hG⟩ : ∃ G, G = gcdL xs := ⟨_, rfl⟩
      rw [← hG] at ec gp ⊢
      have hC := fun W hr => sCommonDivisor_any A n c xs W hl hn hr
      rw [ec] at hC
      have HC := Lib.hid hC
      clear hG e ec hC
      go_enter Try.func18, Try.ntmps18
      go_wp2_with (first | (go_at_call 10; refine (sPurseOk_any _ _ _ xs _ hl hn HR.out).mono ?_; rintro e w1 ⟨rfl, hm⟩; have hk1 := Kp.of_drewN hm; clear hm) | (go_at_call 27; refine (l01In_any _ _ _ _).mono ?_; rintro e w' ⟨rfl, rfl⟩) | (go_at_call 16; refine (HC.out _ (HR.out.kp hk1)).mono ?_; rintro e w2 ⟨rfl, hk2⟩))
      go_ret
      exact ⟨rfl, hk1.trans hk2⟩
    · have e : exB xs m = false := by simp [exB, hi]
      have HE := Lib.hid e
      clear e
      go_enter Try.func18, Try.ntmps18
      go_wp2_with (first | (go_at_call 10; refine (sPurseOk_any _ _ _ xs _ hl hn HR.out).mono ?_; rintro e w1 ⟨rfl, hm⟩; have hk1 := Kp.of_drewN hm; clear hm) | (go_at_call 27; refine (l01In_any _ _ _ _).mono ?_; rintro e w' ⟨rfl, rfl⟩))
      go_ret
      exact ⟨ret_bool HE.out.symm, hk1⟩
  · have e : exB xs m = false := by simp [exB, hp]
    have HE := Lib.hid e
    clear e
    go_enter Try.func18, Try.ntmps18
    go_wp2_with (go_at_call 10; refine (sPurseOk_any _ _ _ xs _ hl hn HR.out).mono ?_; rintro e w1 ⟨rfl, hm⟩; have hk1 := Kp.of_drewN hm; clear hm)
    go_ret
    exact ⟨ret_bool HE.out.symm, hk1⟩
end Go.Proofs.Yteojocnjiebdcaa
