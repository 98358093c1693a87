/- BeamOk, TorqueOf, IsLevel: the plain words, and the contracts. -/
import Derived.Test.YtnfajiokmjkebaaHangs
set_option linter.unusedVariables false
namespace Go.Proofs.Ytnfajiokmjkebaa
open Go.RowKit

def hangB (xs : List (Int × Int)) (k : Nat) : Bool := inB (pA xs k) (-100) 100 && inB (pB xs k) 0 1000
def beamB (xs : List (Int × Int)) : Bool := (List.range xs.length).all (hangB xs) && decide (xs.length ≤ 12)
theorem beamB_iff {xs : List (Int × Int)} : beamB xs = true ↔ (∀ k, k < xs.length → hangB xs k = true) ∧ xs.length ≤ 12 := by
  simp [beamB, List.all_eq_true]
theorem iBeamOk_any (A : Option Addr) (n c : Nat) (xs : List (Int × Int)) (w : World) (hl : xs.length = n) (hn : n ≤ 1048576) (hr : RdP w A n xs) :
    Calls Try.prog 14 #[.slice A n c] w fun e w' => e = .returned (.bool (beamB xs)) ∧ Kp w w' := by
  have HR := Lib.hid hr
  have HL := Lib.hid hl
  clear hr
  by_cases h12 : n ≤ 12
  · have t0 : decide ((12 : Int) < (n : Int)) = false := by simp; omega
    clear hl
    go_enter Try.func14, Try.ntmps14
    go_wp2
    clear t0
    go_loopw [10] (fun i wr => ∃ k : Nat, k ≤ n ∧ i = .int .i64 k ∧ (∀ j, j < k → hangB xs j = true) ∧ Kp w wr) (fun i _ => n - (intOf i).toNat)
    case atStart => exact ⟨0, by omega, rfl, fun j hj => by omega, Kp.refl _⟩
    case round =>
      obtain ⟨k, hk, rfl, hok, hkp⟩ := hrel
      have HOK := Lib.hid hok
      clear hok
      by_cases hlt : k < n
      · obtain ⟨b, off, rfl, hb, hc⟩ := (HR.out.kp hkp).cellOf HL.out (by omega)
        obtain ⟨cx, cy⟩ := hc k hlt
        have HB := Lib.hid (show hangB xs k = (inB (pA xs k) (-100) 100 && inB (pB xs k) 0 1000) from rfl)
        obtain ⟨X, hX⟩ : ∃ X, X = pA xs k := ⟨_, rfl⟩
        obtain ⟨Y, hY⟩ : ∃ Y, Y = pB xs k := ⟨_, rfl⟩
        rw [← hX] at cx HB
        rw [← hY] at cy HB
        have i0 : (0 : Int) ≤ (k : Int) := by omega
        have i1 : (k : Int) < (n : Int) := by omega
        clear hX hY hc
        by_cases q : (inB X (-100) 100 && inB Y 0 1000) = true
        · have HQ := Lib.hid q
          obtain ⟨q1, q2⟩ := Bool.and_eq_true_iff.1 q
          clear q
          go_wp2_with (go_at_call 36; refine (in_any _ _ _ _).mono ?_; rintro e w' ⟨rfl, rfl⟩)
          go_roundw
          case rel => exact ⟨k + 1, by omega, by go_num, fun j hj => by
            rcases Nat.lt_or_ge j k with h | h
            · exact HOK.out j h
            · obtain rfl : j = k := by omega
              rw [HB.out, HQ.out], by (repeat (with_reducible first | exact Kp.refl _ | assumption | refine Kp.drew ?_ | refine Kp.drewN ?_ _ | refine Kp.alloc ?_ _ | refine Kp.setCell ?_ (by first | (simp; done) | (simp; omega) | (dsimp only; omega)) _ | refine Kp.trans ?_ (by assumption)))⟩
          case measure => simp [intOf]; omega
        · have HF := Lib.hid (show beamB xs = false by
            rw [Bool.eq_false_iff]
            intro h
            have := (beamB_iff.1 h).1 k (by rw [HL.out]; exact hlt)
            rw [HB.out] at this
            exact q this)
          by_cases q1 : inB X (-100) 100 = true
          · have q2 : inB Y 0 1000 = false := by rw [q1, Bool.true_and] at q; simpa using q
            clear q
            go_wp2_with (go_at_call 36; refine (in_any _ _ _ _).mono ?_; rintro e w' ⟨rfl, rfl⟩)
            go_ret
            exact ⟨ret_bool HF.out.symm, by (repeat (with_reducible first | exact Kp.refl _ | assumption | refine Kp.drew ?_ | refine Kp.drewN ?_ _ | refine Kp.alloc ?_ _ | refine Kp.setCell ?_ (by first | (simp; done) | (simp; omega) | (dsimp only; omega)) _ | refine Kp.trans ?_ (by assumption)))⟩
          · clear q
            go_wp2_with (go_at_call 36; refine (in_any _ _ _ _).mono ?_; rintro e w' ⟨rfl, rfl⟩)
            go_ret
            exact ⟨ret_bool HF.out.symm, by (repeat (with_reducible first | exact Kp.refl _ | assumption | refine Kp.drew ?_ | refine Kp.drewN ?_ _ | refine Kp.alloc ?_ _ | refine Kp.setCell ?_ (by first | (simp; done) | (simp; omega) | (dsimp only; omega)) _ | refine Kp.trans ?_ (by assumption)))⟩
      · obtain rfl : k = n := by omega
        have HT := Lib.hid (show beamB xs = true from beamB_iff.2 ⟨fun j hj => HOK.out j (by rw [HL.out] at hj; exact hj), by rw [HL.out]; exact h12⟩)
        go_wp2
        go_ret
        exact ⟨ret_bool HT.out.symm, hkp⟩
  · have t0 : decide ((12 : Int) < (n : Int)) = true := by simp; omega
    have HF := Lib.hid (show beamB xs = false by
      rw [Bool.eq_false_iff]
      intro h
      have := (beamB_iff.1 h).2
      omega)
    clear hl
    go_enter Try.func14, Try.ntmps14
    go_wp2
    go_ret
    exact ⟨ret_bool HF.out.symm, Kp.refl _⟩
theorem sBeamOk_any (A : Option Addr) (n c : Nat) (xs : List (Int × Int)) (w : World) (hl : xs.length = n) (hn : n ≤ 1048576) (hr : RdP w A n xs) :
    Calls Try.prog 12 #[.slice A n c] w fun e w' => e = .returned (.bool (beamB xs)) ∧ Kp w w' := by
  have HR := Lib.hid hr
  have HL := Lib.hid hl
  clear hr hl
  go_enter Try.func12, Try.ntmps12
  go_wp2
  go_loopw [3] (fun i wr => ∃ k : Nat, k ≤ n ∧ i = .int .i64 k ∧ (∀ j, j < k → hangB xs j = true) ∧ Kp w wr) (fun i _ => n + 1 - (intOf i).toNat)
  case atStart => exact ⟨0, by omega, rfl, fun j hj => by omega, Kp.refl _⟩
  case round =>
    obtain ⟨k, hk, rfl, hok, hkp⟩ := hrel
    have HOK := Lib.hid hok
    clear hok
    by_cases hlt : k < n
    · obtain ⟨b, off, rfl, hb, hc⟩ := (HR.out.kp hkp).cellOf HL.out (by omega)
      obtain ⟨cx, cy⟩ := hc k hlt
      have HB := Lib.hid (show hangB xs k = (inB (pA xs k) (-100) 100 && inB (pB xs k) 0 1000) from rfl)
      obtain ⟨X, hX⟩ : ∃ X, X = pA xs k := ⟨_, rfl⟩
      obtain ⟨Y, hY⟩ : ∃ Y, Y = pB xs k := ⟨_, rfl⟩
      rw [← hX] at cx HB
      rw [← hY] at cy HB
      have i0 : (0 : Int) ≤ (k : Int) := by omega
      have i1 : (k : Int) < (n : Int) := by omega
      clear hX hY hc
      by_cases q : (inB X (-100) 100 && inB Y 0 1000) = true
      · have HQ := Lib.hid q
        obtain ⟨q1, q2⟩ := Bool.and_eq_true_iff.1 q
        clear q
        go_wp2_with (go_at_call 34; refine (l01In_any _ _ _ _).mono ?_; rintro e w' ⟨rfl, rfl⟩)
        go_roundw
        case rel => exact ⟨k + 1, by omega, by go_num, fun j hj => by
          rcases Nat.lt_or_ge j k with h | h
          · exact HOK.out j h
          · obtain rfl : j = k := by omega
            rw [HB.out, HQ.out], by (repeat (with_reducible first | exact Kp.refl _ | assumption | refine Kp.drew ?_ | refine Kp.drewN ?_ _ | refine Kp.alloc ?_ _ | refine Kp.setCell ?_ (by first | (simp; done) | (simp; omega) | (dsimp only; omega)) _ | refine Kp.trans ?_ (by assumption)))⟩
        case measure => simp [intOf]; omega
      · have HF := Lib.hid (show beamB xs = false by
          rw [Bool.eq_false_iff]
          intro h
          have := (beamB_iff.1 h).1 k (by rw [HL.out]; exact hlt)
          rw [HB.out] at this
          exact q this)
        by_cases q1 : inB X (-100) 100 = true
        · have q2 : inB Y 0 1000 = false := by rw [q1, Bool.true_and] at q; simpa using q
          clear q
          go_wp2_with (go_at_call 34; refine (l01In_any _ _ _ _).mono ?_; rintro e w' ⟨rfl, rfl⟩)
          go_ret
          exact ⟨ret_bool HF.out.symm, by (repeat (with_reducible first | exact Kp.refl _ | assumption | refine Kp.drew ?_ | refine Kp.drewN ?_ _ | refine Kp.alloc ?_ _ | refine Kp.setCell ?_ (by first | (simp; done) | (simp; omega) | (dsimp only; omega)) _ | refine Kp.trans ?_ (by assumption)))⟩
        · clear q
          go_wp2_with (go_at_call 34; refine (l01In_any _ _ _ _).mono ?_; rintro e w' ⟨rfl, rfl⟩)
          go_ret
          exact ⟨ret_bool HF.out.symm, by (repeat (with_reducible first | exact Kp.refl _ | assumption | refine Kp.drew ?_ | refine Kp.drewN ?_ _ | refine Kp.alloc ?_ _ | refine Kp.setCell ?_ (by first | (simp; done) | (simp; omega) | (dsimp only; omega)) _ | refine Kp.trans ?_ (by assumption)))⟩
    · obtain rfl : k = n := by omega
      have HT := Lib.hid (show beamB xs = decide ((k : Int) ≤ 12) by
        rw [Bool.eq_iff_iff, beamB_iff, HL.out]
        simp only [decide_eq_true_eq]
        constructor
        · intro h; omega
        · intro h; exact ⟨fun j hj => HOK.out j hj, by omega⟩)
      go_wp2
      go_ret
      exact ⟨ret_bool HT.out.symm, hkp⟩
end Go.Proofs.Ytnfajiokmjkebaa
