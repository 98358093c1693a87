/- PlaceFor, CenterOf: the plain words, and the contracts. -/
import Derived.Test.YtnfajiokmjkebaaTorque
import Derived.Test.YtnfajiokmjkebaaFrac
set_option linter.unusedVariables false
namespace Go.Proofs.Ytnfajiokmjkebaa
open Go.RowKit

theorem eqFraction_same (a b : Int) (w : World) : Calls Try.prog 26 #[.agg #[.int .i64 a, .int .i64 b], .agg #[.int .i64 a, .int .i64 b]] w fun e w' => e = .returned (.bool true) ∧ Kp w w' := by
  go_enter Try.func26, Try.ntmps26
  go_wp2
  go_ret
  exact ⟨rfl, by (repeat (with_reducible first | exact Kp.refl _ | assumption | refine Kp.drew ?_ | refine Kp.drewN ?_ _ | refine Kp.alloc ?_ _ | refine Kp.setCell ?_ (by first | (simp; done) | (simp; omega) | (dsimp only; omega)) _ | refine Kp.trans ?_ (by assumption)))⟩
def plB (xs : List (Int × Int)) (q : Int) : Bool := beamB xs && inB q 1 1000 && mfB (-torq xs) q
def plT (xs : List (Int × Int)) (q : Int) : Int := if (beamB xs && inB q 1 1000) = true then mfT (-torq xs) q else 0
def plU (xs : List (Int × Int)) (q : Int) : Int := if (beamB xs && inB q 1 1000) = true then mfU (-torq xs) q else 0
theorem iPlaceFor_any (A : Option Addr) (n c : Nat) (xs : List (Int × Int)) (q : Int) (w : World) (hl : xs.length = n) (hn : n ≤ 1048576) (hr : RdP w A n xs) :
    Calls Try.prog 25 #[.slice A n c, .int .i64 q] w fun e w' => e = .returned (.tuple #[.agg #[.int .i64 (plT xs q), .int .i64 (plU xs q)], .bool (plB xs q)]) ∧ Kp w w' := by
  have HR := Lib.hid hr
  clear hr
  by_cases h1 : beamB xs = true
  · by_cases h2 : inB q 1 1000 = true
    · have eb : plB xs q = mfB (-torq xs) q := by simp [plB, h1, h2]
      have et : plT xs q = mfT (-torq xs) q := by simp [plT, h1, h2]
      have eu : plU xs q = mfU (-torq xs) q := by simp [plU, h1, h2]
      rw [eb, et, eu]
      have HB := Lib.hid h1
      have HT := Lib.hid (torq_bd xs)
      clear eb et eu h1
      go_enter Try.func25, Try.ntmps25
      go_wp2_with (first | (go_at_call 14; refine (iBeamOk_any _ _ _ xs _ hl hn (HR.out.kp ((Kp.refl w).alloc _))).mono ?_; rintro e w1 ⟨rfl, hk⟩; rw [HB.out]; have hkw := ((Kp.refl w).alloc _).trans hk; obtain ⟨c0_0, f0_0⟩ : w1.cell? ⟨w.heap.size, 0, none⟩ = some (.int .i64 0) ∧ w1.frozen? ⟨w.heap.size, 0, none⟩ = false := hk.at2 (by first | with_reducible assumption | simp [go_sem]) (by first | with_reducible assumption | simp [go_sem]); obtain ⟨c0_1, f0_1⟩ : w1.cell? ⟨w.heap.size, 1, none⟩ = some (.int .i64 0) ∧ w1.frozen? ⟨w.heap.size, 1, none⟩ = false := hk.at2 (by first | with_reducible assumption | simp [go_sem]) (by first | with_reducible assumption | simp [go_sem])) | (go_at_call 36; refine (in_any _ _ _ _).mono ?_; rintro e w' ⟨rfl, rfl⟩) | (go_at_call 17; refine (iTorqueOf_any _ _ _ xs _ hl hn (HR.out.kp hkw)).mono ?_; rintro e w2 ⟨rfl, hk2⟩; obtain ⟨c0_0, f0_0⟩ := hk2.at2 c0_0 f0_0; obtain ⟨c0_1, f0_1⟩ := hk2.at2 c0_1 f0_1; have TB := HT.out) | (go_at_call 40; refine (iMake_any _ _ _).mono ?_; rintro e w3 ⟨rfl, hk3⟩; obtain ⟨c0_0, f0_0⟩ := hk3.at2 c0_0 f0_0; obtain ⟨c0_1, f0_1⟩ := hk3.at2 c0_1 f0_1))
      exact bodyPost_ret (v := .tuple #[.agg #[.int .i64 (mfT (-torq xs) q), .int .i64 (mfU (-torq xs) q)], .bool (mfB (-torq xs) q)]) (by simp [results, Try.results25, go_sem, c0_0, c0_1]) rfl ⟨rfl, by (repeat (with_reducible first | exact Kp.refl _ | assumption | refine Kp.drew ?_ | refine Kp.drewN ?_ _ | refine Kp.alloc ?_ _ | refine Kp.setCell ?_ (by first | (simp; done) | (simp; omega) | (dsimp only; omega)) _ | refine Kp.trans ?_ (by assumption)))⟩
    · have eb : plB xs q = false := by simp [plB, h2]
      have et : plT xs q = 0 := by simp [plT, h2]
      have eu : plU xs q = 0 := by simp [plU, h2]
      rw [eb, et, eu]
      have HB := Lib.hid h1
      clear eb et eu h1
      go_enter Try.func25, Try.ntmps25
      go_wp2_with (first | (go_at_call 14; refine (iBeamOk_any _ _ _ xs _ hl hn (HR.out.kp ((Kp.refl w).alloc _))).mono ?_; rintro e w1 ⟨rfl, hk⟩; rw [HB.out]; have hkw := ((Kp.refl w).alloc _).trans hk; obtain ⟨c0_0, f0_0⟩ : w1.cell? ⟨w.heap.size, 0, none⟩ = some (.int .i64 0) ∧ w1.frozen? ⟨w.heap.size, 0, none⟩ = false := hk.at2 (by first | with_reducible assumption | simp [go_sem]) (by first | with_reducible assumption | simp [go_sem]); obtain ⟨c0_1, f0_1⟩ : w1.cell? ⟨w.heap.size, 1, none⟩ = some (.int .i64 0) ∧ w1.frozen? ⟨w.heap.size, 1, none⟩ = false := hk.at2 (by first | with_reducible assumption | simp [go_sem]) (by first | with_reducible assumption | simp [go_sem])) | (go_at_call 36; refine (in_any _ _ _ _).mono ?_; rintro e w' ⟨rfl, rfl⟩))
      exact bodyPost_ret (v := .tuple #[.agg #[.int .i64 0, .int .i64 0], .bool false]) (by simp [results, Try.results25, go_sem, c0_0, c0_1]) rfl ⟨rfl, by (repeat (with_reducible first | exact Kp.refl _ | assumption | refine Kp.drew ?_ | refine Kp.drewN ?_ _ | refine Kp.alloc ?_ _ | refine Kp.setCell ?_ (by first | (simp; done) | (simp; omega) | (dsimp only; omega)) _ | refine Kp.trans ?_ (by assumption)))⟩
  · have h1' : beamB xs = false := by simpa using h1
    have eb : plB xs q = false := by simp [plB, h1']
    have et : plT xs q = 0 := by simp [plT, h1']
    have eu : plU xs q = 0 := by simp [plU, h1']
    rw [eb, et, eu]
    have HB := Lib.hid h1'
    clear eb et eu h1 h1'
    go_enter Try.func25, Try.ntmps25
    go_wp2_with (go_at_call 14; refine (iBeamOk_any _ _ _ xs _ hl hn (HR.out.kp ((Kp.refl w).alloc _))).mono ?_; rintro e w1 ⟨rfl, hk⟩; rw [HB.out]; have hkw := ((Kp.refl w).alloc _).trans hk; obtain ⟨c0_0, f0_0⟩ : w1.cell? ⟨w.heap.size, 0, none⟩ = some (.int .i64 0) ∧ w1.frozen? ⟨w.heap.size, 0, none⟩ = false := hk.at2 (by first | with_reducible assumption | simp [go_sem]) (by first | with_reducible assumption | simp [go_sem]); obtain ⟨c0_1, f0_1⟩ : w1.cell? ⟨w.heap.size, 1, none⟩ = some (.int .i64 0) ∧ w1.frozen? ⟨w.heap.size, 1, none⟩ = false := hk.at2 (by first | with_reducible assumption | simp [go_sem]) (by first | with_reducible assumption | simp [go_sem]))
    exact bodyPost_ret (v := .tuple #[.agg #[.int .i64 0, .int .i64 0], .bool false]) (by simp [results, Try.results25, go_sem, c0_0, c0_1]) rfl ⟨rfl, by (repeat (with_reducible first | exact Kp.refl _ | assumption | refine Kp.drew ?_ | refine Kp.drewN ?_ _ | refine Kp.alloc ?_ _ | refine Kp.setCell ?_ (by first | (simp; done) | (simp; omega) | (dsimp only; omega)) _ | refine Kp.trans ?_ (by assumption)))⟩
theorem sPlaceFor_any (A : Option Addr) (n c : Nat) (xs : List (Int × Int)) (q : Int) (w : World) (hl : xs.length = n) (hn : n ≤ 1048576) (hr : RdP w A n xs) :
    Calls Try.prog 24 #[.slice A n c, .int .i64 q] w fun e w' => e = .returned (.tuple #[.agg #[.int .i64 (plT xs q), .int .i64 (plU xs q)], .bool (plB xs q)]) ∧ Kp w w' := by
  have HR := Lib.hid hr
  clear hr
  by_cases h1 : beamB xs = true
  · by_cases h2 : inB q 1 1000 = true
    · have eb : plB xs q = mfB (-torq xs) q := by simp [plB, h1, h2]
      have et : plT xs q = mfT (-torq xs) q := by simp [plT, h1, h2]
      have eu : plU xs q = mfU (-torq xs) q := by simp [plU, h1, h2]
      rw [eb, et, eu]
      have HB := Lib.hid h1
      have HT := Lib.hid (torq_bd xs)
      clear eb et eu h1
      go_enter Try.func24, Try.ntmps24
      go_wp2_with (first | (go_at_call 12; refine (sBeamOk_any _ _ _ xs _ hl hn (HR.out.kp ((Kp.refl w).alloc _))).mono ?_; rintro e w1 ⟨rfl, hk⟩; rw [HB.out]; have hkw := ((Kp.refl w).alloc _).trans hk; obtain ⟨c0_0, f0_0⟩ : w1.cell? ⟨w.heap.size, 0, none⟩ = some (.int .i64 0) ∧ w1.frozen? ⟨w.heap.size, 0, none⟩ = false := hk.at2 (by first | with_reducible assumption | simp [go_sem]) (by first | with_reducible assumption | simp [go_sem]); obtain ⟨c0_1, f0_1⟩ : w1.cell? ⟨w.heap.size, 1, none⟩ = some (.int .i64 0) ∧ w1.frozen? ⟨w.heap.size, 1, none⟩ = false := hk.at2 (by first | with_reducible assumption | simp [go_sem]) (by first | with_reducible assumption | simp [go_sem])) | (go_at_call 34; refine (l01In_any _ _ _ _).mono ?_; rintro e w' ⟨rfl, rfl⟩) | (go_at_call 16; refine (sTorqueOf_any _ _ _ xs _ hl hn (HR.out.kp hkw)).mono ?_; rintro e w2 ⟨rfl, hk2⟩; obtain ⟨c0_0, f0_0⟩ := hk2.at2 c0_0 f0_0; obtain ⟨c0_1, f0_1⟩ := hk2.at2 c0_1 f0_1; have TB := HT.out) | (go_at_call 39; refine (sMake_any _ _ _).mono ?_; rintro e w3 ⟨rfl, hk3⟩; obtain ⟨c0_0, f0_0⟩ := hk3.at2 c0_0 f0_0; obtain ⟨c0_1, f0_1⟩ := hk3.at2 c0_1 f0_1))
      exact bodyPost_ret (v := .tuple #[.agg #[.int .i64 (mfT (-torq xs) q), .int .i64 (mfU (-torq xs) q)], .bool (mfB (-torq xs) q)]) (by simp [results, Try.results24, go_sem, c0_0, c0_1]) rfl ⟨rfl, by (repeat (with_reducible first | exact Kp.refl _ | assumption | refine Kp.drew ?_ | refine Kp.drewN ?_ _ | refine Kp.alloc ?_ _ | refine Kp.setCell ?_ (by first | (simp; done) | (simp; omega) | (dsimp only; omega)) _ | refine Kp.trans ?_ (by assumption)))⟩
    · have eb : plB xs q = false := by simp [plB, h2]
      have et : plT xs q = 0 := by simp [plT, h2]
      have eu : plU xs q = 0 := by simp [plU, h2]
      rw [eb, et, eu]
      have HB := Lib.hid h1
      clear eb et eu h1
      go_enter Try.func24, Try.ntmps24
      go_wp2_with (first | (go_at_call 12; refine (sBeamOk_any _ _ _ xs _ hl hn (HR.out.kp ((Kp.refl w).alloc _))).mono ?_; rintro e w1 ⟨rfl, hk⟩; rw [HB.out]; have hkw := ((Kp.refl w).alloc _).trans hk; obtain ⟨c0_0, f0_0⟩ : w1.cell? ⟨w.heap.size, 0, none⟩ = some (.int .i64 0) ∧ w1.frozen? ⟨w.heap.size, 0, none⟩ = false := hk.at2 (by first | with_reducible assumption | simp [go_sem]) (by first | with_reducible assumption | simp [go_sem]); obtain ⟨c0_1, f0_1⟩ : w1.cell? ⟨w.heap.size, 1, none⟩ = some (.int .i64 0) ∧ w1.frozen? ⟨w.heap.size, 1, none⟩ = false := hk.at2 (by first | with_reducible assumption | simp [go_sem]) (by first | with_reducible assumption | simp [go_sem])) | (go_at_call 34; refine (l01In_any _ _ _ _).mono ?_; rintro e w' ⟨rfl, rfl⟩))
      exact bodyPost_ret (v := .tuple #[.agg #[.int .i64 0, .int .i64 0], .bool false]) (by simp [results, Try.results24, go_sem, c0_0, c0_1]) rfl ⟨rfl, by (repeat (with_reducible first | exact Kp.refl _ | assumption | refine Kp.drew ?_ | refine Kp.drewN ?_ _ | refine Kp.alloc ?_ _ | refine Kp.setCell ?_ (by first | (simp; done) | (simp; omega) | (dsimp only; omega)) _ | refine Kp.trans ?_ (by assumption)))⟩
  · have h1' : beamB xs = false := by simpa using h1
    have eb : plB xs q = false := by simp [plB, h1']
    have et : plT xs q = 0 := by simp [plT, h1']
    have eu : plU xs q = 0 := by simp [plU, h1']
    rw [eb, et, eu]
    have HB := Lib.hid h1'
    clear eb et eu h1 h1'
    go_enter Try.func24, Try.ntmps24
    go_wp2_with (go_at_call 12; refine (sBeamOk_any _ _ _ xs _ hl hn (HR.out.kp ((Kp.refl w).alloc _))).mono ?_; rintro e w1 ⟨rfl, hk⟩; rw [HB.out]; have hkw := ((Kp.refl w).alloc _).trans hk; obtain ⟨c0_0, f0_0⟩ : w1.cell? ⟨w.heap.size, 0, none⟩ = some (.int .i64 0) ∧ w1.frozen? ⟨w.heap.size, 0, none⟩ = false := hk.at2 (by first | with_reducible assumption | simp [go_sem]) (by first | with_reducible assumption | simp [go_sem]); obtain ⟨c0_1, f0_1⟩ : w1.cell? ⟨w.heap.size, 1, none⟩ = some (.int .i64 0) ∧ w1.frozen? ⟨w.heap.size, 1, none⟩ = false := hk.at2 (by first | with_reducible assumption | simp [go_sem]) (by first | with_reducible assumption | simp [go_sem]))
    exact bodyPost_ret (v := .tuple #[.agg #[.int .i64 0, .int .i64 0], .bool false]) (by simp [results, Try.results24, go_sem, c0_0, c0_1]) rfl ⟨rfl, by (repeat (with_reducible first | exact Kp.refl _ | assumption | refine Kp.drew ?_ | refine Kp.drewN ?_ _ | refine Kp.alloc ?_ _ | refine Kp.setCell ?_ (by first | (simp; done) | (simp; omega) | (dsimp only; omega)) _ | refine Kp.trans ?_ (by assumption)))⟩
end Go.Proofs.Ytnfajiokmjkebaa
