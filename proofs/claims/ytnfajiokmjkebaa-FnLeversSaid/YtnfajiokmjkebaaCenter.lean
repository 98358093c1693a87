/- CenterOf: the plain words, and the contracts. -/
import Derived.Test.YtnfajiokmjkebaaPlace
set_option linter.unusedVariables false
namespace Go.Proofs.Ytnfajiokmjkebaa
open Go.RowKit

def loadK (xs : List (Int × Int)) : Nat → Int
  | 0 => 0
  | k + 1 => loadK xs k + pB xs k
theorem loadK_bd {xs : List (Int × Int)} (h : beamB xs = true) (k : Nat) (hk : k ≤ xs.length) : 0 ≤ loadK xs k ∧ loadK xs k ≤ 1000 * (k : Int) := by
  induction k with
  | zero => simp [loadK]
  | succ k ih =>
    have h1 := ih (by omega)
    have h2 := hang_bd h (k := k) (by omega)
    rw [loadK]
    omega
theorem sLoad_any (A : Option Addr) (n c : Nat) (xs : List (Int × Int)) (w : World) (hl : xs.length = n) (hb : beamB xs = true) (hr : RdP w A n xs) :
    Calls Try.prog 41 #[.slice A n c] w fun e w' => e = .returned (.int .i64 (loadK xs n)) ∧ Kp w w' := by
  have HR := Lib.hid hr
  have HL := Lib.hid hl
  have HB := Lib.hid hb
  have h12 : n ≤ 12 := by have := (beamB_iff.1 hb).2; omega
  clear hr hl hb
  go_enter Try.func41, Try.ntmps41
  go_wp2
  go_loopw [3, 4] (fun t i wr => ∃ k : Nat, k ≤ n ∧ i = .int .i64 k ∧ t = .int .i64 (loadK xs k) ∧ Kp w wr) (fun _ i _ => n + 1 - (intOf i).toNat)
  case atStart => exact ⟨0, by omega, rfl, rfl, Kp.refl _⟩
  case round =>
    obtain ⟨k, hk, rfl, rfl, hkp⟩ := hrel
    have HLL := HL.out
    have TB := loadK_bd HB.out k (by omega)
    by_cases hlt : k < n
    · obtain ⟨b, off, rfl, hb, hc⟩ := (HR.out.kp hkp).cellOf HL.out (by omega)
      obtain ⟨cx, cy⟩ := hc k hlt
      have MB := (hang_bd HB.out (k := k) (by omega)).2
      have TS : loadK xs (k + 1) = loadK xs k + pB xs k := rfl
      obtain ⟨Y, hY⟩ : ∃ Y, Y = pB xs k := ⟨_, rfl⟩
      obtain ⟨T, hT⟩ : ∃ T, T = loadK xs k := ⟨_, rfl⟩
      rw [← hY] at cy MB TS
      rw [← hT] at TB TS ⊢
      have HTS := Lib.hid TS
      have i0 : (0 : Int) ≤ (k : Int) := by omega
      have i1 : (k : Int) < (n : Int) := by omega
      clear hY hc hT TS HLL
      go_wp2_with fail
      go_roundw
      case rel => exact ⟨k + 1, by omega, by go_num, by rw [HTS.out], by (repeat (with_reducible first | exact Kp.refl _ | assumption | refine Kp.drew ?_ | refine Kp.drewN ?_ _ | refine Kp.alloc ?_ _ | refine Kp.setCell ?_ (by first | (simp; done) | (simp; omega) | (dsimp only; omega)) _ | refine Kp.trans ?_ (by assumption)))⟩
      case measure => simp [intOf]; omega
    · obtain rfl : k = n := by omega
      go_wp2
      go_ret
      exact ⟨rfl, hkp⟩
def ctB (xs : List (Int × Int)) : Bool := beamB xs && mfB (torq xs) (loadK xs xs.length)
def ctT (xs : List (Int × Int)) : Int := if beamB xs = true then mfT (torq xs) (loadK xs xs.length) else 0
def ctU (xs : List (Int × Int)) : Int := if beamB xs = true then mfU (torq xs) (loadK xs xs.length) else 0
theorem mf_zero (a : Int) : mfB a 0 = false ∧ mfT a 0 = 0 ∧ mfU a 0 = 0 := by
  have h : mfB a 0 = false := by simp [mfB]
  exact ⟨h, mfT_of h, mfU_of h⟩
set_option maxHeartbeats 1600000 in
theorem iCenterOf_any (A : Option Addr) (n c : Nat) (xs : List (Int × Int)) (w : World) (hl : xs.length = n) (hn : n ≤ 1048576) (hr : RdP w A n xs) :
    Calls Try.prog 28 #[.slice A n c] w fun e w' => e = .returned (.tuple #[.agg #[.int .i64 (ctT xs), .int .i64 (ctU xs)], .bool (ctB xs)]) ∧ Kp w w' := by
  have HR := Lib.hid hr
  have HL := Lib.hid hl
  clear hr
  by_cases h1 : beamB xs = true
  · have h12 : n ≤ 12 := by have := (beamB_iff.1 h1).2; omega
    have eb : ctB xs = mfB (torq xs) (loadK xs n) := by rw [ctB, h1, hl]; rfl
    have et : ctT xs = mfT (torq xs) (loadK xs n) := by rw [ctT, if_pos h1, hl]
    have eu : ctU xs = mfU (torq xs) (loadK xs n) := by rw [ctU, if_pos h1, hl]
    rw [eb, et, eu]
    have HB := Lib.hid h1
    clear eb et eu h1 hl
    go_enter Try.func28, Try.ntmps28
    go_wp2_with (go_at_call 14; refine (iBeamOk_any _ _ _ xs _ HL.out hn (HR.out.kp ((Kp.refl w).alloc _))).mono ?_; rintro e w1 ⟨rfl, hk⟩; rw [HB.out]; have hkw := ((Kp.refl w).alloc _).trans hk; obtain ⟨c0_0, f0_0⟩ : w1.cell? ⟨w.heap.size, 0, none⟩ = some (.int .i64 0) ∧ w1.frozen? ⟨w.heap.size, 0, none⟩ = false := hk.at2 (by first | with_reducible assumption | simp [go_sem]) (by first | with_reducible assumption | simp [go_sem]); obtain ⟨c0_1, f0_1⟩ : w1.cell? ⟨w.heap.size, 1, none⟩ = some (.int .i64 0) ∧ w1.frozen? ⟨w.heap.size, 1, none⟩ = false := hk.at2 (by first | with_reducible assumption | simp [go_sem]) (by first | with_reducible assumption | simp [go_sem]); clear hk)
    go_loopw [4, 13] (fun t i wr => ∃ k : Nat, k ≤ n ∧ i = .int .i64 k ∧ t = .int .i64 (loadK xs k) ∧ Kp w1 wr) (fun _ i _ => n - (intOf i).toNat)
    case atStart => exact ⟨0, by omega, rfl, rfl, Kp.refl _⟩
    case round =>
      obtain ⟨k, hk, rfl, rfl, hkp⟩ := hrel
      have HLL := HL.out
      have TB := loadK_bd HB.out k (by omega)
      by_cases hlt : k < n
      · obtain ⟨b, off, rfl, hb, hc⟩ := (HR.out.kp (hkw.trans hkp)).cellOf HL.out (by omega)
        obtain ⟨cx, cy⟩ := hc k hlt
        have MB := (hang_bd HB.out (k := k) (by omega)).2
        have TS : loadK xs (k + 1) = loadK xs k + pB xs k := rfl
        obtain ⟨X, hX⟩ : ∃ X, X = pA xs k := ⟨_, rfl⟩
        obtain ⟨Y, hY⟩ : ∃ Y, Y = pB xs k := ⟨_, rfl⟩
        obtain ⟨T, hT⟩ : ∃ T, T = loadK xs k := ⟨_, rfl⟩
        rw [← hX] at cx
        rw [← hY] at cy MB TS
        rw [← hT] at TB TS ⊢
        have HTS := Lib.hid TS
        have i0 : (0 : Int) ≤ (k : Int) := by omega
        have i1 : (k : Int) < (n : Int) := by omega
        clear hX hY hc hT TS HLL
        go_wp2_with fail
        go_roundw
        case rel => exact ⟨k + 1, by omega, by go_num, by rw [HTS.out], by (repeat (with_reducible first | exact Kp.refl _ | assumption | refine Kp.drew ?_ | refine Kp.drewN ?_ _ | refine Kp.alloc ?_ _ | refine Kp.setCell ?_ (by first | (simp; done) | (simp; omega) | (dsimp only; omega)) _ | refine Kp.trans ?_ (by assumption)))⟩
        case measure => simp [intOf]; omega
      · obtain rfl : k = n := by omega
        obtain ⟨c0_0, f0_0⟩ := hkp.at2 c0_0 f0_0
        obtain ⟨c0_1, f0_1⟩ := hkp.at2 c0_1 f0_1
        obtain ⟨T, hT⟩ : ∃ T, T = loadK xs k := ⟨_, rfl⟩
        rw [← hT]
        have HTT := Lib.hid hT
        clear hT TB
        have hk2' := hkw.trans hkp
        go_wp2_with (first | (go_at_call 17; refine (iTorqueOf_any _ _ _ xs _ HL.out hn (HR.out.kp hk2')).mono ?_; rintro e w2 ⟨rfl, hk2⟩; obtain ⟨c0_0, f0_0⟩ := hk2.at2 c0_0 f0_0; obtain ⟨c0_1, f0_1⟩ := hk2.at2 c0_1 f0_1) | (go_at_call 40; refine (iMake_any _ _ _).mono ?_; rintro e w3 ⟨rfl, hk3⟩; obtain ⟨c0_0, f0_0⟩ := hk3.at2 c0_0 f0_0; obtain ⟨c0_1, f0_1⟩ := hk3.at2 c0_1 f0_1))
        exact bodyPost_ret (v := .tuple #[.agg #[.int .i64 (mfT (torq xs) T), .int .i64 (mfU (torq xs) T)], .bool (mfB (torq xs) T)]) (by simp [results, Try.results28, go_sem, c0_0, c0_1]) rfl ⟨by rw [HTT.out], by (repeat (with_reducible first | exact Kp.refl _ | assumption | refine Kp.drew ?_ | refine Kp.drewN ?_ _ | refine Kp.alloc ?_ _ | refine Kp.setCell ?_ (by first | (simp; done) | (simp; omega) | (dsimp only; omega)) _ | refine Kp.trans ?_ (by assumption)))⟩
  · have h1' : beamB xs = false := by simpa using h1
    have eb : ctB xs = false := by rw [ctB, h1']; rfl
    have et : ctT xs = 0 := by rw [ctT, if_neg h1]
    have eu : ctU xs = 0 := by rw [ctU, if_neg h1]
    rw [eb, et, eu]
    have HB := Lib.hid h1'
    clear eb et eu h1 h1' hl
    go_enter Try.func28, Try.ntmps28
    go_wp2_with (go_at_call 14; refine (iBeamOk_any _ _ _ xs _ HL.out hn (HR.out.kp ((Kp.refl w).alloc _))).mono ?_; rintro e w1 ⟨rfl, hk⟩; rw [HB.out]; have hkw := ((Kp.refl w).alloc _).trans hk; obtain ⟨c0_0, f0_0⟩ : w1.cell? ⟨w.heap.size, 0, none⟩ = some (.int .i64 0) ∧ w1.frozen? ⟨w.heap.size, 0, none⟩ = false := hk.at2 (by first | with_reducible assumption | simp [go_sem]) (by first | with_reducible assumption | simp [go_sem]); obtain ⟨c0_1, f0_1⟩ : w1.cell? ⟨w.heap.size, 1, none⟩ = some (.int .i64 0) ∧ w1.frozen? ⟨w.heap.size, 1, none⟩ = false := hk.at2 (by first | with_reducible assumption | simp [go_sem]) (by first | with_reducible assumption | simp [go_sem]))
    exact bodyPost_ret (v := .tuple #[.agg #[.int .i64 0, .int .i64 0], .bool false]) (by simp [results, Try.results28, go_sem, c0_0, c0_1]) rfl ⟨rfl, by (repeat (with_reducible first | exact Kp.refl _ | assumption | refine Kp.drew ?_ | refine Kp.drewN ?_ _ | refine Kp.alloc ?_ _ | refine Kp.setCell ?_ (by first | (simp; done) | (simp; omega) | (dsimp only; omega)) _ | refine Kp.trans ?_ (by assumption)))⟩
theorem sCenterOf_any (A : Option Addr) (n c : Nat) (xs : List (Int × Int)) (w : World) (hl : xs.length = n) (hn : n ≤ 1048576) (hr : RdP w A n xs) :
    Calls Try.prog 27 #[.slice A n c] w fun e w' => e = .returned (.tuple #[.agg #[.int .i64 (ctT xs), .int .i64 (ctU xs)], .bool (ctB xs)]) ∧ Kp w w' := by
  have HR := Lib.hid hr
  have HL := Lib.hid hl
  clear hr
  by_cases h1 : beamB xs = true
  · have eb : ctB xs = mfB (torq xs) (loadK xs n) := by rw [ctB, h1, hl]; rfl
    have et : ctT xs = mfT (torq xs) (loadK xs n) := by rw [ctT, if_pos h1, hl]
    have eu : ctU xs = mfU (torq xs) (loadK xs n) := by rw [ctU, if_pos h1, hl]
    rw [eb, et, eu]
    have HB := Lib.hid h1
    have HLD := fun (W : World) hr => sLoad_any A n c xs W HL.out h1 hr
    obtain ⟨T, hT⟩ : ∃ T, T = loadK xs n := ⟨_, rfl⟩
    rw [← hT] at HLD ⊢
    have HLD := Lib.hid HLD
    clear eb et eu h1 hl hT
    by_cases h0 : T = 0
    · subst h0
      obtain ⟨z1, z2, z3⟩ := mf_zero (torq xs)
      rw [z1, z2, z3]
      clear z1 z2 z3
      go_enter Try.func27, Try.ntmps27
      go_wp2_with (first | (go_at_call 12; refine (sBeamOk_any _ _ _ xs _ HL.out hn (HR.out.kp ((Kp.refl w).alloc _))).mono ?_; rintro e w1 ⟨rfl, hk⟩; rw [HB.out]; have hkw := ((Kp.refl w).alloc _).trans hk; obtain ⟨c0_0, f0_0⟩ : w1.cell? ⟨w.heap.size, 0, none⟩ = some (.int .i64 0) ∧ w1.frozen? ⟨w.heap.size, 0, none⟩ = false := hk.at2 (by first | with_reducible assumption | simp [go_sem]) (by first | with_reducible assumption | simp [go_sem]); obtain ⟨c0_1, f0_1⟩ : w1.cell? ⟨w.heap.size, 1, none⟩ = some (.int .i64 0) ∧ w1.frozen? ⟨w.heap.size, 1, none⟩ = false := hk.at2 (by first | with_reducible assumption | simp [go_sem]) (by first | with_reducible assumption | simp [go_sem])) | (go_at_call 41; refine (HLD.out _ (HR.out.kp hkw)).mono ?_; rintro e w2 ⟨rfl, hk2⟩; obtain ⟨c0_0, f0_0⟩ := hk2.at2 c0_0 f0_0; obtain ⟨c0_1, f0_1⟩ := hk2.at2 c0_1 f0_1))
      exact bodyPost_ret (v := .tuple #[.agg #[.int .i64 0, .int .i64 0], .bool false]) (by simp [results, Try.results27, go_sem, c0_0, c0_1]) rfl ⟨rfl, by (repeat (with_reducible first | exact Kp.refl _ | assumption | refine Kp.drew ?_ | refine Kp.drewN ?_ _ | refine Kp.alloc ?_ _ | refine Kp.setCell ?_ (by first | (simp; done) | (simp; omega) | (dsimp only; omega)) _ | refine Kp.trans ?_ (by assumption)))⟩
    · have t0 : (T == 0) = false := by simpa using h0
      clear h0
      go_enter Try.func27, Try.ntmps27
      go_upto_region 3 with (first | (go_at_call 12; refine (sBeamOk_any _ _ _ xs _ HL.out hn (HR.out.kp ((Kp.refl w).alloc _))).mono ?_; rintro e w1 ⟨rfl, hk⟩; rw [HB.out]; have hkw := ((Kp.refl w).alloc _).trans hk; obtain ⟨c0_0, f0_0⟩ : w1.cell? ⟨w.heap.size, 0, none⟩ = some (.int .i64 0) ∧ w1.frozen? ⟨w.heap.size, 0, none⟩ = false := hk.at2 (by first | with_reducible assumption | simp [go_sem]) (by first | with_reducible assumption | simp [go_sem]); obtain ⟨c0_1, f0_1⟩ : w1.cell? ⟨w.heap.size, 1, none⟩ = some (.int .i64 0) ∧ w1.frozen? ⟨w.heap.size, 1, none⟩ = false := hk.at2 (by first | with_reducible assumption | simp [go_sem]) (by first | with_reducible assumption | simp [go_sem])) | (go_at_call 41; refine (HLD.out _ (HR.out.kp hkw)).mono ?_; rintro e w2 ⟨rfl, hk2⟩; have hkw2 := hkw.trans hk2; obtain ⟨c0_0, f0_0⟩ := hk2.at2 c0_0 f0_0; obtain ⟨c0_1, f0_1⟩ := hk2.at2 c0_1 f0_1))
      go_wp2_with (first | (go_at_call 16; refine (sTorqueOf_any _ _ _ xs _ HL.out hn (HR.out.kp hkw2)).mono ?_; rintro e w3 ⟨rfl, hk3⟩; have hkw3 := hkw2.trans hk3; obtain ⟨c0_0, f0_0⟩ := hk3.at2 c0_0 f0_0; obtain ⟨c0_1, f0_1⟩ := hk3.at2 c0_1 f0_1) | (go_at_call 41; refine (HLD.out _ (HR.out.kp hkw3)).mono ?_; rintro e w4 ⟨rfl, hk4⟩; have hkw4 := hkw3.trans hk4; obtain ⟨c0_0, f0_0⟩ := hk4.at2 c0_0 f0_0; obtain ⟨c0_1, f0_1⟩ := hk4.at2 c0_1 f0_1) | (go_at_call 39; refine (sMake_any _ _ _).mono ?_; rintro e w5 ⟨rfl, hk5⟩; have hkw5 := hkw4.trans hk5; obtain ⟨c0_0, f0_0⟩ := hk5.at2 c0_0 f0_0; obtain ⟨c0_1, f0_1⟩ := hk5.at2 c0_1 f0_1))
      exact bodyPost_ret (v := .tuple #[.agg #[.int .i64 (mfT (torq xs) T), .int .i64 (mfU (torq xs) T)], .bool (mfB (torq xs) T)]) (by simp [results, Try.results27, go_sem, c0_0, c0_1]) rfl ⟨rfl, by (repeat (with_reducible first | exact Kp.refl _ | assumption | refine Kp.drew ?_ | refine Kp.drewN ?_ _ | refine Kp.alloc ?_ _ | refine Kp.setCell ?_ (by first | (simp; done) | (simp; omega) | (dsimp only; omega)) _ | refine Kp.trans ?_ (by assumption)))⟩
  · have h1' : beamB xs = false := by simpa using h1
    have eb : ctB xs = false := by rw [ctB, h1']; rfl
    have et : ctT xs = 0 := by rw [ctT, if_neg h1]
    have eu : ctU xs = 0 := by rw [ctU, if_neg h1]
    rw [eb, et, eu]
    have HB := Lib.hid h1'
    clear eb et eu h1 h1' hl
    go_enter Try.func27, Try.ntmps27
    go_wp2_with (go_at_call 12; refine (sBeamOk_any _ _ _ xs _ HL.out hn (HR.out.kp ((Kp.refl w).alloc _))).mono ?_; rintro e w1 ⟨rfl, hk⟩; rw [HB.out]; have hkw := ((Kp.refl w).alloc _).trans hk; obtain ⟨c0_0, f0_0⟩ : w1.cell? ⟨w.heap.size, 0, none⟩ = some (.int .i64 0) ∧ w1.frozen? ⟨w.heap.size, 0, none⟩ = false := hk.at2 (by first | with_reducible assumption | simp [go_sem]) (by first | with_reducible assumption | simp [go_sem]); obtain ⟨c0_1, f0_1⟩ : w1.cell? ⟨w.heap.size, 1, none⟩ = some (.int .i64 0) ∧ w1.frozen? ⟨w.heap.size, 1, none⟩ = false := hk.at2 (by first | with_reducible assumption | simp [go_sem]) (by first | with_reducible assumption | simp [go_sem]))
    exact bodyPost_ret (v := .tuple #[.agg #[.int .i64 0, .int .i64 0], .bool false]) (by simp [results, Try.results27, go_sem, c0_0, c0_1]) rfl ⟨rfl, by (repeat (with_reducible first | exact Kp.refl _ | assumption | refine Kp.drew ?_ | refine Kp.drewN ?_ _ | refine Kp.alloc ?_ _ | refine Kp.setCell ?_ (by first | (simp; done) | (simp; omega) | (dsimp only; omega)) _ | refine Kp.trans ?_ (by assumption)))⟩
end Go.Proofs.Ytnfajiokmjkebaa
