/- TorqueOf, IsLevel: the plain words, and the contracts. -/
import Derived.Test.YtnfajiokmjkebaaBeam
set_option linter.unusedVariables false
namespace Go.Proofs.Ytnfajiokmjkebaa
open Go.RowKit

def torqK (xs : List (Int × Int)) : Nat → Int
  | 0 => 0
  | k + 1 => torqK xs k + pA xs k * pB xs k
def torq (xs : List (Int × Int)) : Int := if beamB xs = true then torqK xs xs.length else 0
theorem hang_bd {xs : List (Int × Int)} (h : beamB xs = true) {k : Nat} (hk : k < xs.length) : (-100 ≤ pA xs k ∧ pA xs k ≤ 100) ∧ (0 ≤ pB xs k ∧ pB xs k ≤ 1000) := by
  have := (beamB_iff.1 h).1 k hk
  rw [hangB, Bool.and_eq_true] at this
  exact ⟨inB_true.1 this.1, inB_true.1 this.2⟩
theorem torq_mul {xs : List (Int × Int)} (h : beamB xs = true) {k : Nat} (hk : k < xs.length) : -100000 ≤ pA xs k * pB xs k ∧ pA xs k * pB xs k ≤ 100000 := by
  have h1 := hang_bd h hk
  exact mul_bd (A := 100) (B := 1000) h1.1 ⟨by omega, h1.2.2⟩
theorem torqK_bd {xs : List (Int × Int)} (h : beamB xs = true) (k : Nat) (hk : k ≤ xs.length) : -100000 * (k : Int) ≤ torqK xs k ∧ torqK xs k ≤ 100000 * (k : Int) := by
  induction k with
  | zero => simp [torqK]
  | succ k ih =>
    have h1 := ih (by omega)
    have h2 := torq_mul h (k := k) (by omega)
    rw [torqK]
    omega
theorem torq_bd (xs : List (Int × Int)) : -1200000 ≤ torq xs ∧ torq xs ≤ 1200000 := by
  unfold torq
  split
  · rename_i h
    have h1 := torqK_bd h xs.length (Nat.le_refl _)
    have h2 := (beamB_iff.1 h).2
    omega
  · omega
set_option maxHeartbeats 1600000 in
theorem iTorqueOf_any (A : Option Addr) (n c : Nat) (xs : List (Int × Int)) (w : World) (hl : xs.length = n) (hn : n ≤ 1048576) (hr : RdP w A n xs) :
    Calls Try.prog 17 #[.slice A n c] w fun e w' => e = .returned (.int .i64 (torq xs)) ∧ Kp w w' := by
  have HR := Lib.hid hr
  have HL := Lib.hid hl
  clear hr
  by_cases hb : beamB xs = true
  · have h12 : n ≤ 12 := by have := (beamB_iff.1 hb).2; omega
    have HB := Lib.hid hb
    have HT := Lib.hid (show torq xs = torqK xs n by rw [torq, if_pos hb, hl])
    clear hl
    go_enter Try.func17, Try.ntmps17
    go_wp2_with (go_at_call 14; refine (iBeamOk_any _ _ _ xs _ HL.out hn HR.out).mono ?_; rintro e w1 ⟨rfl, hk1⟩)
    clear hb
    go_loopw [3, 11] (fun t i wr => ∃ k : Nat, k ≤ n ∧ i = .int .i64 k ∧ t = .int .i64 (torqK xs k) ∧ Kp w wr) (fun _ i _ => n - (intOf i).toNat)
    case atStart => exact ⟨0, by omega, rfl, rfl, hk1⟩
    case round =>
      obtain ⟨k, hk, rfl, rfl, hkp⟩ := hrel
      have HLL := HL.out
      have TB := torqK_bd HB.out k (by omega)
      by_cases hlt : k < n
      · obtain ⟨b, off, rfl, hb, hc⟩ := (HR.out.kp hkp).cellOf HL.out (by omega)
        obtain ⟨cx, cy⟩ := hc k hlt
        have MB := torq_mul HB.out (k := k) (by omega)
        have TS : torqK xs (k + 1) = torqK xs k + pA xs k * pB xs k := rfl
        obtain ⟨X, hX⟩ : ∃ X, X = pA xs k := ⟨_, rfl⟩
        obtain ⟨Y, hY⟩ : ∃ Y, Y = pB xs k := ⟨_, rfl⟩
        obtain ⟨T, hT⟩ : ∃ T, T = torqK xs k := ⟨_, rfl⟩
        rw [← hX] at cx MB TS
        rw [← hY] at cy MB TS
        rw [← hT] at TB TS ⊢
        obtain ⟨Z, hZ⟩ : ∃ Z, Z = X * Y := ⟨_, rfl⟩
        have qz : IntKind.i64.wrap (X * Y) = Z := by rw [hZ]; exact IntWalk.i64_in _ (by omega)
        rw [← hZ] at MB TS
        have HTS := Lib.hid TS
        have i0 : (0 : Int) ≤ (k : Int) := by omega
        have i1 : (k : Int) < (n : Int) := by omega
        clear hX hY hc hT hZ TS HLL
        go_wp2_with fail
        go_roundw
        case rel => exact ⟨k + 1, by omega, by go_num, by rw [HTS.out], by (repeat (with_reducible first | exact Kp.refl _ | assumption | refine Kp.drew ?_ | refine Kp.drewN ?_ _ | refine Kp.alloc ?_ _ | refine Kp.setCell ?_ (by first | (simp; done) | (simp; omega) | (dsimp only; omega)) _ | refine Kp.trans ?_ (by assumption)))⟩
        case measure => simp [intOf]; omega
      · obtain rfl : k = n := by omega
        go_wp2
        go_ret
        exact ⟨ret_int HT.out.symm, hkp⟩
  · have HT := Lib.hid (show torq xs = 0 by rw [torq, if_neg hb])
    clear hl
    go_enter Try.func17, Try.ntmps17
    go_wp2_with (go_at_call 14; refine (iBeamOk_any _ _ _ xs _ HL.out hn HR.out).mono ?_; rintro e w1 ⟨rfl, hk1⟩)
    go_ret
    exact ⟨ret_int HT.out.symm, hk1⟩
set_option maxHeartbeats 1600000 in
theorem sTorqueOf_any (A : Option Addr) (n c : Nat) (xs : List (Int × Int)) (w : World) (hl : xs.length = n) (hn : n ≤ 1048576) (hr : RdP w A n xs) :
    Calls Try.prog 16 #[.slice A n c] w fun e w' => e = .returned (.int .i64 (torq xs)) ∧ Kp w w' := by
  have HR := Lib.hid hr
  have HL := Lib.hid hl
  clear hr
  by_cases hb : beamB xs = true
  · have h12 : n ≤ 12 := by have := (beamB_iff.1 hb).2; omega
    have HB := Lib.hid hb
    have HT := Lib.hid (show torq xs = torqK xs n by rw [torq, if_pos hb, hl])
    clear hl hb
    go_enter Try.func16, Try.ntmps16
    go_wp2
    go_loopw [3, 4] (fun t i wr => ∃ k : Nat, k ≤ n ∧ i = .int .i64 k ∧ t = .int .i64 (torqK xs k) ∧ Kp w wr) (fun _ i _ => n + 1 - (intOf i).toNat)
    case atStart => exact ⟨0, by omega, rfl, rfl, Kp.refl _⟩
    case round =>
      obtain ⟨k, hk, rfl, rfl, hkp⟩ := hrel
      have HLL := HL.out
      have TB := torqK_bd HB.out k (by omega)
      by_cases hlt : k < n
      · obtain ⟨b, off, rfl, hb, hc⟩ := (HR.out.kp hkp).cellOf HL.out (by omega)
        obtain ⟨cx, cy⟩ := hc k hlt
        have MB := torq_mul HB.out (k := k) (by omega)
        have TS : torqK xs (k + 1) = torqK xs k + pA xs k * pB xs k := rfl
        obtain ⟨X, hX⟩ : ∃ X, X = pA xs k := ⟨_, rfl⟩
        obtain ⟨Y, hY⟩ : ∃ Y, Y = pB xs k := ⟨_, rfl⟩
        obtain ⟨T, hT⟩ : ∃ T, T = torqK xs k := ⟨_, rfl⟩
        rw [← hX] at cx MB TS
        rw [← hY] at cy MB TS
        rw [← hT] at TB TS ⊢
        obtain ⟨Z, hZ⟩ : ∃ Z, Z = X * Y := ⟨_, rfl⟩
        have qz : IntKind.i64.wrap (X * Y) = Z := by rw [hZ]; exact IntWalk.i64_in _ (by omega)
        rw [← hZ] at MB TS
        have HTS := Lib.hid TS
        have HQZ := Lib.hid qz
        have i0 : (0 : Int) ≤ (k : Int) := by omega
        have i1 : (k : Int) < (n : Int) := by omega
        clear hX hY hc hT hZ TS HLL qz
        go_upto_region 5 with (go_at_call 12; refine (sBeamOk_any _ _ _ xs _ HL.out hn (HR.out.kp hkp)).mono ?_; rintro e w1 ⟨rfl, hk1⟩; rw [HB.out]; have cx := hk1.at1 cx; have cy := hk1.at1 cy)
        have qs : IntKind.i64.wrap (T + Z) = T + Z := IntWalk.i64_in _ (by omega)
        have qz := HQZ.out
        go_quiet (fail)
        clear qs qz
        go_wp2_with fail
        go_roundw
        case rel => exact ⟨k + 1, by omega, by go_num, by rw [HTS.out], by (repeat (with_reducible first | exact Kp.refl _ | assumption | refine Kp.drew ?_ | refine Kp.drewN ?_ _ | refine Kp.alloc ?_ _ | refine Kp.setCell ?_ (by first | (simp; done) | (simp; omega) | (dsimp only; omega)) _ | refine Kp.trans ?_ (by assumption)))⟩
        case measure => simp [intOf]; omega
      · obtain rfl : k = n := by omega
        go_wp2
        go_ret
        exact ⟨ret_int HT.out.symm, hkp⟩
  · have HT := Lib.hid (show torq xs = 0 by rw [torq, if_neg hb])
    have HB := Lib.hid (show beamB xs = false by simpa using hb)
    clear hl hb
    go_enter Try.func16, Try.ntmps16
    go_wp2
    refine wp_loop_rounds 1 ?_
    rw [rounds_succ]
    by_cases h0 : 0 < n
    · have i0 : (0 : Int) < (n : Int) := by omega
      go_wp2_with (go_at_call 12; refine (sBeamOk_any _ _ _ xs _ HL.out hn HR.out).mono ?_; rintro e w1 ⟨rfl, hk1⟩; rw [HB.out])
      go_ret
      exact ⟨ret_int HT.out.symm, hk1⟩
    · obtain rfl : n = 0 := by omega
      go_wp2_with fail
      go_ret
      exact ⟨ret_int HT.out.symm, Kp.refl _⟩
theorem iIsLevel_any (A : Option Addr) (n c : Nat) (xs : List (Int × Int)) (w : World) (hl : xs.length = n) (hn : n ≤ 1048576) (hr : RdP w A n xs) :
    Calls Try.prog 19 #[.slice A n c] w fun e w' => e = .returned (.bool (beamB xs && (torq xs == 0))) ∧ Kp w w' := by
  have HR := Lib.hid hr
  clear hr
  by_cases hb : beamB xs = true
  · have HB := Lib.hid hb
    clear hb
    go_enter Try.func19, Try.ntmps19
    go_wp2_with (first | (go_at_call 14; refine (iBeamOk_any _ _ _ xs _ hl hn HR.out).mono ?_; rintro e w1 ⟨rfl, hk1⟩; rw [HB.out]) | (go_at_call 17; refine (iTorqueOf_any _ _ _ xs _ hl hn (HR.out.kp hk1)).mono ?_; rintro e w2 ⟨rfl, hk2⟩))
    go_ret
    exact ⟨ret_bool (by rw [HB.out, Bool.true_and]), hk1.trans hk2⟩
  · have HB := Lib.hid (show beamB xs = false by simpa using hb)
    clear hb
    go_enter Try.func19, Try.ntmps19
    go_wp2_with (go_at_call 14; refine (iBeamOk_any _ _ _ xs _ hl hn HR.out).mono ?_; rintro e w1 ⟨rfl, hk1⟩; rw [HB.out])
    go_ret
    exact ⟨ret_bool (by rw [HB.out, Bool.false_and]), hk1⟩
theorem sIsLevel_any (A : Option Addr) (n c : Nat) (xs : List (Int × Int)) (w : World) (hl : xs.length = n) (hn : n ≤ 1048576) (hr : RdP w A n xs) :
    Calls Try.prog 18 #[.slice A n c] w fun e w' => e = .returned (.bool (beamB xs && (torq xs == 0))) ∧ Kp w w' := by
  have HR := Lib.hid hr
  clear hr
  by_cases hb : beamB xs = true
  · have HB := Lib.hid hb
    clear hb
    go_enter Try.func18, Try.ntmps18
    go_wp2_with (first | (go_at_call 12; refine (sBeamOk_any _ _ _ xs _ hl hn HR.out).mono ?_; rintro e w1 ⟨rfl, hk1⟩; rw [HB.out]) | (go_at_call 16; refine (sTorqueOf_any _ _ _ xs _ hl hn (HR.out.kp hk1)).mono ?_; rintro e w2 ⟨rfl, hk2⟩))
    go_ret
    exact ⟨ret_bool (by rw [HB.out, Bool.true_and]), hk1.trans hk2⟩
  · have HB := Lib.hid (show beamB xs = false by simpa using hb)
    clear hb
    go_enter Try.func18, Try.ntmps18
    go_wp2_with (go_at_call 12; refine (sBeamOk_any _ _ _ xs _ hl hn HR.out).mono ?_; rintro e w1 ⟨rfl, hk1⟩; rw [HB.out])
    go_ret
    exact ⟨ret_bool (by rw [HB.out, Bool.false_and]), hk1⟩
end Go.Proofs.Ytnfajiokmjkebaa
