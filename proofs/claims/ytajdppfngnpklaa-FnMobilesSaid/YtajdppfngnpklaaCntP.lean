/- CountParts: the contracts. -/
import Derived.Test.YtajdppfngnpklaaTilt
set_option linter.unusedVariables false
namespace Go.Proofs.Ytajdppfngnpklaa
open Go.RowKit
set_option maxRecDepth 20000 in
set_option maxHeartbeats 3200000 in
theorem iCountParts_any (A : Option Addr) (n c : Nat) (xs : List Pt) (w : World) (hl : xs.length = n) (hn : n ≤ 1048576) (hr : RdP w A n xs) :
    Calls Try.prog 16 #[.slice A n c] w fun e w' => e = .returned (.tuple #[.int .i64 (cpA xs), .int .i64 (cpB xs)]) ∧ Kp w w' := by
  have HR := Lib.hid hr
  have HL := Lib.hid hl
  clear hr hl
  go_enter Try.func16, Try.ntmps16
  go_wp2_with fail
  refine (iMobileOk_any _ _ _ xs _ HL.out hn HR.out).mono ?_
  obtain ⟨m, hm⟩ : ∃ m, m = mobB xs := ⟨_, rfl⟩
  rw [← hm]
  have HM := Lib.hid hm
  clear hm
  rintro e w1 ⟨rfl, hk1⟩
  cases m with
  | false =>
    have HA := Lib.hid (show cpA xs = 0 by rw [cpA, ← HM.out]; rfl)
    have HB := Lib.hid (show cpB xs = 0 by rw [cpB, ← HM.out]; rfl)
    go_wp2_with fail
    exact bodyPost_ret (v := .tuple #[.int .i64 0, .int .i64 0]) (by simp [results, Try.results16, go_sem]) rfl ⟨by rw [HA.out, HB.out], hk1⟩
  | true =>
    have HA := Lib.hid (show cpA xs = lfK xs n by rw [cpA, ← HM.out, HL.out]; rfl)
    have HB := Lib.hid (show cpB xs = (n : Int) - lfK xs n by rw [cpB, ← HM.out, HL.out]; rfl)
    go_wp2_with fail
    go_loopw [4, 12] (fun q i wr => ∃ k : Nat, k ≤ n ∧ i = .int .i64 k ∧ q = .int .i64 (lfK xs k) ∧ Kp w wr) (fun _ i _ => n - (intOf i).toNat)
    case atStart => exact ⟨0, by omega, rfl, rfl, hk1⟩
    case round =>
      obtain ⟨k, hk, rfl, rfl, hkp⟩ := hrel
      have hb := lfK_bd xs k
      by_cases hlt : k < n
      · obtain ⟨b, off, rfl, hbz, hc⟩ := (HR.out.kp hkp).cellOf HL.out (by omega)
        have hC := hc k hlt
        have hstep : lfK xs (k + 1) = if (pt xs k).l = -1 then lfK xs k + 1 else lfK xs k := rfl
        obtain ⟨⟨X0, X1, X2, X3, X4⟩, hX⟩ : ∃ X, X = pt xs k := ⟨_, rfl⟩
        rw [← hX] at hC hstep
        obtain ⟨c0, c1, c2, c3, c4⟩ := hC
        dsimp only at c0 c1 c2 c3 c4 hstep
        obtain ⟨Z, hZ⟩ : ∃ Z, Z = lfK xs k := ⟨_, rfl⟩
        rw [← hZ] at hb hstep ⊢
        have HS := Lib.hid hstep
        have p0 : (0 : Int) ≤ (k : Int) := by omega
        have p1 : (k : Int) < (n : Int) := by omega
        clear hX hc hstep hZ
        by_cases hleaf : X0 = -1
        · subst hleaf
          go_wp2_with fail
          go_roundw
          case rel => exact ⟨k + 1, by omega, by go_num, by rw [HS.out]; rfl, by (repeat (with_reducible first | exact Kp.refl _ | assumption | refine Kp.drew ?_ | refine Kp.drewN ?_ _ | refine Kp.alloc ?_ _ | refine Kp.setCell ?_ (by first | (simp; done) | (simp; omega) | (dsimp only; omega)) _ | refine Kp.trans ?_ (by assumption)))⟩
          case measure => simp [intOf]; omega
        · have HN := Lib.hid (show lfK xs (k + 1) = Z by rw [HS.out, if_neg hleaf])
          go_wp2_with fail
          go_roundw
          case rel => exact ⟨k + 1, by omega, by go_num, by rw [HN.out], by (repeat (with_reducible first | exact Kp.refl _ | assumption | refine Kp.drew ?_ | refine Kp.drewN ?_ _ | refine Kp.alloc ?_ _ | refine Kp.setCell ?_ (by first | (simp; done) | (simp; omega) | (dsimp only; omega)) _ | refine Kp.trans ?_ (by assumption)))⟩
          case measure => simp [intOf]; omega
      · obtain rfl : k = n := by omega
        obtain ⟨Z, hZ⟩ : ∃ Z, Z = lfK xs k := ⟨_, rfl⟩
        rw [← hZ] at hb ⊢
        have HZ := Lib.hid hZ
        clear hZ
        go_wp2_with fail
        exact bodyPost_ret (v := .tuple #[.int .i64 Z, .int .i64 ((k : Int) - Z)]) (by simp [results, Try.results16, go_sem]) rfl ⟨by rw [HA.out, HB.out, HZ.out], hkp⟩
set_option maxRecDepth 20000 in
set_option maxHeartbeats 3200000 in
theorem sCountParts_any (A : Option Addr) (n c : Nat) (xs : List Pt) (w : World) (hl : xs.length = n) (hn : n ≤ 1048576) (hr : RdP w A n xs) :
    Calls Try.prog 15 #[.slice A n c] w fun e w' => e = .returned (.tuple #[.int .i64 (cpA xs), .int .i64 (cpB xs)]) ∧ Kp w w' := by
  have HR := Lib.hid hr
  have HL := Lib.hid hl
  clear hr hl
  obtain ⟨m, hm⟩ : ∃ m, m = mobB xs := ⟨_, rfl⟩
  have HM := Lib.hid hm
  clear hm
  go_enter Try.func15, Try.ntmps15
  go_wp2_with fail
  cases m with
  | false =>
    have HA := Lib.hid (show cpA xs = 0 by rw [cpA, ← HM.out]; rfl)
    have HB := Lib.hid (show cpB xs = 0 by rw [cpB, ← HM.out]; rfl)
    refine wp_loop_rounds 1 ?_
    rw [rounds_succ]
    by_cases h0 : n = 0
    · subst h0
      go_wp2_with fail
      exact bodyPost_ret (v := .tuple #[.int .i64 0, .int .i64 0]) (by simp [results, Try.results15, go_sem]) rfl ⟨by rw [HA.out, HB.out], Kp.refl _⟩
    · have h1 : (0 : Int) < (n : Int) := by omega
      go_wp2_with fail
      refine (sMobileOk_any _ _ _ xs _ HL.out hn HR.out).mono ?_
      rw [← HM.out]
      rintro e w1 ⟨rfl, hk1⟩
      go_wp2_with fail
      exact bodyPost_ret (v := .tuple #[.int .i64 0, .int .i64 0]) (by simp [results, Try.results15, go_sem]) rfl ⟨by rw [HA.out, HB.out], hk1⟩
  | true =>
    have HA := Lib.hid (show cpA xs = lfK xs n by rw [cpA, ← HM.out, HL.out]; rfl)
    have HB := Lib.hid (show cpB xs = (n : Int) - lfK xs n by rw [cpB, ← HM.out, HL.out]; rfl)
    go_loopw [4, 5, 6] (fun q u i wr => ∃ k : Nat, k ≤ n ∧ i = .int .i64 k ∧ q = .int .i64 (lfK xs k) ∧ u = .int .i64 ((k : Int) - lfK xs k) ∧ Kp w wr) (fun _ _ i _ => n - (intOf i).toNat)
    case atStart => exact ⟨0, by omega, rfl, rfl, rfl, Kp.refl _⟩
    case round =>
      obtain ⟨k, hk, rfl, rfl, rfl, hkp⟩ := hrel
      have hb := lfK_bd xs k
      by_cases hlt : k < n
      · obtain ⟨Z, hZ⟩ : ∃ Z, Z = lfK xs k := ⟨_, rfl⟩
        rw [← hZ] at hb ⊢
        have p1 : (k : Int) < (n : Int) := by omega
        go_wp2_with fail
        refine (sMobileOk_any _ _ _ xs _ HL.out hn (HR.out.kp hkp)).mono ?_
        rw [← HM.out]
        rintro e wb ⟨rfl, hk1⟩
        have hkb := hkp.trans hk1
        clear hk1
        obtain ⟨b, off, rfl, hbz, hc⟩ := (HR.out.kp hkb).cellOf HL.out (by omega)
        have hC := hc k hlt
        have hstep : lfK xs (k + 1) = if (pt xs k).l = -1 then lfK xs k + 1 else lfK xs k := rfl
        obtain ⟨⟨X0, X1, X2, X3, X4⟩, hX⟩ : ∃ X, X = pt xs k := ⟨_, rfl⟩
        rw [← hX] at hC hstep
        obtain ⟨c0, c1, c2, c3, c4⟩ := hC
        dsimp only at c0 c1 c2 c3 c4 hstep
        rw [← hZ] at hstep
        have HS := Lib.hid hstep
        have p0 : (0 : Int) ≤ (k : Int) := by omega
        obtain ⟨V, hV⟩ : ∃ V, V = (k : Int) - Z := ⟨_, rfl⟩
        have hVb : 0 ≤ V ∧ V ≤ 1048576 := by omega
        rw [← hV]
        have HV := Lib.hid hV
        clear hX hc hstep hZ hV
        by_cases hleaf : X0 = -1
        · subst hleaf
          go_wp2_with fail
          go_roundw
          case rel => exact ⟨k + 1, by omega, by go_num, by rw [HS.out]; rfl, by rw [HS.out, HV.out]; congr 1; simp; omega, by (repeat (with_reducible first | exact Kp.refl _ | assumption | refine Kp.drew ?_ | refine Kp.drewN ?_ _ | refine Kp.alloc ?_ _ | refine Kp.setCell ?_ (by first | (simp; done) | (simp; omega) | (dsimp only; omega)) _ | refine Kp.trans ?_ (by assumption)))⟩
          case measure => simp [intOf]; omega
        · have HN := Lib.hid (show lfK xs (k + 1) = Z by rw [HS.out, if_neg hleaf])
          go_wp2_with fail
          go_roundw
          case rel => exact ⟨k + 1, by omega, by go_num, by rw [HN.out], by rw [HN.out, HV.out]; congr 1; simp; omega, by (repeat (with_reducible first | exact Kp.refl _ | assumption | refine Kp.drew ?_ | refine Kp.drewN ?_ _ | refine Kp.alloc ?_ _ | refine Kp.setCell ?_ (by first | (simp; done) | (simp; omega) | (dsimp only; omega)) _ | refine Kp.trans ?_ (by assumption)))⟩
          case measure => simp [intOf]; omega
      · obtain rfl : k = n := by omega
        obtain ⟨Z, hZ⟩ : ∃ Z, Z = lfK xs k := ⟨_, rfl⟩
        rw [← hZ] at hb ⊢
        have HZ := Lib.hid hZ
        clear hZ
        go_wp2_with fail
        exact bodyPost_ret (v := .tuple #[.int .i64 Z, .int .i64 ((k : Int) - Z)]) (by simp [results, Try.results15, go_sem]) rfl ⟨by rw [HA.out, HB.out, HZ.out], hkp⟩
end Go.Proofs.Ytajdppfngnpklaa
