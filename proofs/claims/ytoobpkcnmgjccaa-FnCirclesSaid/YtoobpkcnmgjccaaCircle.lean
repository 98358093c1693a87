/- CircleOk: contracts of the program's and the reference's. -/
import Derived.Test.YtoobpkcnmgjccaaAsc
set_option linter.unusedVariables false
namespace Go.Proofs.Ytoobpkcnmgjccaa
open Go.RowKit

def circB (N : Int) (xs : List Int) : Bool := inB N 1 60 && inB xs.length 1 8 && ascB xs && allB 0 (N - 1) xs
theorem circB_bd {N : Int} {xs : List Int} (h : circB N xs = true) : (1 ≤ N ∧ N ≤ 60) ∧ (1 ≤ xs.length ∧ xs.length ≤ 8) ∧ ascB xs = true ∧ allB 0 (N - 1) xs = true := by
  simp only [circB, Bool.and_eq_true] at h
  have h1 := inB_true.1 h.1.1.1
  have h2 := inB_true.1 h.1.1.2
  exact ⟨h1, by omega, h.1.2, h.2⟩
theorem iCircleOk_any (A : Option Addr) (n c : Nat) (xs : List Int) (N : Int) (w : World) (hl : xs.length = n) (hn : n ≤ 1048576) (hr : Reads w w.heap.size 1 A n (xs.map (.int .i64))) :
    Calls Try.prog 12 #[.int .i64 N, .slice A n c] w fun e w' => e = .returned (.bool (circB N xs)) ∧ ∃ m, w' = w.drewN m := by
  by_cases h0 : inB N 1 60 = true
  · by_cases h1 : inB (n : Int) 1 8 = true
    · have b0 := inB_true.1 h0
      have b1 := inB_true.1 h1
      obtain ⟨b, off, u, rfl, hb, hu, hc⟩ := hr.cellOf (k := 0) (by omega)
      have cx := hc 0 _ (get_map (by omega))
      have cy := hc (n - 1) _ (get_map (by omega))
      rw [getD_of] at cx cy
      simp only [Nat.add_zero] at cx
      obtain ⟨x, hx⟩ : ∃ x, x = xs.getD 0 0 := ⟨_, rfl⟩
      obtain ⟨y, hy⟩ : ∃ y, y = xs.getD (n - 1) 0 := ⟨_, rfl⟩
      rw [← hx] at cx
      rw [← hy] at cy
      have HP : circB N xs = (ascB xs && decide (0 ≤ x) && decide (y < N)) := by
        rw [Bool.eq_iff_iff]
        simp only [circB, Bool.and_eq_true, decide_eq_true_eq, hl, h0, h1, true_and]
        constructor
        · rintro ⟨hs, ha⟩
          have g0 := allB_iff.1 ha 0 (by omega)
          have g1 := allB_iff.1 ha (n - 1) (by omega)
          exact ⟨⟨hs, by omega⟩, by omega⟩
        · rintro ⟨⟨hs, h2⟩, h3⟩
          exact ⟨hs, asc_all hs (by omega) (by omega) (by rw [hl]; omega)⟩
      have HQ := Lib.hid HP
      have HC := isAscending_any (some ⟨b, off, none⟩) n c xs
      have HR := Lib.hid hr
      have i0 : ((n : Int) - 1).toNat = n - 1 := by omega
      clear hx hy HP hc hu hr
      by_cases h3 : ascB xs = true
      · by_cases h2 : 0 ≤ x
        · go_enter Try.func12, Try.ntmps12
          go_wp2_with (first | (go_at_call 31; refine (in_any _ _ _ _).mono ?_; rintro e w' ⟨rfl, rfl⟩) | (go_at_call 32; refine (HC _ hl hn HR.out).mono ?_; rintro e w' ⟨rfl, m, rfl⟩))
          go_ret
          exact ⟨ret_bool (by rw [HQ.out, h3]; simp [h2]), ⟨_, rfl⟩⟩
        · go_enter Try.func12, Try.ntmps12
          go_wp2_with (first | (go_at_call 31; refine (in_any _ _ _ _).mono ?_; rintro e w' ⟨rfl, rfl⟩) | (go_at_call 32; refine (HC _ hl hn HR.out).mono ?_; rintro e w' ⟨rfl, m, rfl⟩))
          go_ret
          exact ⟨ret_bool (by rw [HQ.out, h3]; simp; omega), ⟨_, rfl⟩⟩
      · go_enter Try.func12, Try.ntmps12
        go_wp2_with (first | (go_at_call 31; refine (in_any _ _ _ _).mono ?_; rintro e w' ⟨rfl, rfl⟩) | (go_at_call 32; refine (HC _ hl hn HR.out).mono ?_; rintro e w' ⟨rfl, m, rfl⟩))
        go_ret
        exact ⟨ret_bool (by rw [HQ.out]; simp [h3]), ⟨_, rfl⟩⟩
    · have HP : circB N xs = false := by
        rw [circB, hl]
        simp only [Bool.not_eq_true] at h1
        rw [h1, Bool.and_false]; rfl
      have HQ := Lib.hid HP
      clear HP
      go_enter Try.func12, Try.ntmps12
      go_wp2_with (go_at_call 31; refine (in_any _ _ _ _).mono ?_; rintro e w' ⟨rfl, rfl⟩)
      go_ret
      exact ⟨ret_bool HQ.out.symm, ⟨0, rfl⟩⟩
  · have HP : circB N xs = false := by
      rw [circB]
      simp only [Bool.not_eq_true] at h0
      rw [h0]; rfl
    have HQ := Lib.hid HP
    clear HP
    go_enter Try.func12, Try.ntmps12
    go_wp2_with (go_at_call 31; refine (in_any _ _ _ _).mono ?_; rintro e w' ⟨rfl, rfl⟩)
    go_ret
    exact ⟨ret_bool HQ.out.symm, ⟨0, rfl⟩⟩

theorem sCircleOk_any (A : Option Addr) (n c : Nat) (xs : List Int) (N : Int) (w : World) (hl : xs.length = n) (hn : n ≤ 1048576) (hr : Reads w w.heap.size 1 A n (xs.map (.int .i64))) :
    Calls Try.prog 10 #[.int .i64 N, .slice A n c] w fun e w' => e = .returned (.bool (circB N xs)) ∧ ∃ m, w' = w.drewN m := by
  go_enter Try.func10, Try.ntmps10
  go_wp2
  go_loopw [5] (fun i wr => ∃ k : Nat, k ≤ n ∧ i = .int .i64 k ∧ (∀ j, j < k → (0 ≤ xs.getD j 0 ∧ xs.getD j 0 ≤ 59) ∧ xs.getD j 0 < N ∧ (0 < j → xs.getD (j - 1) 0 < xs.getD j 0)) ∧ ∃ m, wr = w.drewN m) (fun i _ => n + 1 - (intOf i).toNat)
  case atStart => exact ⟨0, by omega, rfl, fun j hj => by omega, 0, rfl⟩
  case round =>
    obtain ⟨k, hk, rfl, hok, hm⟩ := hrel
    have hkp := Kp.of_drewN hm
    by_cases hlt : k < n
    · obtain ⟨b, off, u, rfl, hb, hu, hc⟩ := (hr.kp hkp).cellOf (k := k) (by omega)
      have cy := hc k _ (get_map (by omega))
      have cx := hc (k - 1) _ (get_map (by omega))
      rw [getD_of] at cx cy
      obtain ⟨x, hx⟩ : ∃ x, x = xs.getD (k - 1) 0 := ⟨_, rfl⟩
      obtain ⟨y, hy⟩ : ∃ y, y = xs.getD k 0 := ⟨_, rfl⟩
      rw [← hx] at cx
      rw [← hy] at cy
      have HX := Lib.hid hx
      have HY := Lib.hid hy
      have i0 : (0 : Int) ≤ (k : Int) := by omega
      have i1 : (k : Int) < (n : Int) := by omega
      have HM := Lib.hid hm
      have HA := Lib.hid hok
      clear hm hok hc hu hkp hx hy
      by_cases h1 : inB y 0 59 = true
      · have b1 := inB_true.1 h1
        by_cases hyN : y < N
        · have t2 : decide (N ≤ y) = false := by simp; omega
          by_cases h0 : k = 0
          · have K0 := Lib.hid h0
            clear h0
            go_wp2
            have k0 : decide (0 < k) = false := by have := K0.out; simp; omega
            go_quiet ((go_at_call 30; exact quiet_same (l01In_any _ _ _ _)))
            go_wp2
            go_roundw
            case rel =>
              refine ⟨k + 1, by omega, by go_num, fun j hj => ?_, drewN_trans HM.out ⟨_, rfl⟩⟩
              have K1 := K0.out
              obtain rfl : j = k := by omega
              exact ⟨by rw [← HY.out]; exact b1, by rw [← HY.out]; exact hyN, fun h => by omega⟩
            case measure => simp [intOf]; omega
          · have k0 : decide (0 < k) = true := by simp; omega
            have i2 : (0 : Int) ≤ (k : Int) - 1 := by omega
            have i3 : (k : Int) - 1 < (n : Int) := by omega
            have i4 : ((k : Int) - 1).toNat = k - 1 := by omega
            have k1 : IntKind.i64.wrap ((k : Int) - 1) = (k : Int) - 1 := IntWalk.i64_in _ (by omega)
            by_cases hxy : x < y
            · have t1 : decide (y ≤ x) = false := by simp; omega
              go_wp2
              go_quiet ((go_at_call 30; exact quiet_same (l01In_any _ _ _ _)))
              clear i4 k1
              go_wp2
              go_roundw
              case rel =>
                refine ⟨k + 1, by omega, by go_num, fun j hj => ?_, drewN_trans HM.out ⟨_, rfl⟩⟩
                rcases Nat.lt_or_ge j k with h | h
                · exact HA.out j h
                · obtain rfl : j = k := by omega
                  exact ⟨by rw [← HY.out]; exact b1, by rw [← HY.out]; exact hyN, fun _ => by rw [← HX.out, ← HY.out]; exact hxy⟩
              case measure => simp [intOf]; omega
            · have t1 : decide (y ≤ x) = true := by simp; omega
              go_wp2
              go_quiet ((go_at_call 30; exact quiet_same (l01In_any _ _ _ _)))
              clear i4 k1
              go_wp2
              go_ret
              refine ⟨ret_bool ?_, drewN_trans HM.out ⟨_, rfl⟩⟩
              symm
              rw [Bool.eq_false_iff]
              intro h
              have := ascB_iff.1 (circB_bd h).2.2.1 (k - 1) (by omega)
              rw [show k - 1 + 1 = k by omega, ← HX.out, ← HY.out] at this
              omega
        · have t2 : decide (N ≤ y) = true := by simp; omega
          go_wp2
          go_quiet ((go_at_call 30; exact quiet_same (l01In_any _ _ _ _)))
          go_wp2
          go_ret
          refine ⟨ret_bool ?_, drewN_trans HM.out ⟨_, rfl⟩⟩
          symm
          rw [Bool.eq_false_iff]
          intro h
          have := allB_iff.1 (circB_bd h).2.2.2 k (by omega)
          rw [← HY.out] at this
          omega
      · go_wp2
        go_quiet ((go_at_call 30; exact quiet_same (l01In_any _ _ _ _)))
        go_wp2
        go_ret
        refine ⟨ret_bool ?_, drewN_trans HM.out ⟨_, rfl⟩⟩
        symm
        rw [Bool.eq_false_iff]
        intro h
        have h2 := circB_bd h
        have := allB_iff.1 h2.2.2.2 k (by omega)
        rw [← HY.out] at this
        exact h1 (inB_true.2 ⟨by omega, by omega⟩)
    · obtain rfl : k = n := by omega
      have e : circB N xs = (inB N 1 60 && inB (k : Int) 1 8) := by
        rw [circB, hl]
        have e2 : ascB xs = true := ascB_iff.2 fun j hj => by
          have := (hok (j + 1) (by omega)).2.2 (by omega)
          rwa [show j + 1 - 1 = j by omega] at this
        have e1 : allB 0 (N - 1) xs = true := allB_iff.2 fun j hj => by
          have := hok j (by omega)
          omega
        rw [e1, e2, Bool.and_true, Bool.and_true]
      have HE := Lib.hid e
      have HM := Lib.hid hm
      clear hm hok e
      go_wp2_with (go_at_call 30; refine (l01In_any _ _ _ _).mono ?_; rintro e w' ⟨rfl, rfl⟩)
      all_goals (go_ret; exact ⟨ret_bool (by rw [HE.out]; simp_all), HM.out⟩)
end Go.Proofs.Ytoobpkcnmgjccaa
