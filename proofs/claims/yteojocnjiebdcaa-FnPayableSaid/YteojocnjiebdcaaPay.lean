/- Contracts of the functions on purses, of the program and of the reference. -/
import Derived.Test.YteojocnjiebdcaaAsc
set_option linter.unusedVariables false
namespace Go.Proofs.Yteojocnjiebdcaa
open Go.RowKit

def purseB (xs : List Int) : Bool := allB 2 20 xs && ascB xs && inB xs.length 1 4
theorem purseB_bd {xs : List Int} (h : purseB xs = true) : allB 2 20 xs = true ∧ ascB xs = true ∧ 1 ≤ xs.length ∧ xs.length ≤ 4 := by
  simp only [purseB, Bool.and_eq_true] at h
  have := inB_true.1 h.2
  exact ⟨h.1.1, h.1.2, by omega, by omega⟩
theorem iPurseOk_any (A : Option Addr) (n c : Nat) (xs : List Int) (w : World) (hl : xs.length = n) (hn : n ≤ 1048576) (hr : Reads w w.heap.size 1 A n (xs.map (.int .i64))) :
    Calls Try.prog 12 #[.slice A n c] w fun e w' => e = .returned (.bool (purseB xs)) ∧ ∃ m, w' = w.drewN m := by
  by_cases h1 : inB (n : Int) 1 4 = true
  · have b1 := inB_true.1 h1
    obtain ⟨b, off, u, rfl, hb, hu, hc⟩ := hr.cellOf (k := 0) (by omega)
    have cx := hc 0 _ (get_map (by omega))
    have cy := hc (n - 1) _ (get_map (by omega))
    rw [getD_of] at cx cy
    simp only [Nat.add_zero] at cx
    obtain ⟨x, hx⟩ : ∃ x, x = xs.getD 0 0 := ⟨_, rfl⟩
    obtain ⟨y, hy⟩ : ∃ y, y = xs.getD (n - 1) 0 := ⟨_, rfl⟩
    rw [← hx] at cx
    rw [← hy] at cy
    have HP : purseB xs = (decide (2 ≤ x) && ascB xs && decide (y ≤ 20)) := by
      rw [Bool.eq_iff_iff]
      simp only [purseB, Bool.and_eq_true, decide_eq_true_eq, hl, h1, and_true]
      constructor
      · rintro ⟨ha, hs⟩
        have g0 := allB_iff.1 ha 0 (by omega)
        have g1 := allB_iff.1 ha (n - 1) (by omega)
        exact ⟨⟨by omega, hs⟩, by omega⟩
      · rintro ⟨⟨h2, hs⟩, h3⟩
        exact ⟨asc_all hs (by omega) (by omega) (by rw [hl]; omega), hs⟩
    have HQ := Lib.hid HP
    have HC := isAscending_any (some ⟨b, off, none⟩) n c xs
    have HR := Lib.hid hr
    have i0 : ((n : Int) - 1).toNat = n - 1 := by omega
    clear hx hy HP hc hu hr
    by_cases h2 : 2 ≤ x
    · by_cases h3 : ascB xs = true
      · go_enter Try.func12, Try.ntmps12
        go_wp2_with (first | (go_at_call 28; refine (in_any _ _ _ _).mono ?_; rintro e w' ⟨rfl, rfl⟩) | (go_at_call 29; refine (HC _ hl hn HR.out).mono ?_; rintro e w' ⟨rfl, m, rfl⟩))
        go_ret
        exact ⟨ret_bool (by rw [HQ.out, h3]; simp [h2]), ⟨_, rfl⟩⟩
      · go_enter Try.func12, Try.ntmps12
        go_wp2_with (first | (go_at_call 28; refine (in_any _ _ _ _).mono ?_; rintro e w' ⟨rfl, rfl⟩) | (go_at_call 29; refine (HC _ hl hn HR.out).mono ?_; rintro e w' ⟨rfl, m, rfl⟩))
        go_ret
        exact ⟨ret_bool (by rw [HQ.out]; simp [h3]), ⟨_, rfl⟩⟩
    · go_enter Try.func12, Try.ntmps12
      go_wp2_with (go_at_call 28; refine (in_any _ _ _ _).mono ?_; rintro e w' ⟨rfl, rfl⟩)
      go_ret
      exact ⟨ret_bool (by rw [HQ.out]; simp; omega), ⟨0, rfl⟩⟩
  · have HP : purseB xs = false := by
      rw [purseB, hl]
      simp only [Bool.not_eq_true] at h1
      rw [h1, Bool.and_false]
    have HQ := Lib.hid HP
    clear HP
    go_enter Try.func12, Try.ntmps12
    go_wp2_with (go_at_call 28; refine (in_any _ _ _ _).mono ?_; rintro e w' ⟨rfl, rfl⟩)
    go_ret
    exact ⟨ret_bool HQ.out.symm, ⟨0, rfl⟩⟩

theorem sPurseOk_any (A : Option Addr) (n c : Nat) (xs : List Int) (w : World) (hl : xs.length = n) (hn : n ≤ 1048576) (hr : Reads w w.heap.size 1 A n (xs.map (.int .i64))) :
    Calls Try.prog 10 #[.slice A n c] w fun e w' => e = .returned (.bool (purseB xs)) ∧ ∃ m, w' = w.drewN m := by
  go_enter Try.func10, Try.ntmps10
  go_wp2
  go_loopw [3] (fun i wr => ∃ k : Nat, k ≤ n ∧ i = .int .i64 k ∧ (∀ j, j < k → (2 ≤ xs.getD j 0 ∧ xs.getD j 0 ≤ 20) ∧ (0 < j → xs.getD (j - 1) 0 < xs.getD j 0)) ∧ ∃ m, wr = w.drewN m) (fun i _ => n + 1 - (intOf i).toNat)
  case atStart => exact ⟨0, by omega, rfl, fun j hj => by omega, 0, rfl⟩
  case round =>
    obtain ⟨k, hk, rfl, hok, hm⟩ := hrel
    have hkp := Kp.of_drewN hm
    by_cases hlt : k < n
    · obtain ⟨b, off, u, rfl, hb, hu, hc⟩ := (hr.kp hkp).cellOf (k := k) (by omega)
      have cy := hc k _ (get_map (by omega))
      have cx := hc (k - 1) _ (get_map (by omega))
      rw [getD_of] at cx cy
      obtain ⟨x, hx⟩ : ∃ x, x = xs.getD (k - 1) 0 := ⟨_, rfl⟩
      obtain ⟨y, hy⟩ : ∃ y, y = xs.getD k 0 := ⟨_, rfl⟩
      rw [← hx] at cx
      rw [← hy] at cy
      have HX := Lib.hid hx
      have HY := Lib.hid hy
      have i0 : (0 : Int) ≤ (k : Int) := by omega
      have i1 : (k : Int) < (n : Int) := by omega
      have HM := Lib.hid hm
      have HA := Lib.hid hok
      clear hm hok hc hu hkp hx hy
      by_cases h1 : inB y 2 20 = true
      · have b1 := inB_true.1 h1
        by_cases h0 : k = 0
        · have K0 := Lib.hid h0
          clear h0
          go_wp2
          have k0 : decide (0 < k) = false := by have := K0.out; simp; omega
          go_quiet ((go_at_call 27; exact quiet_same (l01In_any _ _ _ _)))
          go_wp2
          go_roundw
          case rel =>
            refine ⟨k + 1, by omega, by go_num, fun j hj => ?_, drewN_trans HM.out ⟨_, rfl⟩⟩
            have K1 := K0.out
            obtain rfl : j = k := by omega
            exact ⟨by rw [← HY.out]; exact b1, fun h => by omega⟩
          case measure => simp [intOf]; omega
        · have k0 : decide (0 < k) = true := by simp; omega
          have i2 : (0 : Int) ≤ (k : Int) - 1 := by omega
          have i3 : (k : Int) - 1 < (n : Int) := by omega
          have i4 : ((k : Int) - 1).toNat = k - 1 := by omega
          have k1 : IntKind.i64.wrap ((k : Int) - 1) = (k : Int) - 1 := IntWalk.i64_in _ (by omega)
          by_cases hxy : x < y
          · have t1 : decide (y ≤ x) = false := by simp; omega
            go_wp2
            go_quiet ((go_at_call 27; exact quiet_same (l01In_any _ _ _ _)))
            clear i4 k1
            go_wp2
            go_roundw
            case rel =>
              refine ⟨k + 1, by omega, by go_num, fun j hj => ?_, drewN_trans HM.out ⟨_, rfl⟩⟩
              rcases Nat.lt_or_ge j k with h | h
              · exact HA.out j h
              · obtain rfl : j = k := by omega
                exact ⟨by rw [← HY.out]; exact b1, fun _ => by rw [← HX.out, ← HY.out]; exact hxy⟩
            case measure => simp [intOf]; omega
          · have t1 : decide (y ≤ x) = true := by simp; omega
            go_wp2
            go_quiet ((go_at_call 27; exact quiet_same (l01In_any _ _ _ _)))
            clear i4 k1
            go_wp2
            go_ret
            refine ⟨ret_bool ?_, drewN_trans HM.out ⟨_, rfl⟩⟩
            symm
            rw [Bool.eq_false_iff]
            intro h
            have := ascB_iff.1 (purseB_bd h).2.1 (k - 1) (by omega)
            rw [show k - 1 + 1 = k by omega, ← HX.out, ← HY.out] at this
            omega
      · go_wp2
        go_quiet ((go_at_call 27; exact quiet_same (l01In_any _ _ _ _)))
        go_wp2
        go_ret
        refine ⟨ret_bool ?_, drewN_trans HM.out ⟨_, rfl⟩⟩
        symm
        rw [Bool.eq_false_iff]
        intro h
        have := allB_iff.1 (purseB_bd h).1 k (by omega)
        rw [← HY.out] at this
        exact h1 (inB_true.2 this)
    · obtain rfl : k = n := by omega
      have e : purseB xs = inB (k : Int) 1 4 := by
        rw [purseB, hl]
        have e1 : allB 2 20 xs = true := allB_iff.2 fun j hj => (hok j (by omega)).1
        have e2 : ascB xs = true := ascB_iff.2 fun j hj => by
          have := (hok (j + 1) (by omega)).2 (by omega)
          rwa [show j + 1 - 1 = j by omega] at this
        rw [e1, e2]; rfl
      have HE := Lib.hid e
      have HM := Lib.hid hm
      clear hm hok e
      go_wp2_with (go_at_call 27; refine (l01In_any _ _ _ _).mono ?_; rintro e w' ⟨rfl, rfl⟩)
      go_ret
      exact ⟨ret_bool HE.out.symm, HM.out⟩

/-- The greatest common divisor of a list. -/
def gcdL (xs : List Int) : Int := xs.foldl (fun g x => (Int.gcd g x : Int)) 0
def cdiv (xs : List Int) : Int := if purseB xs = true then gcdL xs else 0
theorem gcdL_succ {xs : List Int} {k : Nat} (hk : k < xs.length) : gcdL (xs.take (k + 1)) = (Int.gcd (gcdL (xs.take k)) (xs.getD k 0) : Int) := by
  rw [← getD_of hk, List.take_succ_eq_append_getElem hk, gcdL, List.foldl_append]
  rfl
theorem gcdL_nonneg (xs : List Int) (k : Nat) : 0 ≤ gcdL (xs.take k) := by
  rcases Nat.lt_or_ge k xs.length with h | h
  · cases k with
    | zero => simp [gcdL]
    | succ k => rw [gcdL_succ (by omega)]; omega
  · cases k with
    | zero => simp [gcdL]
    | succ k =>
      rw [List.take_of_length_le (by omega)]
      rcases Nat.eq_zero_or_pos xs.length with e | e
      · have : xs = [] := List.eq_nil_of_length_eq_zero e
        subst this; simp [gcdL]
      · have := gcdL_succ (xs := xs) (k := xs.length - 1) (by omega)
        rw [show xs.length - 1 + 1 = xs.length by omega, List.take_length] at this
        rw [this]; omega
theorem gcdL_le {xs : List Int} (h : allB 2 20 xs = true) (k : Nat) : gcdL (xs.take k) ≤ 20 := by
  induction k with
  | zero => simp [gcdL]
  | succ k ih =>
    rcases Nat.lt_or_ge k xs.length with h1 | h1
    · rw [gcdL_succ h1]
      have hb := allB_iff.1 h k h1
      have : Int.gcd (gcdL (xs.take k)) (xs.getD k 0) ≤ (xs.getD k 0).natAbs := Int.gcd_le_natAbs_right _ (by omega)
      omega
    · rw [List.take_of_length_le (by omega)]
      rwa [List.take_of_length_le (by omega)] at ih
theorem iCommonDivisor_any (A : Option Addr) (n c : Nat) (xs : List Int) (w : World) (hl : xs.length = n) (hn : n ≤ 1048576) (hr : Reads w w.heap.size 1 A n (xs.map (.int .i64))) :
    Calls Try.prog 17 #[.slice A n c] w fun e w' => e = .returned (.int .i64 (cdiv xs)) ∧ Kp w w' := by
  have HR := Lib.hid hr
  clear hr
  by_cases hp : purseB xs = true
  · have HP := Lib.hid hp
    have e : cdiv xs = gcdL xs := by rw [cdiv, if_pos hp]
    have HE := Lib.hid e
    clear e
    go_enter Try.func17, Try.ntmps17
    go_wp2_with (go_at_call 12; refine (iPurseOk_any _ _ _ xs _ hl hn HR.out).mono ?_; rintro e w1 ⟨rfl, hm⟩; have hk1 := Kp.of_drewN hm; clear hm)
    clear hp
    go_loopw [3, 11] (fun g i wr => ∃ k : Nat, k ≤ n ∧ i = .int .i64 k ∧ g = .int .i64 (gcdL (xs.take k)) ∧ Kp w wr) (fun _ i _ => n - (intOf i).toNat)
    case atStart => exact ⟨0, by omega, rfl, rfl, hk1⟩
    case round =>
      obtain ⟨k, hk, rfl, rfl, hkp⟩ := hrel
      by_cases hlt : k < n
      · obtain ⟨b, off, u, rfl, hb, hu, hc⟩ := (HR.out.kp hkp).cellOf (k := k) (by omega)
        have cx := hc k _ (get_map (by omega))
        rw [getD_of] at cx
        have g0 := gcdL_nonneg xs k
        have g1 := gcdL_le (purseB_bd HP.out).1 k
        have x0 := allB_iff.1 (purseB_bd HP.out).1 k (by omega)
        have GS := gcdL_succ (xs := xs) (k := k) (by omega)
        obtain ⟨x, hx⟩ : ∃ x, x = xs.getD k 0 := ⟨_, rfl⟩
        obtain ⟨G, hG⟩ : ∃ G, G = gcdL (xs.take k) := ⟨_, rfl⟩
        rw [← hx] at cx x0 GS
        rw [← hG] at g0 g1 GS ⊢
        have HGS := Lib.hid GS
        clear hu hc hx hG GS
        go_wp2_with (go_at_call 33; refine (gcd_any _ _ _ (by omega) (by omega)).mono ?_; rintro e w2 ⟨rfl, hm⟩; have hk2 := Kp.of_drewN hm; clear hm)
        go_roundw
        case rel => exact ⟨k + 1, by omega, by go_num, by rw [HGS.out], hkp.trans hk2⟩
        case measure => simp [intOf]; omega
      · obtain rfl : k = n := by omega
        go_wp2
        go_ret
        exact ⟨ret_int (by rw [HE.out, List.take_of_length_le (by omega)]), hkp⟩
  · have e : cdiv xs = 0 := by rw [cdiv, if_neg hp]
    rw [e]
    clear e
    go_enter Try.func17, Try.ntmps17
    go_wp2_with (go_at_call 12; refine (iPurseOk_any _ _ _ xs _ hl hn HR.out).mono ?_; rintro e w1 ⟨rfl, hm⟩; have hk1 := Kp.of_drewN hm; clear hm)
    go_ret
    exact ⟨rfl, hk1⟩
theorem sCommonDivisor_any (A : Option Addr) (n c : Nat) (xs : List Int) (w : World) (hl : xs.length = n) (hn : n ≤ 1048576) (hr : Reads w w.heap.size 1 A n (xs.map (.int .i64))) :
    Calls Try.prog 16 #[.slice A n c] w fun e w' => e = .returned (.int .i64 (cdiv xs)) ∧ Kp w w' := by
  have HR := Lib.hid hr
  clear hr
  by_cases hp : purseB xs = true
  · have HP := Lib.hid hp
    have e : cdiv xs = gcdL xs := by rw [cdiv, if_pos hp]
    have HE := Lib.hid e
    clear e
    go_enter Try.func16, Try.ntmps16
    go_wp2
    go_loopw [3, 4] (fun g i wr => ∃ k : Nat, k ≤ n ∧ i = .int .i64 k ∧ g = .int .i64 (gcdL (xs.take k)) ∧ Kp w wr) (fun _ i _ => n - (intOf i).toNat)
    case atStart => exact ⟨0, by omega, rfl, rfl, Kp.refl _⟩
    case round =>
      obtain ⟨k, hk, rfl, rfl, hkp⟩ := hrel
      by_cases hlt : k < n
      · obtain ⟨b, off, u, rfl, hb, hu, hc⟩ := HR.out.cellOf (k := k) (by omega)
        have cx0 := hc k _ (get_map (by omega))
        have cx := hkp.at1 cx0
        rw [getD_of] at cx
        have g0 := gcdL_nonneg xs k
        have g1 := gcdL_le (purseB_bd HP.out).1 k
        have x0 := allB_iff.1 (purseB_bd HP.out).1 k (by omega)
        have GS := gcdL_succ (xs := xs) (k := k) (by omega)
        obtain ⟨x, hx⟩ : ∃ x, x = xs.getD k 0 := ⟨_, rfl⟩
        obtain ⟨G, hG⟩ : ∃ G, G = gcdL (xs.take k) := ⟨_, rfl⟩
        rw [← hx] at cx x0 GS
        rw [← hG] at g0 g1 GS ⊢
        have HGS := Lib.hid GS
        clear hu hc hx hG GS cx0
        go_wp2_with (first | (go_at_call 10; refine (sPurseOk_any _ _ _ xs _ hl hn (HR.out.kp hkp)).mono ?_; rintro e w1 ⟨rfl, hm⟩; have hk1 := Kp.of_drewN hm; clear hm; have cx := hk1.at1 cx) | (go_at_call 32; refine (l02Gcd_any _ _ _ (by omega) (by omega)).mono ?_; rintro e w2 ⟨rfl, hm⟩; have hk2 := Kp.of_drewN hm; clear hm))
        go_roundw
        case rel => exact ⟨k + 1, by omega, by go_num, by rw [HGS.out], (hkp.trans hk1).trans hk2⟩
        case measure => simp [intOf]; omega
      · obtain rfl : k = n := by omega
        go_wp2_with fail
        go_ret
        exact ⟨ret_int (by rw [HE.out, List.take_of_length_le (by omega)]), hkp⟩
  · have e : cdiv xs = 0 := by rw [cdiv, if_neg hp]
    have HE := Lib.hid e
    clear e
    go_enter Try.func16, Try.ntmps16
    go_wp2
    refine wp_loop_rounds 1 ?_
    rw [rounds_succ]
    by_cases h0 : (0 : Int) < (n : Int)
    · go_wp2_with (go_at_call 10; refine (sPurseOk_any _ _ _ xs _ hl hn HR.out).mono ?_; rintro e w1 ⟨rfl, hm⟩; have hk1 := Kp.of_drewN hm; clear hm)
      go_ret
      exact ⟨ret_int HE.out.symm, hk1⟩
    · go_wp2_with fail
      go_ret
      exact ⟨ret_int HE.out.symm, Kp.refl _⟩
end Go.Proofs.Yteojocnjiebdcaa
