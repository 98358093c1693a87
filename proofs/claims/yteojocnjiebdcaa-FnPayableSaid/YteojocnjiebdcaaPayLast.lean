/- IsPayable, LargestUnpayable, CountUnpayable: contracts of the program's and the reference's. -/
import Derived.Test.YteojocnjiebdcaaPayable
set_option linter.unusedVariables false
namespace Go.Proofs.Yteojocnjiebdcaa
open Go.RowKit

theorem OwB.at_ {B : Nat} {w : World} {v : Value} {bs : List Bool} (h : OwB B w v bs) (h0 : 0 < bs.length) : ∃ g cap, v = .slice (some ⟨g, 0, none⟩) bs.length cap ∧ ∀ j, j < bs.length → w.cell? ⟨g, j, none⟩ = some (.bool (bs.getD j false)) := by
  obtain ⟨g, cap, rfl, _, _⟩ := World.ownsRow.form h h0
  refine ⟨g, cap, rfl, fun j hj => ?_⟩
  rw [World.ownsRow.cellAt h j (by omega), List.getElem?_map, List.getElem?_eq_getElem hj, List.getD_eq_getElem?_getD, List.getElem?_eq_getElem hj]
  rfl
def isPayB (xs : List Int) (m : Int) : Bool := purseB xs && inB m 0 1000 && (payT xs m.toNat).getD m.toNat false
/-- The last place below k that holds false, or -1. -/
def lastF (bs : List Bool) : Nat → Int
  | 0 => -1
  | k + 1 => if bs.getD k false = false then (k : Int) else lastF bs k
/-- How many places below k hold false. -/
def countF (bs : List Bool) : Nat → Int
  | 0 => 0
  | k + 1 => if bs.getD k false = false then countF bs k + 1 else countF bs k
theorem lastF_bd (bs : List Bool) (k : Nat) : -1 ≤ lastF bs k ∧ lastF bs k < (k : Int) := by
  induction k with
  | zero => simp [lastF]
  | succ k ih => rw [lastF]; split <;> omega
theorem countF_bd (bs : List Bool) (k : Nat) : 0 ≤ countF bs k ∧ countF bs k ≤ (k : Int) := by
  induction k with
  | zero => simp [countF]
  | succ k ih => rw [countF]; split <;> omega
theorem implIsPayable_any (A : Option Addr) (n c : Nat) (xs : List Int) (m : Int) (w : World) (hl : xs.length = n) (hn : n ≤ 1048576) (hr : Reads w w.heap.size 1 A n (xs.map (.int .i64))) :
    Calls Try.prog 15 #[.slice A n c, .int .i64 m] w fun e w' => e = .returned (.bool (isPayB xs m)) ∧ Kp w w' := by
  have HR := Lib.hid hr
  clear hr
  by_cases hp : purseB xs = true
  · by_cases hi : inB m 0 1000 = true
    · have b1 := inB_true.1 hi
      obtain ⟨q, rfl⟩ : ∃ q : Nat, m = (q : Int) := ⟨m.toNat, by omega⟩
      have e : isPayB xs (q : Int) = (payT xs q).getD q false := by simp [isPayB, hp, hi]
      have HE := Lib.hid e
      have HA := Lib.hid (purseB_bd hp).1
      have hq : q ≤ 1000 := by omega
      clear e
      go_enter Try.func15, Try.ntmps15
      go_wp2_with (first | (go_at_call 12; refine (iPurseOk_any _ _ _ xs _ hl hn HR.out).mono ?_; rintro e w1 ⟨rfl, hm⟩; have hk1 := Kp.of_drewN hm; clear hm) | (go_at_call 28; refine (in_any _ _ _ _).mono ?_; rintro e w' ⟨rfl, rfl⟩) | (go_at_call 31; refine (iPayable_any _ _ _ xs q _ hl hn HA.out hq (HR.out.kp hk1)).mono ?_; rintro e w2 ⟨v, rfl, ho, hk2⟩; obtain ⟨g, cap, rfl, hcell⟩ := ho.at_ (by rw [payT_length]; omega); have cq := hcell q (by rw [payT_length]; omega); rw [payT_length]; clear ho hcell; obtain ⟨d, hd⟩ : ∃ d, d = (payT xs q).getD q false := ⟨_, rfl⟩; rw [← hd] at cq; have HD := Lib.hid hd; clear hd))
      go_ret
      exact ⟨ret_bool (by rw [HE.out, HD.out]), hk1.trans hk2⟩
    · have e : isPayB xs m = false := by simp [isPayB, hi]
      have HE := Lib.hid e
      clear e
      go_enter Try.func15, Try.ntmps15
      go_wp2_with (first | (go_at_call 12; refine (iPurseOk_any _ _ _ xs _ hl hn HR.out).mono ?_; rintro e w1 ⟨rfl, hm⟩; have hk1 := Kp.of_drewN hm; clear hm) | (go_at_call 28; refine (in_any _ _ _ _).mono ?_; rintro e w' ⟨rfl, rfl⟩))
      go_ret
      exact ⟨ret_bool HE.out.symm, hk1⟩
  · have e : isPayB xs m = false := by simp [isPayB, hp]
    have HE := Lib.hid e
    clear e
    go_enter Try.func15, Try.ntmps15
    go_wp2_with (go_at_call 12; refine (iPurseOk_any _ _ _ xs _ hl hn HR.out).mono ?_; rintro e w1 ⟨rfl, hm⟩; have hk1 := Kp.of_drewN hm; clear hm)
    go_ret
    exact ⟨ret_bool HE.out.symm, hk1⟩
theorem specIsPayable_any (A : Option Addr) (n c : Nat) (xs : List Int) (m : Int) (w : World) (hl : xs.length = n) (hn : n ≤ 1048576) (hr : Reads w w.heap.size 1 A n (xs.map (.int .i64))) :
    Calls Try.prog 14 #[.slice A n c, .int .i64 m] w fun e w' => e = .returned (.bool (isPayB xs m)) ∧ Kp w w' := by
  have HR := Lib.hid hr
  clear hr
  by_cases hp : purseB xs = true
  · by_cases hi : inB m 0 1000 = true
    · have b1 := inB_true.1 hi
      obtain ⟨q, rfl⟩ : ∃ q : Nat, m = (q : Int) := ⟨m.toNat, by omega⟩
      have e : isPayB xs (q : Int) = (payT xs q).getD q false := by simp [isPayB, hp, hi]
      have HE := Lib.hid e
      have HA := Lib.hid (purseB_bd hp).1
      have hq : q ≤ 1000 := by omega
      clear e
      go_enter Try.func14, Try.ntmps14
      go_wp2_with (first | (go_at_call 10; refine (sPurseOk_any _ _ _ xs _ hl hn HR.out).mono ?_; rintro e w1 ⟨rfl, hm⟩; have hk1 := Kp.of_drewN hm; clear hm) | (go_at_call 27; refine (l01In_any _ _ _ _).mono ?_; rintro e w' ⟨rfl, rfl⟩) | (go_at_call 30; refine (sPayable_any _ _ _ xs q _ hl hn HA.out hq (HR.out.kp hk1)).mono ?_; rintro e w2 ⟨v, rfl, ho, hk2⟩; obtain ⟨g, cap, rfl, hcell⟩ := ho.at_ (by rw [payT_length]; omega); have cq := hcell q (by rw [payT_length]; omega); rw [payT_length]; clear ho hcell; obtain ⟨d, hd⟩ : ∃ d, d = (payT xs q).getD q false := ⟨_, rfl⟩; rw [← hd] at cq; have HD := Lib.hid hd; clear hd))
      go_ret
      exact ⟨ret_bool (by rw [HE.out, HD.out]), hk1.trans hk2⟩
    · have e : isPayB xs m = false := by simp [isPayB, hi]
      have HE := Lib.hid e
      clear e
      go_enter Try.func14, Try.ntmps14
      go_wp2_with (first | (go_at_call 10; refine (sPurseOk_any _ _ _ xs _ hl hn HR.out).mono ?_; rintro e w1 ⟨rfl, hm⟩; have hk1 := Kp.of_drewN hm; clear hm) | (go_at_call 27; refine (l01In_any _ _ _ _).mono ?_; rintro e w' ⟨rfl, rfl⟩))
      go_ret
      exact ⟨ret_bool HE.out.symm, hk1⟩
  · have e : isPayB xs m = false := by simp [isPayB, hp]
    have HE := Lib.hid e
    clear e
    go_enter Try.func14, Try.ntmps14
    go_wp2_with (go_at_call 10; refine (sPurseOk_any _ _ _ xs _ hl hn HR.out).mono ?_; rintro e w1 ⟨rfl, hm⟩; have hk1 := Kp.of_drewN hm; clear hm)
    go_ret
    exact ⟨ret_bool HE.out.symm, hk1⟩
theorem cdiv_one {xs : List Int} (h : cdiv xs = 1) : allB 2 20 xs = true := by
  unfold cdiv at h
  split at h
  · rename_i hp; exact (purseB_bd hp).1
  · omega
def largestS (xs : List Int) (m : Nat) : Int := if cdiv xs = 1 then lastF (payT xs m) (m + 1) else -1
def countS (xs : List Int) (m : Nat) : Int := if cdiv xs = 1 then countF (payT xs m) (m + 1) else -1
set_option maxRecDepth 100000 in
theorem iLargest_any (A : Option Addr) (n c : Nat) (xs : List Int) (w : World) (hl : xs.length = n) (hn : n ≤ 1048576) (hr : Reads w w.heap.size 1 A n (xs.map (.int .i64))) :
    Calls Try.prog 23 #[.slice A n c] w fun e w' => e = .returned (.int .i64 (largestS xs 1000)) ∧ Kp w w' := by
  have HR := Lib.hid hr
  clear hr
  by_cases h1 : cdiv xs = 1
  · have HA := Lib.hid (cdiv_one h1)
    have e : largestS xs 1000 = lastF (payT xs 1000) (1000 + 1) := by rw [largestS, if_pos h1]
    have HE := Lib.hid e
    have hC := fun W hr => iCommonDivisor_any A n c xs W hl hn hr
    rw [h1] at hC
    have HC := Lib.hid hC
    clear h1 e hC
    go_enter Try.func23, Try.ntmps23
    go_wp2_with (first | (go_at_call 17; refine (HC.out _ HR.out).mono ?_; rintro e w1 ⟨rfl, hk1⟩) | (go_at_call 31; refine (iPayable_any _ _ _ xs 1000 _ hl hn HA.out (by omega) (HR.out.kp hk1)).mono ?_; rintro e w2 ⟨v, rfl, ho, hk2⟩; obtain ⟨g, cap, rfl, hcell⟩ := ho.at_ (by rw [payT_length]; omega); rw [payT_length]; clear ho; have HCELL := Lib.hid hcell; clear hcell))
    have HB := Lib.hid (payT_length xs 1000)
    obtain ⟨bs, hbs⟩ : ∃ bs, bs = payT xs 1000 := ⟨_, rfl⟩
    rw [← hbs] at HCELL HB HE
    clear hbs
    go_loopw [3, 13] (fun b i wr => ∃ k : Nat, k ≤ 1000 + 1 ∧ i = .int .i64 k ∧ b = .int .i64 (lastF bs k) ∧ Kp w2 wr) (fun _ i _ => 1000 + 2 - (intOf i).toNat)
    case atStart => exact ⟨0, by omega, rfl, rfl, Kp.refl _⟩
    case round =>
      obtain ⟨k, hk, rfl, rfl, hkp⟩ := hrel
      by_cases hlt : k < 1000 + 1
      · have cq0 := HCELL.out k (by rw [HB.out]; omega)
        have cq := hkp.at1 cq0
        have bd := lastF_bd bs k
        have hs : lastF bs (k + 1) = if bs.getD k false = false then (k : Int) else lastF bs k := by rw [lastF]
        obtain ⟨d, hd⟩ : ∃ d, d = bs.getD k false := ⟨_, rfl⟩
        obtain ⟨L, hL⟩ : ∃ L, L = lastF bs k := ⟨_, rfl⟩
        rw [← hd] at cq hs
        rw [← hL] at hs bd ⊢
        have HS := Lib.hid hs
        clear hd hs cq0 hL
        cases d
        all_goals
          go_wp2_with fail
          go_roundw
          case rel => exact ⟨k + 1, by omega, by go_num, by rw [HS.out]; first | rfl | simp, hkp⟩
          case measure => simp [intOf]; omega
      · obtain rfl : k = 1000 + 1 := by omega
        go_wp2_with fail
        go_ret
        exact ⟨ret_int HE.out.symm, (hk1.trans hk2).trans hkp⟩
  · have e : largestS xs 1000 = -1 := by rw [largestS, if_neg h1]
    have HE := Lib.hid e
    have t1 : (cdiv xs != 1) = true := by simp [h1]
    have HC := fun W hr => iCommonDivisor_any A n c xs W hl hn hr
    obtain ⟨G, hG⟩ : ∃ G, G = cdiv xs := ⟨_, rfl⟩
    rw [← hG] at HC t1
    have HCC := Lib.hid HC
    clear hG HC e h1
    go_enter Try.func23, Try.ntmps23
    go_wp2_with (go_at_call 17; refine (HCC.out _ HR.out).mono ?_; rintro e w1 ⟨rfl, hk1⟩)
    go_ret
    exact ⟨ret_int HE.out.symm, hk1⟩
set_option maxRecDepth 100000 in
theorem sLargest_any (A : Option Addr) (n c : Nat) (xs : List Int) (w : World) (hl : xs.length = n) (hn : n ≤ 1048576) (hr : Reads w w.heap.size 1 A n (xs.map (.int .i64))) :
    Calls Try.prog 22 #[.slice A n c] w fun e w' => e = .returned (.int .i64 (largestS xs 400)) ∧ Kp w w' := by
  have HR := Lib.hid hr
  clear hr
  by_cases h1 : cdiv xs = 1
  · have HA := Lib.hid (cdiv_one h1)
    have e : largestS xs 400 = lastF (payT xs 400) (400 + 1) := by rw [largestS, if_pos h1]
    have HE := Lib.hid e
    have hC := fun W hr => sCommonDivisor_any A n c xs W hl hn hr
    rw [h1] at hC
    have HC := Lib.hid hC
    clear h1 e hC
    go_enter Try.func22, Try.ntmps22
    go_wp2_with (first | (go_at_call 16; refine (HC.out _ HR.out).mono ?_; rintro e w1 ⟨rfl, hk1⟩) | (go_at_call 30; refine (sPayable_any _ _ _ xs 400 _ hl hn HA.out (by omega) (HR.out.kp hk1)).mono ?_; rintro e w2 ⟨v, rfl, ho, hk2⟩; obtain ⟨g, cap, rfl, hcell⟩ := ho.at_ (by rw [payT_length]; omega); rw [payT_length]; clear ho; have HCELL := Lib.hid hcell; clear hcell))
    have HB := Lib.hid (payT_length xs 400)
    obtain ⟨bs, hbs⟩ : ∃ bs, bs = payT xs 400 := ⟨_, rfl⟩
    rw [← hbs] at HCELL HB HE
    clear hbs
    go_loopw [4, 5] (fun b i wr => ∃ k : Nat, k ≤ 400 + 1 ∧ i = .int .i64 k ∧ b = .int .i64 (lastF bs k) ∧ Kp w2 wr) (fun _ i _ => 400 + 2 - (intOf i).toNat)
    case atStart => exact ⟨0, by omega, rfl, rfl, Kp.refl _⟩
    case round =>
      obtain ⟨k, hk, rfl, rfl, hkp⟩ := hrel
      by_cases hlt : k < 400 + 1
      · have cq0 := HCELL.out k (by rw [HB.out]; omega)
        have cq := hkp.at1 cq0
        have bd := lastF_bd bs k
        have hs : lastF bs (k + 1) = if bs.getD k false = false then (k : Int) else lastF bs k := by rw [lastF]
        obtain ⟨d, hd⟩ : ∃ d, d = bs.getD k false := ⟨_, rfl⟩
        obtain ⟨L, hL⟩ : ∃ L, L = lastF bs k := ⟨_, rfl⟩
        rw [← hd] at cq hs
        rw [← hL] at hs bd ⊢
        have HS := Lib.hid hs
        clear hd hs cq0 hL
        cases d
        all_goals
          go_wp2_with fail
          go_roundw
          case rel => exact ⟨k + 1, by omega, by go_num, by rw [HS.out]; first | rfl | simp, hkp⟩
          case measure => simp [intOf]; omega
      · obtain rfl : k = 400 + 1 := by omega
        go_wp2_with fail
        go_ret
        exact ⟨ret_int HE.out.symm, (hk1.trans hk2).trans hkp⟩
  · have e : largestS xs 400 = -1 := by rw [largestS, if_neg h1]
    have HE := Lib.hid e
    have t1 : (cdiv xs != 1) = true := by simp [h1]
    have HC := fun W hr => sCommonDivisor_any A n c xs W hl hn hr
    obtain ⟨G, hG⟩ : ∃ G, G = cdiv xs := ⟨_, rfl⟩
    rw [← hG] at HC t1
    have HCC := Lib.hid HC
    clear hG HC e h1
    go_enter Try.func22, Try.ntmps22
    go_wp2_with (go_at_call 16; refine (HCC.out _ HR.out).mono ?_; rintro e w1 ⟨rfl, hk1⟩)
    go_ret
    exact ⟨ret_int HE.out.symm, hk1⟩
set_option maxRecDepth 100000 in
theorem iCount_any (A : Option Addr) (n c : Nat) (xs : List Int) (w : World) (hl : xs.length = n) (hn : n ≤ 1048576) (hr : Reads w w.heap.size 1 A n (xs.map (.int .i64))) :
    Calls Try.prog 21 #[.slice A n c] w fun e w' => e = .returned (.int .i64 (countS xs 1000)) ∧ Kp w w' := by
  have HR := Lib.hid hr
  clear hr
  by_cases h1 : cdiv xs = 1
  · have HA := Lib.hid (cdiv_one h1)
    have e : countS xs 1000 = countF (payT xs 1000) (1000 + 1) := by rw [countS, if_pos h1]
    have HE := Lib.hid e
    have hC := fun W hr => iCommonDivisor_any A n c xs W hl hn hr
    rw [h1] at hC
    have HC := Lib.hid hC
    clear h1 e hC
    go_enter Try.func21, Try.ntmps21
    go_wp2_with (first | (go_at_call 17; refine (HC.out _ HR.out).mono ?_; rintro e w1 ⟨rfl, hk1⟩) | (go_at_call 31; refine (iPayable_any _ _ _ xs 1000 _ hl hn HA.out (by omega) (HR.out.kp hk1)).mono ?_; rintro e w2 ⟨v, rfl, ho, hk2⟩; obtain ⟨g, cap, rfl, hcell⟩ := ho.at_ (by rw [payT_length]; omega); rw [payT_length]; clear ho; have HCELL := Lib.hid hcell; clear hcell))
    have HB := Lib.hid (payT_length xs 1000)
    obtain ⟨bs, hbs⟩ : ∃ bs, bs = payT xs 1000 := ⟨_, rfl⟩
    rw [← hbs] at HCELL HB HE
    clear hbs
    go_loopw [3, 12] (fun b i wr => ∃ k : Nat, k ≤ 1000 + 1 ∧ i = .int .i64 k ∧ b = .int .i64 (countF bs k) ∧ Kp w2 wr) (fun _ i _ => 1000 + 2 - (intOf i).toNat)
    case atStart => exact ⟨0, by omega, rfl, rfl, Kp.refl _⟩
    case round =>
      obtain ⟨k, hk, rfl, rfl, hkp⟩ := hrel
      by_cases hlt : k < 1000 + 1
      · have cq0 := HCELL.out k (by rw [HB.out]; omega)
        have cq := hkp.at1 cq0
        have bd := countF_bd bs k
        have hs : countF bs (k + 1) = if bs.getD k false = false then countF bs k + 1 else countF bs k := by rw [countF]
        obtain ⟨d, hd⟩ : ∃ d, d = bs.getD k false := ⟨_, rfl⟩
        obtain ⟨L, hL⟩ : ∃ L, L = countF bs k := ⟨_, rfl⟩
        rw [← hd] at cq hs
        rw [← hL] at hs bd ⊢
        have HS := Lib.hid hs
        clear hd hs cq0 hL
        cases d
        all_goals
          go_wp2_with fail
          go_roundw
          case rel => exact ⟨k + 1, by omega, by go_num, by rw [HS.out]; first | rfl | simp, hkp⟩
          case measure => simp [intOf]; omega
      · obtain rfl : k = 1000 + 1 := by omega
        go_wp2_with fail
        go_ret
        exact ⟨ret_int HE.out.symm, (hk1.trans hk2).trans hkp⟩
  · have e : countS xs 1000 = -1 := by rw [countS, if_neg h1]
    have HE := Lib.hid e
    have t1 : (cdiv xs != 1) = true := by simp [h1]
    have HC := fun W hr => iCommonDivisor_any A n c xs W hl hn hr
    obtain ⟨G, hG⟩ : ∃ G, G = cdiv xs := ⟨_, rfl⟩
    rw [← hG] at HC t1
    have HCC := Lib.hid HC
    clear hG HC e h1
    go_enter Try.func21, Try.ntmps21
    go_wp2_with (go_at_call 17; refine (HCC.out _ HR.out).mono ?_; rintro e w1 ⟨rfl, hk1⟩)
    go_ret
    exact ⟨ret_int HE.out.symm, hk1⟩
set_option maxRecDepth 100000 in
theorem sCount_any (A : Option Addr) (n c : Nat) (xs : List Int) (w : World) (hl : xs.length = n) (hn : n ≤ 1048576) (hr : Reads w w.heap.size 1 A n (xs.map (.int .i64))) :
    Calls Try.prog 20 #[.slice A n c] w fun e w' => e = .returned (.int .i64 (countS xs 400)) ∧ Kp w w' := by
  have HR := Lib.hid hr
  clear hr
  by_cases h1 : cdiv xs = 1
  · have HA := Lib.hid (cdiv_one h1)
    have e : countS xs 400 = countF (payT xs 400) (400 + 1) := by rw [countS, if_pos h1]
    have HE := Lib.hid e
    have hC := fun W hr => sCommonDivisor_any A n c xs W hl hn hr
    rw [h1] at hC
    have HC := Lib.hid hC
    clear h1 e hC
    go_enter Try.func20, Try.ntmps20
    go_wp2_with (first | (go_at_call 16; refine (HC.out _ HR.out).mono ?_; rintro e w1 ⟨rfl, hk1⟩) | (go_at_call 30; refine (sPayable_any _ _ _ xs 400 _ hl hn HA.out (by omega) (HR.out.kp hk1)).mono ?_; rintro e w2 ⟨v, rfl, ho, hk2⟩; obtain ⟨g, cap, rfl, hcell⟩ := ho.at_ (by rw [payT_length]; omega); rw [payT_length]; clear ho; have HCELL := Lib.hid hcell; clear hcell))
    have HB := Lib.hid (payT_length xs 400)
    obtain ⟨bs, hbs⟩ : ∃ bs, bs = payT xs 400 := ⟨_, rfl⟩
    rw [← hbs] at HCELL HB HE
    clear hbs
    go_loopw [4, 5] (fun b i wr => ∃ k : Nat, k ≤ 400 + 1 ∧ i = .int .i64 k ∧ b = .int .i64 (countF bs k) ∧ Kp w2 wr) (fun _ i _ => 400 + 2 - (intOf i).toNat)
    case atStart => exact ⟨0, by omega, rfl, rfl, Kp.refl _⟩
    case round =>
      obtain ⟨k, hk, rfl, rfl, hkp⟩ := hrel
      by_cases hlt : k < 400 + 1
      · have cq0 := HCELL.out k (by rw [HB.out]; omega)
        have cq := hkp.at1 cq0
        have bd := countF_bd bs k
        have hs : countF bs (k + 1) = if bs.getD k false = false then countF bs k + 1 else countF bs k := by rw [countF]
        obtain ⟨d, hd⟩ : ∃ d, d = bs.getD k false := ⟨_, rfl⟩
        obtain ⟨L, hL⟩ : ∃ L, L = countF bs k := ⟨_, rfl⟩
        rw [← hd] at cq hs
        rw [← hL] at hs bd ⊢
        have HS := Lib.hid hs
        clear hd hs cq0 hL
        cases d
        all_goals
          go_wp2_with fail
          go_roundw
          case rel => exact ⟨k + 1, by omega, by go_num, by rw [HS.out]; first | rfl | simp, hkp⟩
          case measure => simp [intOf]; omega
      · obtain rfl : k = 400 + 1 := by omega
        go_wp2_with fail
        go_ret
        exact ⟨ret_int HE.out.symm, (hk1.trans hk2).trans hkp⟩
  · have e : countS xs 400 = -1 := by rw [countS, if_neg h1]
    have HE := Lib.hid e
    have t1 : (cdiv xs != 1) = true := by simp [h1]
    have HC := fun W hr => sCommonDivisor_any A n c xs W hl hn hr
    obtain ⟨G, hG⟩ : ∃ G, G = cdiv xs := ⟨_, rfl⟩
    rw [← hG] at HC t1
    have HCC := Lib.hid HC
    clear hG HC e h1
    go_enter Try.func20, Try.ntmps20
    go_wp2_with (go_at_call 16; refine (HCC.out _ HR.out).mono ?_; rintro e w1 ⟨rfl, hk1⟩)
    go_ret
    exact ⟨ret_int HE.out.symm, hk1⟩
end Go.Proofs.Yteojocnjiebdcaa
