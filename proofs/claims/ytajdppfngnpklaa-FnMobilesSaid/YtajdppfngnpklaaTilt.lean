/- WeightOf, FirstTilted, IsBalanced, CountParts: the contracts. -/
import Derived.Test.YtajdppfngnpklaaWeigh
set_option linter.unusedVariables false
namespace Go.Proofs.Ytajdppfngnpklaa
open Go.RowKit

def woM (xs : List Pt) (q : Int) : Int := if (mobB xs && inB q 0 ((xs.length : Int) - 1)) = true then wtM xs 16 q.toNat else 0
def tiltB (xs : List Pt) (k : Nat) : Bool := ((pt xs k).l != -1) && (wtM xs 16 (pt xs k).l.toNat * (pt xs k).p != wtM xs 16 (pt xs k).r.toNat * (pt xs k).q)
def ftR (xs : List Pt) (n : Nat) : Nat → Int
  | 0 => -1
  | r + 1 => if tiltB xs (n - (r + 1)) = true then ((n - (r + 1) : Nat) : Int) else ftR xs n r
def ftM (xs : List Pt) : Int := if mobB xs = true then ftR xs xs.length xs.length else -1
theorem ftR_at {xs : List Pt} {n k : Nat} (hk : k < n) : ftR xs n (n - k) = if tiltB xs k = true then (k : Int) else ftR xs n (n - (k + 1)) := by
  obtain ⟨r, hr⟩ : ∃ r, n - k = r + 1 := ⟨n - k - 1, by omega⟩
  rw [hr, ftR, show n - (r + 1) = k by omega, show n - (k + 1) = r by omega]
theorem ftR_bd (xs : List Pt) (n : Nat) : ∀ r, -1 ≤ ftR xs n r ∧ ftR xs n r ≤ n := by
  intro r
  induction r with
  | zero => simp [ftR]
  | succ r ih => rw [ftR]; split <;> omega
def lfK (xs : List Pt) : Nat → Int
  | 0 => 0
  | k + 1 => if (pt xs k).l = -1 then lfK xs k + 1 else lfK xs k
theorem lfK_bd (xs : List Pt) (k : Nat) : 0 ≤ lfK xs k ∧ lfK xs k ≤ (k : Int) := by
  induction k with
  | zero => simp [lfK]
  | succ k ih => rw [lfK]; split <;> omega
def cpA (xs : List Pt) : Int := if mobB xs = true then lfK xs xs.length else 0
def cpB (xs : List Pt) : Int := if mobB xs = true then (xs.length : Int) - lfK xs xs.length else 0
theorem iWeightOf_any (A : Option Addr) (n c : Nat) (xs : List Pt) (q : Int) (w : World) (hl : xs.length = n) (hn : n ≤ 1048576) (hr : RdP w A n xs) :
    Calls Try.prog 18 #[.slice A n c, .int .i64 q] w fun e w' => e = .returned (.int .i64 (woM xs q)) ∧ Kp w w' := by
  have HR := Lib.hid hr
  have HL := Lib.hid hl
  clear hr
  by_cases hm : mobB xs = true
  · by_cases hq : inB q 0 ((n : Int) - 1) = true
    · have hqb := inB_true.1 hq
      obtain ⟨k, rfl⟩ : ∃ k : Nat, q = (k : Int) := ⟨q.toNat, by omega⟩
      have hn15 := (mobB_bd hm).2.1
      have HV := Lib.hid (show woM xs (k : Int) = wtM xs 16 k by rw [woM, hl, hm, hq]; rfl)
      have HM := Lib.hid hm
      have HQ := Lib.hid hq
      have g1 : k < n ∧ n - k ≤ 16 := by omega
      clear hm hq hl
      go_enter Try.func18, Try.ntmps18
      go_wp2_with fail
      refine (iMobileOk_any _ _ _ xs _ HL.out hn HR.out).mono ?_
      rw [HM.out]
      rintro e w1 ⟨rfl, hk1⟩
      go_wp2_with (go_at_call 31; refine (in_any _ _ _ _).mono ?_; rintro e w' ⟨rfl, rfl⟩; rw [HQ.out])
      refine (iWeight_any n xs HL.out HM.out 16 k g1.1 g1.2 (by omega) _ _ _ (HR.out.kp hk1)).mono ?_
      rw [← HV.out]
      rintro e w2 ⟨rfl, hk2⟩
      go_wp2_with fail
      go_ret
      exact ⟨rfl, hk1.trans hk2⟩
    · have HQ := Lib.hid (show inB q 0 ((n : Int) - 1) = false by simpa using hq)
      have HM := Lib.hid hm
      have HV := Lib.hid (show woM xs q = 0 by rw [woM, hl, HQ.out]; simp)
      clear hm hq hl
      go_enter Try.func18, Try.ntmps18
      go_wp2_with fail
      refine (iMobileOk_any _ _ _ xs _ HL.out hn HR.out).mono ?_
      rw [HM.out]
      rintro e w1 ⟨rfl, hk1⟩
      go_wp2_with (go_at_call 31; refine (in_any _ _ _ _).mono ?_; rintro e w' ⟨rfl, rfl⟩; rw [HQ.out])
      go_ret
      exact ⟨ret_int HV.out.symm, hk1⟩
  · have HM := Lib.hid (show mobB xs = false by simpa using hm)
    have HV := Lib.hid (show woM xs q = 0 by rw [woM, HM.out]; simp)
    clear hm hl
    go_enter Try.func18, Try.ntmps18
    go_wp2_with fail
    refine (iMobileOk_any _ _ _ xs _ HL.out hn HR.out).mono ?_
    rw [HM.out]
    rintro e w1 ⟨rfl, hk1⟩
    go_wp2_with fail
    go_ret
    exact ⟨ret_int HV.out.symm, hk1⟩
theorem sWeightOf_any (A : Option Addr) (n c : Nat) (xs : List Pt) (q : Int) (w : World) (hl : xs.length = n) (hn : n ≤ 1048576) (hr : RdP w A n xs) :
    Calls Try.prog 17 #[.slice A n c, .int .i64 q] w fun e w' => e = .returned (.int .i64 (woM xs q)) ∧ Kp w w' := by
  have HR := Lib.hid hr
  have HL := Lib.hid hl
  clear hr
  by_cases hm : mobB xs = true
  · by_cases hq : inB q 0 ((n : Int) - 1) = true
    · have hqb := inB_true.1 hq
      obtain ⟨k, rfl⟩ : ∃ k : Nat, q = (k : Int) := ⟨q.toNat, by omega⟩
      have hn15 := (mobB_bd hm).2.1
      have HV := Lib.hid (show woM xs (k : Int) = wtM xs 16 k by rw [woM, hl, hm, hq]; rfl)
      have HM := Lib.hid hm
      have HQ := Lib.hid hq
      have g1 : k < n ∧ n - k ≤ 16 := by omega
      clear hm hq hl
      go_enter Try.func17, Try.ntmps17
      go_wp2_with fail
      refine (sMobileOk_any _ _ _ xs _ HL.out hn HR.out).mono ?_
      rw [HM.out]
      rintro e w1 ⟨rfl, hk1⟩
      go_wp2_with (go_at_call 29; refine (l01In_any _ _ _ _).mono ?_; rintro e w' ⟨rfl, rfl⟩; rw [HQ.out])
      refine (sWeight_any n xs HL.out HM.out 16 k g1.1 g1.2 (by omega) _ _ _ (HR.out.kp hk1)).mono ?_
      rw [← HV.out]
      rintro e w2 ⟨rfl, hk2⟩
      go_wp2_with fail
      go_ret
      exact ⟨rfl, hk1.trans hk2⟩
    · have HQ := Lib.hid (show inB q 0 ((n : Int) - 1) = false by simpa using hq)
      have HM := Lib.hid hm
      have HV := Lib.hid (show woM xs q = 0 by rw [woM, hl, HQ.out]; simp)
      clear hm hq hl
      go_enter Try.func17, Try.ntmps17
      go_wp2_with fail
      refine (sMobileOk_any _ _ _ xs _ HL.out hn HR.out).mono ?_
      rw [HM.out]
      rintro e w1 ⟨rfl, hk1⟩
      go_wp2_with (go_at_call 29; refine (l01In_any _ _ _ _).mono ?_; rintro e w' ⟨rfl, rfl⟩; rw [HQ.out])
      go_ret
      exact ⟨ret_int HV.out.symm, hk1⟩
  · have HM := Lib.hid (show mobB xs = false by simpa using hm)
    have HV := Lib.hid (show woM xs q = 0 by rw [woM, HM.out]; simp)
    clear hm hl
    go_enter Try.func17, Try.ntmps17
    go_wp2_with fail
    refine (sMobileOk_any _ _ _ xs _ HL.out hn HR.out).mono ?_
    rw [HM.out]
    rintro e w1 ⟨rfl, hk1⟩
    go_wp2_with fail
    go_ret
    exact ⟨ret_int HV.out.symm, hk1⟩
end Go.Proofs.Ytajdppfngnpklaa
