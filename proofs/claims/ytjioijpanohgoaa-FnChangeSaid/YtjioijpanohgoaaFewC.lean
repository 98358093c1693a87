/- FewestCoins: contracts of the program's and the reference's. -/
import Derived.Test.YtjioijpanohgoaaFew
set_option linter.unusedVariables false
namespace Go.Proofs.Ytjioijpanohgoaa
open Go.RowKit

def fewI (xs : List Int) (n : Int) : Int := if (sysB xs && inB n 0 1000) = true then fw xs n.toNat else -1
theorem sFewestCoins_any (A : Option Addr) (len c : Nat) (xs : List Int) (N : Int) (w : World) (hl : xs.length = len) (hn : len ≤ 1048576) (hr : Reads w w.heap.size 1 A len (xs.map (.int .i64))) :
    Calls Try.prog 8 #[.slice A len c, .int .i64 N] w fun e w' => e = .returned (.int .i64 (fewI xs N)) ∧ Kp w w' := by
  have HR := Lib.hid hr
  clear hr
  by_cases h1 : sysB xs = true
  · by_cases h2 : inB N 0 1000 = true
    · have b := inB_true.1 h2
      obtain ⟨M, rfl⟩ : ∃ M : Nat, N = (M : Int) := ⟨N.toNat, by omega⟩
      have HE := Lib.hid (show fewI xs (M : Int) = fw xs M by rw [fewI, h1, h2]; rfl)
      have HS := Lib.hid h1
      go_enter Try.func8, Try.ntmps8
      go_upto_region 3 with (first | (go_at_call 24; refine (sSystemOk_any _ _ _ xs _ hl hn HR.out).mono ?_; rintro e w1 ⟨rfl, hm⟩; have hk1 := Kp.of_drewN hm; clear hm) | (go_at_call 25; refine (l01In_any _ _ _ _).mono ?_; rintro e w' ⟨rfl, rfl⟩))
      clear h1
      go_wp2_with fail
      refine (sFewest_any _ _ _ xs M _ hl HS.out (by omega) (HR.out.kp hk1)).mono ?_
      rintro e w2 ⟨v, L, rfl, ho, hrow, hk2⟩
      have HL := hrow.1
      have e1 := hrow.2 M (by omega)
      obtain ⟨g, cap, rfl, hc1, hc2, hb, hg, hcell⟩ := ho.cells (by omega)
      have cq := hcell M (by omega)
      rw [e1] at cq
      rw [HL] at hc1 ⊢
      have i1 : (M : Int) < ((M + 1 : Nat) : Int) := by omega
      obtain ⟨E, hE⟩ : ∃ E, E = fw xs M := ⟨_, rfl⟩
      rw [← hE] at cq
      have HEE := Lib.hid hE
      clear hcell hrow ho e1 hE
      go_wp2_with fail
      go_ret
      exact ⟨ret_int (by rw [HE.out, HEE.out]), hk1.trans hk2⟩
    · have HE := Lib.hid (show fewI xs N = -1 by rw [fewI, h1, if_neg (by simpa using h2)])
      go_enter Try.func8, Try.ntmps8
      go_wp2_with (first | (go_at_call 24; refine (sSystemOk_any _ _ _ xs _ hl hn HR.out).mono ?_; rintro e w1 ⟨rfl, hm⟩; have hk1 := Kp.of_drewN hm; clear hm) | (go_at_call 25; refine (l01In_any _ _ _ _).mono ?_; rintro e w' ⟨rfl, rfl⟩))
      go_ret
      exact ⟨ret_int HE.out.symm, hk1⟩
  · have HE := Lib.hid (show fewI xs N = -1 by rw [fewI, if_neg (by simp [h1])])
    go_enter Try.func8, Try.ntmps8
    go_wp2_with (first | (go_at_call 24; refine (sSystemOk_any _ _ _ xs _ hl hn HR.out).mono ?_; rintro e w1 ⟨rfl, hm⟩; have hk1 := Kp.of_drewN hm; clear hm) | (go_at_call 25; refine (l01In_any _ _ _ _).mono ?_; rintro e w' ⟨rfl, rfl⟩))
    go_ret
    exact ⟨ret_int HE.out.symm, hk1⟩
theorem iFewestCoins_any (A : Option Addr) (len c : Nat) (xs : List Int) (N : Int) (w : World) (hl : xs.length = len) (hn : len ≤ 1048576) (hr : Reads w w.heap.size 1 A len (xs.map (.int .i64))) :
    Calls Try.prog 10 #[.slice A len c, .int .i64 N] w fun e w' => e = .returned (.int .i64 (fewI xs N)) ∧ Kp w w' := by
  have HR := Lib.hid hr
  clear hr
  by_cases h1 : sysB xs = true
  · by_cases h2 : inB N 0 1000 = true
    · have b := inB_true.1 h2
      obtain ⟨M, rfl⟩ : ∃ M : Nat, N = (M : Int) := ⟨N.toNat, by omega⟩
      have HE := Lib.hid (show fewI xs (M : Int) = fw xs M by rw [fewI, h1, h2]; rfl)
      have HS := Lib.hid h1
      go_enter Try.func10, Try.ntmps10
      go_upto_region 3 with (first | (go_at_call 27; refine (iSystemOk_any _ _ _ xs _ hl hn HR.out).mono ?_; rintro e w1 ⟨rfl, hm⟩; have hk1 := Kp.of_drewN hm; clear hm) | (go_at_call 28; refine (in_any _ _ _ _).mono ?_; rintro e w' ⟨rfl, rfl⟩))
      clear h1
      go_wp2_with fail
      refine (iFewest_any _ _ _ xs M _ hl HS.out (by omega) (HR.out.kp hk1)).mono ?_
      rintro e w2 ⟨v, L, rfl, ho, hrow, hk2⟩
      have HL := hrow.1
      have e1 := hrow.2 M (by omega)
      obtain ⟨g, cap, rfl, hc1, hc2, hb, hg, hcell⟩ := ho.cells (by omega)
      have cq := hcell M (by omega)
      rw [e1] at cq
      rw [HL] at hc1 ⊢
      have i1 : (M : Int) < ((M + 1 : Nat) : Int) := by omega
      obtain ⟨E, hE⟩ : ∃ E, E = fw xs M := ⟨_, rfl⟩
      rw [← hE] at cq
      have HEE := Lib.hid hE
      clear hcell hrow ho e1 hE
      go_wp2_with fail
      go_ret
      exact ⟨ret_int (by rw [HE.out, HEE.out]), hk1.trans hk2⟩
    · have HE := Lib.hid (show fewI xs N = -1 by rw [fewI, h1, if_neg (by simpa using h2)])
      go_enter Try.func10, Try.ntmps10
      go_wp2_with (first | (go_at_call 27; refine (iSystemOk_any _ _ _ xs _ hl hn HR.out).mono ?_; rintro e w1 ⟨rfl, hm⟩; have hk1 := Kp.of_drewN hm; clear hm) | (go_at_call 28; refine (in_any _ _ _ _).mono ?_; rintro e w' ⟨rfl, rfl⟩))
      go_ret
      exact ⟨ret_int HE.out.symm, hk1⟩
  · have HE := Lib.hid (show fewI xs N = -1 by rw [fewI, if_neg (by simp [h1])])
    go_enter Try.func10, Try.ntmps10
    go_wp2_with (first | (go_at_call 27; refine (iSystemOk_any _ _ _ xs _ hl hn HR.out).mono ?_; rintro e w1 ⟨rfl, hm⟩; have hk1 := Kp.of_drewN hm; clear hm) | (go_at_call 28; refine (in_any _ _ _ _).mono ?_; rintro e w' ⟨rfl, rfl⟩))
    go_ret
    exact ⟨ret_int HE.out.symm, hk1⟩
end Go.Proofs.Ytjioijpanohgoaa
