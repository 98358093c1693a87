/- What the laws read out of the code. -/
import Derived.Test.YtgkjckhjmphoaaaInts
import Derived.Deep.DeepCutAuto
set_option linter.unusedVariables false
namespace Go.Proofs.Ytgkjckhjmphoaaa
open Go.RowKit
theorem big_any (A : Option Addr) (n c : Nat) (w : World) : Calls Try.prog 25 #[.slice A n c] w fun e w' => e = .returned (.bool (decide ((1048576 : Int) < (n : Int)))) ∧ w = w' := by
  go_enter Try.func25, Try.ntmps25
  go_wp2
  go_ret
  exact ⟨rfl, rfl⟩
theorem at_any (A : Option Addr) (n c : Nat) (xs : List Int) (i : Int) (w : World) (hi : 0 ≤ i ∧ i ≤ 1000) (hl : xs.length = n) (hn : n ≤ 1048576) (hr : Reads w w.heap.size 1 A n (xs.map (.int .u8))) (hx : ∀ x ∈ xs, 0 ≤ x ∧ x ≤ 255) :
    Calls Try.prog 26 #[.slice A n c, .int .i64 i] w fun e w' => ∃ v : Int, e = .returned (.int .i64 v) ∧ 0 ≤ v ∧ v ≤ 255 ∧ Kp w w' := by
  by_cases h0 : n = 0
  · have t0 : ((n : Int) == 0) = true := by simp; omega
    clear h0
    go_enter Try.func26, Try.ntmps26
    go_wp2
    go_ret
    exact ⟨_, rfl, by omega, by omega, Kp.refl w⟩
  · have t0 : ((n : Int) == 0) = false := by simp; omega
    have e1 : (i * 5 + 1).tmod (n : Int) = (i * 5 + 1) % (n : Int) := Int.tmod_eq_emod_of_nonneg (by omega)
    have e2 := Int.emod_nonneg (i * 5 + 1) (show (n : Int) ≠ 0 by omega)
    have e3 := Int.emod_lt_of_pos (i * 5 + 1) (show (0 : Int) < (n : Int) by omega)
    obtain ⟨k, hk⟩ : ∃ k : Nat, (k : Int) = (i * 5 + 1) % (n : Int) := ⟨((i * 5 + 1) % (n : Int)).toNat, by omega⟩
    rw [← hk] at e1 e2 e3
    obtain ⟨b, off, u, rfl, hb, hu, hc⟩ := hr.cellOf (k := k) (by omega)
    have cx := hc k _ (by rw [List.getElem?_map, List.getElem?_eq_getElem (by omega)]; rfl)
    have x0 := hx (xs[k]'(by omega)) (List.getElem_mem _)
    obtain ⟨x, ex⟩ : ∃ x, x = xs[k]'(by omega) := ⟨_, rfl⟩
    rw [← ex] at cx x0
    clear ex hc hu hr hx hk h0
    go_enter Try.func26, Try.ntmps26
    go_wp2
    go_ret
    exact ⟨_, rfl, x0.1, x0.2, Kp.refl w⟩
end Go.Proofs.Ytgkjckhjmphoaaa
