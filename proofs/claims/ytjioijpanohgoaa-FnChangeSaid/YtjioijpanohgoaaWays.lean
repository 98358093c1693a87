/- CountChange: the plain words, and the contract of the program's. -/
import Derived.Test.YtjioijpanohgoaaFewC
set_option linter.unusedVariables false
namespace Go.Proofs.Ytjioijpanohgoaa
open Go.RowKit

def wS (f : Nat → Int) (c : Nat) : Nat → Nat → Int
  | 0, a => f a
  | i + 1, a => f a + (if c ≤ a then wS f c i (a - c) else 0)
def wStep (f : Nat → Int) (c : Nat) (a : Nat) : Int := wS f c a a
theorem wS_fuel {f : Nat → Int} {c : Nat} (hc : 1 ≤ c) : ∀ i a, a ≤ i → wS f c i a = wStep f c a := by
  intro i
  induction i using Nat.strongRecOn with
  | _ i ih =>
    intro a ha
    cases i with
    | zero => obtain rfl : a = 0 := by omega
              rfl
    | succ i =>
      cases a with
      | zero => rw [wS, if_neg (by omega), wStep, wS]; omega
      | succ a =>
        rw [wStep, wS, wS]
        by_cases h : c ≤ a + 1
        · rw [if_pos h, if_pos h, ih i (by omega) _ (by omega)]
          rcases Nat.lt_or_ge a i with h1 | h1
          · rw [ih a (by omega) _ (by omega)]
          · obtain rfl : a = i := by omega
            rw [ih a (by omega) _ (by omega)]
        · rw [if_neg h, if_neg h]
theorem wStep_eq {f : Nat → Int} {c : Nat} (hc : 1 ≤ c) (a : Nat) : wStep f c a = f a + (if c ≤ a then wStep f c (a - c) else 0) := by
  rw [← wS_fuel hc (a + 1) a (by omega), wS]
  by_cases h : c ≤ a
  · rw [if_pos h, if_pos h, wS_fuel hc a _ (by omega)]
  · rw [if_neg h, if_neg h]
/-- The ways to pay an amount with the first j coins. -/
def wF (xs : List Int) : Nat → Nat → Int
  | 0 => fun a => if a = 0 then 1 else 0
  | j + 1 => wStep (wF xs j) (xs.getD j 0).toNat
theorem wS_bd {f : Nat → Int} {c : Nat} {B : Int} (hB : 0 ≤ B) : ∀ i a, (∀ b, b ≤ a → 0 ≤ f b ∧ f b ≤ B) → 0 ≤ wS f c i a ∧ wS f c i a ≤ ((i : Int) + 1) * B := by
  intro i
  induction i with
  | zero => intro a h; have := h a (Nat.le_refl _); rw [wS]; omega
  | succ i ih =>
    intro a h
    have h1 := h a (Nat.le_refl _)
    have h2 := ih (a - c) (fun b hb => h b (by omega))
    have e : (((i + 1 : Nat) : Int) + 1) * B = ((i : Int) + 1) * B + B := by rw [Int.natCast_add, Int.add_mul]; simp [Int.add_mul]
    have p : 0 ≤ ((i : Int) + 1) * B := Int.mul_nonneg (by omega) hB
    rw [wS, e]
    split <;> omega
theorem wF_bd (xs : List Int) : ∀ j a, a ≤ 200 → 0 ≤ wF xs j a ∧ wF xs j a ≤ 201 ^ j := by
  intro j
  induction j with
  | zero =>
    intro a _
    show 0 ≤ (if a = 0 then (1 : Int) else 0) ∧ (if a = 0 then (1 : Int) else 0) ≤ 201 ^ 0
    split <;> simp
  | succ j ih =>
    intro a ha
    have p : (0 : Int) ≤ 201 ^ j := Int.pow_nonneg (by omega)
    have h := wS_bd (c := (xs.getD j 0).toNat) p a a (fun b hb => ih b (by omega))
    rw [wF, wStep, Int.pow_succ]
    have : ((a : Int) + 1) * 201 ^ j ≤ 201 ^ j * 201 := by
      rw [Int.mul_comm]
      exact Int.mul_le_mul_of_nonneg_left (by omega) p
    omega
theorem wF_six (xs : List Int) {j a : Nat} (hj : j ≤ 6) (ha : a ≤ 200) : 0 ≤ wF xs j a ∧ wF xs j a ≤ 100000000000000 := by
  have h := wF_bd xs j a ha
  have : (201 : Int) ^ j ≤ 100000000000000 := by
    have : j = 0 ∨ j = 1 ∨ j = 2 ∨ j = 3 ∨ j = 4 ∨ j = 5 ∨ j = 6 := by omega
    rcases this with rfl | rfl | rfl | rfl | rfl | rfl | rfl <;> decide
  omega
theorem wF_low {xs : List Int} {j a : Nat} (hc : 1 ≤ (xs.getD j 0).toNat) (ha : a < (xs.getD j 0).toNat) : wF xs (j + 1) a = wF xs j a := by
  rw [wF, wStep_eq hc, if_neg (by omega)]; omega
theorem wF_step {xs : List Int} {j a : Nat} (hc : 1 ≤ (xs.getD j 0).toNat) (ha : (xs.getD j 0).toNat ≤ a) : wF xs (j + 1) a = wF xs j a + wF xs (j + 1) (a - (xs.getD j 0).toNat) := by
  rw [wF, wStep_eq hc, if_pos ha]
theorem wF_congr {xs ys : List Int} : ∀ j, (∀ i, i < j → xs.getD i 0 = ys.getD i 0) → wF xs j = wF ys j := by
  intro j
  induction j with
  | zero => intro _; rfl
  | succ j ih => intro h; rw [wF, wF, ih (fun i hi => h i (by omega)), h j (by omega)]
theorem wF_pos {xs : List Int} (h1 : xs.getD 0 0 = 1) : ∀ j a, a ≤ 200 → 1 ≤ wF xs (j + 1) a := by
  intro j
  induction j with
  | zero =>
    intro a
    induction a with
    | zero => intro _; rw [wF_low (by rw [h1]; decide) (by rw [h1]; decide)]; exact Int.le_refl 1
    | succ a ih =>
      intro ha
      rw [wF_step (by rw [h1]; decide) (by rw [h1]; show 1 ≤ a + 1; omega), h1]
      have := ih (by omega)
      have h0 := (wF_bd xs 0 (a + 1) (by omega)).1
      show 1 ≤ wF xs 0 (a + 1) + wF xs 1 (a + 1 - 1)
      rw [Nat.add_sub_cancel]
      have := ih (by omega)
      simp only [Nat.zero_add] at this
      omega
  | succ j ih =>
    intro a ha
    have h2 := ih a ha
    rcases Nat.eq_zero_or_pos (xs.getD (j + 1) 0).toNat with h0 | h0
    · have : wF xs (j + 1 + 1) a = wStep (wF xs (j + 1)) 0 a := by rw [wF, h0]
      rw [this, wStep]
      cases a with
      | zero => exact h2
      | succ a =>
        rw [wS, if_pos (by omega)]
        have := (wS_bd (f := wF xs (j + 1)) (c := 0) (B := 201 ^ (j + 1)) (Int.pow_nonneg (by omega)) a (a + 1 - 0) (fun b hb => wF_bd xs (j + 1) b (by omega))).1
        omega
    · rcases Nat.lt_or_ge a (xs.getD (j + 1) 0).toNat with h3 | h3
      · rw [wF_low h0 h3]; exact h2
      · rw [wF_step h0 h3]
        have := (wF_bd xs (j + 1 + 1) (a - (xs.getD (j + 1) 0).toNat) (by omega)).1
        omega
def cntI (xs : List Int) (n : Int) : Int := if (sysB xs && inB n 0 200) = true then wF xs xs.length n.toNat else 0
end Go.Proofs.Ytjioijpanohgoaa
