/- Plain laws on change: greedy change adds up; a bad amount needs two coins. -/
import Derived.Test.YtjioijpanohgoaaKz
import Derived.Test.YtjioijpanohgoaaBadC
set_option linter.unusedVariables false
namespace Go.Proofs.Ytjioijpanohgoaa

/-- What the first k numbers of coins of greedy change are worth. -/
def dotK (g xs : List Int) : Nat → Int
  | 0 => 0
  | k + 1 => dotK g xs k + g.getD k 0 * xs.getD k 0
theorem dot_top {xs : List Int} (h : sysB xs = true) {n : Int} (hn : 0 ≤ n) : ∀ k, k ≤ xs.length → n = (dotK (greedyL xs n) xs xs.length - dotK (greedyL xs n) xs (xs.length - k)) + grem xs n k := by
  intro k
  obtain ⟨ha, hs, hl, h1⟩ := sysB_bd h
  induction k with
  | zero => intro _; simp [grem]
  | succ k ih =>
    intro hk
    have hi := ih (by omega)
    obtain ⟨m, hm⟩ : ∃ m, xs.length - k = m + 1 := ⟨xs.length - k - 1, by omega⟩
    have e1 : xs.length - (k + 1) = m := by omega
    have e2 : xs.length - 1 - k = m := by omega
    have e3 : xs.length - 1 - m = k := by omega
    rw [hm, dotK, greedyL_getD (by omega), e3] at hi
    rw [e1, grem, e2]
    have d2 := Int.mul_ediv_add_emod (grem xs n k) (xs.getD m 0)
    rw [Int.mul_comm] at d2
    omega
theorem dot_all {xs : List Int} (h : sysB xs = true) {n : Int} (hn : 0 ≤ n) : dotK (greedyL xs n) xs xs.length = n := by
  have := dot_top h hn xs.length (Nat.le_refl _)
  rw [grem_last h hn, Nat.sub_self, dotK] at this
  omega
theorem fw_pos {xs : List Int} (h : sysB xs = true) {n : Nat} (hn : 1 ≤ n) : 1 ≤ fw xs n := by
  obtain ⟨k, hk, hkn, hke⟩ := fw_ex h hn
  have := fw_bd (sysB_bd h).1 (n - (xs.getD k 0).toNat)
  omega
/-- Greedy change of a coin is that coin. -/
theorem gcost_coin {xs : List Int} (h : sysB xs = true) {k : Nat} (hk : k < xs.length) {c : Nat} (hc : (c : Int) = xs.getD k 0) : gcost xs c = 1 := by
  obtain ⟨ha, hs, hl, h1⟩ := sysB_bd h
  have hck := allB_iff.1 ha k hk
  have r1 : ∀ j, j ≤ xs.length - 1 - k → grem xs c j = c := by
    intro j
    induction j with
    | zero => intro _; rfl
    | succ j ih =>
      intro hj
      rw [grem, ih (by omega)]
      have := asc_lt hs (xs.length - 1 - j) k (by omega) (by omega)
      exact Int.emod_eq_of_lt (by omega) (by omega)
  have r2 : ∀ j, xs.length - 1 - k < j → grem xs c j = 0 := by
    intro j
    induction j with
    | zero => intro h0; omega
    | succ j ih =>
      intro hj
      rcases Nat.lt_or_ge (xs.length - 1 - k) j with h2 | h2
      · rw [grem, ih h2, Int.zero_emod]
      · obtain rfl : j = xs.length - 1 - k := by omega
        rw [grem, r1 _ (Nat.le_refl _), show xs.length - 1 - (xs.length - 1 - k) = k by omega, ← hc, Int.emod_self]
  have s1 : ∀ i, i ≤ k → sumK (greedyL xs (c : Int)) i = 0 := by
    intro i
    induction i with
    | zero => intro _; rfl
    | succ i ih =>
      intro hi
      rw [sumK, ih (by omega), greedyL_getD (by omega), r2 _ (by omega)]
      simp
  have s2 : ∀ i, k < i → i ≤ xs.length → sumK (greedyL xs (c : Int)) i = 1 := by
    intro i
    induction i with
    | zero => intro h0; omega
    | succ i ih =>
      intro hi hil
      rw [sumK, greedyL_getD (by omega)]
      rcases Nat.lt_or_ge k i with h2 | h2
      · have := asc_lt hs i k h2 (by omega)
        rw [ih h2 (by omega), r1 _ (by omega), Int.ediv_eq_zero_of_lt (by omega) (by omega)]
        rfl
      · obtain rfl : i = k := by omega
        rw [s1 _ (Nat.le_refl _), r1 _ (Nat.le_refl _), ← hc, Int.ediv_self (by omega)]
        rfl
  exact s2 _ hk (Nat.le_refl _)
theorem fw_zero_iff {xs : List Int} (h : sysB xs = true) {n : Nat} (hn : fw xs n = 0) : n = 0 := by
  rcases Nat.eq_zero_or_pos n with h0 | h0
  · exact h0
  · have := fw_pos h h0; omega
theorem fw_two {xs : List Int} (h : sysB xs = true) {n : Nat} (hn : 1 ≤ n) (hb : gcost xs n ≠ fw xs n) : 2 ≤ fw xs n := by
  rcases (by omega : fw xs n < 2 ∨ 2 ≤ fw xs n) with h1 | h1
  · have h2 := fw_pos h hn
    obtain ⟨k, hk, hkn, hke⟩ := fw_ex h hn
    have hck := allB_iff.1 (sysB_bd h).1 k hk
    have := fw_zero_iff h (n := n - (xs.getD k 0).toNat) (by omega)
    have := gcost_coin h hk (c := n) (by omega)
    omega
  · exact h1
/-- What FnChange asks of the best and of greedy change. -/
theorem fgbM_spec (xs : List Int) (m : Nat) : (fgbM xs m = -1 ∧ ∀ n, 1 ≤ n → n ≤ m → gcost xs n = fw xs n) ∨ (∃ n : Nat, fgbM xs m = (n : Int) ∧ 1 ≤ n ∧ n ≤ m ∧ gcost xs n ≠ fw xs n) := by
  unfold fgbM
  cases h : (List.range m).find? (fun i => gcost xs (i + 1) != fw xs (i + 1)) with
  | none =>
    left
    refine ⟨rfl, fun n h1 h2 => ?_⟩
    rw [List.find?_range_eq_none] at h
    have := h (n - 1) (by omega)
    rw [show n - 1 + 1 = n by omega] at this
    simpa using this
  | some i =>
    right
    have h1 := List.mem_of_find?_eq_some h
    have h2 := List.find?_some h
    rw [List.mem_range] at h1
    exact ⟨i + 1, rfl, by omega, by omega, by simpa using h2⟩
theorem change_law {xs : List Int} (h : sysB xs = true) (n : Nat) : 0 ≤ fw xs n ∧ fw xs n ≤ gcost xs n ∧ (fgb xs < 0 → fw xs n = gcost xs n) ∧ (0 ≤ fgb xs → ∃ b : Nat, fgb xs = (b : Int) ∧ b ≤ 200 ∧ 2 ≤ fw xs b) := by
  refine ⟨(fw_bd (sysB_bd h).1 n).1, fw_le_gcost h n, fun hg => ?_, fun hg => ?_⟩
  · rw [fgb_yes h] at hg
    rcases fgbM_spec xs (mostN xs) with ⟨_, h2⟩ | ⟨b, h2, h3, _⟩
    · rcases Nat.eq_zero_or_pos n with h0 | h0
      · subst h0
        have h3 := fw_le_gcost h 0
        have h4 := gcost_max h (n := (xs.getD (xs.length - 1) 0).toNat)
        have hmx := allB_iff.1 (sysB_bd h).1 (xs.length - 1) (by have := (sysB_bd h).2.2.1; omega)
        have h5 := h4 (by omega)
        have h6 := gcost_coin h (k := xs.length - 1) (by have := (sysB_bd h).2.2.1; omega) (c := (xs.getD (xs.length - 1) 0).toNat) (by omega)
        rw [Nat.sub_self, h6] at h5
        rw [fw_zero]; omega
      · exact (kz h h2 n h0).symm
    · omega
  · rw [fgb_yes h] at hg ⊢
    rcases fgbM_spec xs (mostN xs) with ⟨h2, _⟩ | ⟨b, h2, h3, h4, h5⟩
    · omega
    · exact ⟨b, h2, by have := (mostN_bd h).2; omega, fw_two h h3 h5⟩
end Go.Proofs.Ytjioijpanohgoaa
