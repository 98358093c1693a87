/- Plain law: if greedy change is best up to the sum of the two greatest coins, it always is. No program in sight but for the words of the contracts. -/
import Derived.Test.YtjioijpanohgoaaSumG
set_option linter.unusedVariables false
namespace Go.Proofs.Ytjioijpanohgoaa

theorem fwG_le {f : Nat → Int} {xs : List Int} {a : Nat} {k : Nat} (hk : xs.getD k 0 ≤ (a : Int)) : ∀ n, k < n → fwG f xs a n ≤ f (a - (xs.getD k 0).toNat) + 1 := by
  intro n
  induction n with
  | zero => intro h; omega
  | succ n ih =>
    intro h
    rw [fwG]
    rcases Nat.lt_or_ge k n with h1 | h1
    · have := ih h1
      split <;> omega
    · obtain rfl : k = n := by omega
      rw [if_pos hk]; omega
theorem fwG_ex {f : Nat → Int} {xs : List Int} {a : Nat} : ∀ n, fwG f xs a n = f (a - 1) + 1 ∨ ∃ k, k < n ∧ xs.getD k 0 ≤ (a : Int) ∧ fwG f xs a n = f (a - (xs.getD k 0).toNat) + 1 := by
  intro n
  induction n with
  | zero => exact .inl rfl
  | succ n ih =>
    have up : (fwG f xs a n = f (a - 1) + 1 ∨ ∃ k, k < n + 1 ∧ xs.getD k 0 ≤ (a : Int) ∧ fwG f xs a n = f (a - (xs.getD k 0).toNat) + 1) := by
      rcases ih with h | ⟨k, h1, h2, h3⟩
      · exact .inl h
      · exact .inr ⟨k, by omega, h2, h3⟩
    rw [fwG]
    split
    · rename_i hc
      rcases Int.le_total (fwG f xs a n) (f (a - (xs.getD n 0).toNat) + 1) with h | h
      · rw [Int.min_eq_left h]; exact up
      · rw [Int.min_eq_right h]; exact .inr ⟨n, by omega, hc, rfl⟩
    · exact up
theorem fw_le {xs : List Int} (h : sysB xs = true) {n k : Nat} (hk : k < xs.length) (hn : xs.getD k 0 ≤ (n : Int)) : fw xs n ≤ fw xs (n - (xs.getD k 0).toNat) + 1 := by
  obtain ⟨ha, hs, hl, h1⟩ := sysB_bd h
  have hc := allB_iff.1 ha k hk
  obtain ⟨m, rfl⟩ : ∃ m, n = m + 1 := ⟨n - 1, by omega⟩
  rw [fw_succ ha]
  exact fwG_le hn _ hk
theorem fw_ex {xs : List Int} (h : sysB xs = true) {n : Nat} (hn : 1 ≤ n) : ∃ k, k < xs.length ∧ xs.getD k 0 ≤ (n : Int) ∧ fw xs n = fw xs (n - (xs.getD k 0).toNat) + 1 := by
  obtain ⟨ha, hs, hl, h1⟩ := sysB_bd h
  obtain ⟨m, rfl⟩ : ∃ m, n = m + 1 := ⟨n - 1, by omega⟩
  rw [fw_succ ha]
  rcases fwG_ex (f := fw xs) (xs := xs) (a := m + 1) xs.length with e | ⟨k, h2, h3, h4⟩
  · exact ⟨0, by omega, by omega, by rw [e, h1]; rfl⟩
  · exact ⟨k, h2, h3, h4⟩
/-- Many times the same coin. -/
theorem fw_mul {xs : List Int} (h : sysB xs = true) {k : Nat} (hk : k < xs.length) (i : Nat) : ∀ r : Nat, fw xs (r + i * (xs.getD k 0).toNat) ≤ fw xs r + i := by
  induction i with
  | zero => intro r; simp
  | succ i ih =>
    intro r
    have hc := allB_iff.1 (sysB_bd h).1 k hk
    have h1 := fw_le h (n := r + (i + 1) * (xs.getD k 0).toNat) hk (by rw [Nat.succ_mul]; omega)
    have h2 := ih r
    rw [show r + (i + 1) * (xs.getD k 0).toNat - (xs.getD k 0).toNat = r + i * (xs.getD k 0).toNat by rw [Nat.succ_mul]; omega] at h1
    omega
theorem grem_last {xs : List Int} (h : sysB xs = true) {n : Int} (hn : 0 ≤ n) : grem xs n xs.length = 0 := by
  obtain ⟨ha, hs, hl, h1⟩ := sysB_bd h
  obtain ⟨m, hm⟩ : ∃ m, xs.length = m + 1 := ⟨xs.length - 1, by omega⟩
  rw [hm, grem, hm, show m + 1 - 1 - m = 0 by omega, h1]
  exact Int.emod_one _
theorem sumK_congr {L M : List Int} (k : Nat) (h : ∀ i, i < k → L.getD i 0 = M.getD i 0) : sumK L k = sumK M k := by
  induction k with
  | zero => rfl
  | succ k ih => rw [sumK, sumK, ih (fun i hi => h i (by omega)), h k (by omega)]
/-- Greedy change is never better than the best. -/
theorem fw_top {xs : List Int} (h : sysB xs = true) (n : Nat) : ∀ k, k ≤ xs.length → fw xs n ≤ (sumK (greedyL xs n) xs.length - sumK (greedyL xs n) (xs.length - k)) + fw xs (grem xs n k).toNat := by
  intro k
  obtain ⟨ha, hs, hl, h1⟩ := sysB_bd h
  induction k with
  | zero => intro _; simp [grem]
  | succ k ih =>
    intro hk
    have hi := ih (by omega)
    obtain ⟨m, hm⟩ : ∃ m, xs.length - k = m + 1 := ⟨xs.length - k - 1, by omega⟩
    have e1 : xs.length - (k + 1) = m := by omega
    have e2 : xs.length - 1 - k = m := by omega
    have e3 : xs.length - 1 - m = k := by omega
    have hc := allB_iff.1 ha m (by omega)
    have hg := grem_bd ha (n := (n : Int)) (by omega) k (by omega)
    rw [hm, sumK, greedyL_getD (by omega), e3] at hi
    rw [e1, grem, e2]
    obtain ⟨g, hgg⟩ : ∃ g, g = grem xs n k := ⟨_, rfl⟩
    obtain ⟨c, hcc⟩ : ∃ c, c = xs.getD m 0 := ⟨_, rfl⟩
    rw [← hgg] at hi hg ⊢
    rw [← hcc] at hi hc ⊢
    have d1 := Int.emod_nonneg g (show c ≠ 0 by omega)
    have d2 := Int.mul_ediv_add_emod g c
    have d3 := Int.ediv_nonneg hg.1 (show 0 ≤ c by omega)
    have hf := fw_mul h (k := m) (by omega) (g / c).toNat (g % c).toNat
    rw [← hcc] at hf
    have e4 : (g % c).toNat + (g / c).toNat * c.toNat = g.toNat := by
      have : ((g % c).toNat + (g / c).toNat * c.toNat : Int) = (g.toNat : Int) := by
        rw [Int.toNat_of_nonneg d1, Int.toNat_of_nonneg d3, Int.toNat_of_nonneg (by omega), Int.toNat_of_nonneg hg.1, Int.mul_comm]
        omega
      exact_mod_cast this
    rw [e4] at hf
    omega
theorem fw_le_gcost {xs : List Int} (h : sysB xs = true) (n : Nat) : fw xs n ≤ gcost xs n := by
  have := fw_top h n xs.length (Nat.le_refl _)
  rw [grem_last h (by omega), Nat.sub_self, sumK] at this
  rw [gcost]
  have z : fw xs (0 : Int).toNat = 0 := rfl
  omega
theorem grem_step {xs : List Int} {n m : Int} (h : grem xs n 1 = grem xs m 1) : ∀ j, 1 ≤ j → grem xs n j = grem xs m j := by
  intro j
  induction j with
  | zero => intro h0; omega
  | succ j ih =>
    intro _
    rcases Nat.eq_zero_or_pos j with h0 | h0
    · subst h0; exact h
    · rw [grem, grem, ih h0]
/-- One greatest coin less. -/
theorem gcost_max {xs : List Int} (h : sysB xs = true) {n : Nat} (hn : xs.getD (xs.length - 1) 0 ≤ (n : Int)) : gcost xs n = gcost xs (n - (xs.getD (xs.length - 1) 0).toNat) + 1 := by
  obtain ⟨ha, hs, hl, h1⟩ := sysB_bd h
  have hc := allB_iff.1 ha (xs.length - 1) (by omega)
  obtain ⟨m, hm⟩ : ∃ m, xs.length = m + 1 := ⟨xs.length - 1, by omega⟩
  rw [hm, Nat.add_sub_cancel] at hn hc ⊢
  obtain ⟨c, hcc⟩ : ∃ c : Nat, (c : Int) = xs.getD m 0 := ⟨(xs.getD m 0).toNat, by omega⟩
  rw [← hcc] at hn hc ⊢
  rw [Int.toNat_natCast]
  have e0 : ((n - c : Nat) : Int) = (n : Int) - c := by omega
  have g1 : grem xs n 1 = grem xs ((n - c : Nat) : Int) 1 := by
    rw [grem, grem, grem, grem, hm, Nat.add_sub_cancel, Nat.sub_zero, ← hcc, e0, Int.sub_emod_right]
  rw [gcost, gcost, hm, sumK, sumK]
  have e1 : sumK (greedyL xs (n : Int)) m = sumK (greedyL xs ((n - c : Nat) : Int)) m := by
    refine sumK_congr m fun i hi => ?_
    rw [greedyL_getD (by omega), greedyL_getD (by omega), grem_step g1 _ (by omega)]
  rw [e1, greedyL_getD (by omega), greedyL_getD (by omega), hm, Nat.add_sub_cancel, Nat.sub_self, grem, grem, ← hcc, e0]
  have e2 : ((n : Int) - c) / c = (n : Int) / c - 1 := by
    rw [Int.sub_ediv_of_dvd _ (Int.dvd_refl _), Int.ediv_self (by omega)]
  rw [e2]
  omega
/-- Kozen and Zaks: good up to the sum of the two greatest coins, good for ever. -/
theorem kz {xs : List Int} (h : sysB xs = true) (hg : ∀ n, 1 ≤ n → n ≤ mostN xs → gcost xs n = fw xs n) : ∀ n, 1 ≤ n → gcost xs n = fw xs n := by
  obtain ⟨ha, hs, hl, h1⟩ := sysB_bd h
  intro n
  induction n using Nat.strongRecOn with
  | _ n ih =>
    intro hn
    rcases Nat.lt_or_ge (mostN xs) n with hm | hm
    · have hz : gcost xs 0 = fw xs 0 := by
        have g0 : ∀ j, grem xs 0 j = 0 := by
          intro j
          induction j with
          | zero => rfl
          | succ j ihj => rw [grem, ihj, Int.zero_emod]
        rw [gcost, fw_zero]
        have : ∀ k, k ≤ xs.length → sumK (greedyL xs ((0 : Nat) : Int)) k = 0 := by
          intro k
          induction k with
          | zero => intro _; rfl
          | succ k ihk =>
            intro hk
            rw [sumK, ihk (by omega), greedyL_getD (by omega)]
            have := g0 (xs.length - 1 - k)
            simp only [Int.natCast_zero] at *
            rw [this]; simp
        exact this _ (Nat.le_refl _)
      have IH : ∀ m, m < n → gcost xs m = fw xs m := by
        intro m hmn
        rcases Nat.eq_zero_or_pos m with h0 | h0
        · subst h0; exact hz
        · exact ih m hmn h0
      have hmx := allB_iff.1 ha (xs.length - 1) (by omega)
      have hlow : fw xs n ≤ gcost xs n := fw_le_gcost h n
      obtain ⟨k, hk, hkn, hke⟩ := fw_ex h hn
      have hck := allB_iff.1 ha k hk
      obtain ⟨C, hC⟩ : ∃ C : Nat, (C : Int) = xs.getD (xs.length - 1) 0 := ⟨(xs.getD (xs.length - 1) 0).toNat, by omega⟩
      obtain ⟨c, hc⟩ : ∃ c : Nat, (c : Int) = xs.getD k 0 := ⟨(xs.getD k 0).toNat, by omega⟩
      rw [← hc] at hck hkn hke
      rw [← hC] at hmx
      rw [Int.toNat_natCast] at hke
      rcases Nat.lt_or_ge k (xs.length - 1) with hk1 | hk1
      · -- a lesser coin is used
        have hlen : xs.length ≠ 1 := by omega
        have hmost : mostN xs = (xs.getD (xs.length - 1) 0 + xs.getD (xs.length - 2) 0).toNat := by rw [mostN, if_neg hlen]
        have h2 : xs.getD k 0 ≤ xs.getD (xs.length - 2) 0 := by
          rcases Nat.lt_or_ge k (xs.length - 2) with hq | hq
          · exact Int.le_of_lt (asc_lt hs _ _ hq (by omega))
          · obtain rfl : k = xs.length - 2 := by omega
            exact Int.le_refl _
        have hCn : C ≤ n := by omega
        have hcn : C + c ≤ n := by omega
        have g1 := gcost_max h (n := n) (by omega)
        have g2 := gcost_max h (n := n - c) (by omega)
        rw [← hC, Int.toNat_natCast] at g1 g2
        have i1 := IH (n - C) (by omega)
        have i2 := IH (n - c) (by omega)
        have i3 := IH (n - c - C) (by omega)
        have f1 := fw_le h (n := n - C) hk (by omega)
        rw [← hc, Int.toNat_natCast, show n - C - c = n - c - C by omega] at f1
        omega
      · obtain rfl : k = xs.length - 1 := by omega
        have e : c = C := by omega
        subst e
        have g1 := gcost_max h (n := n) (by omega)
        rw [← hC, Int.toNat_natCast] at g1
        have i1 := IH (n - c) (by omega)
        omega
    · exact hg n hn hm
end Go.Proofs.Ytjioijpanohgoaa
