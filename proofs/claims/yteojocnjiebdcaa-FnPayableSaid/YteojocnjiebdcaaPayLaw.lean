/- Plain laws for FnPayable: two coins a, a + 1; what can be paid is a multiple of the common divisor; what lies above the greatest unpayable amount can be paid. -/
import Derived.Test.YteojocnjiebdcaaPayPlain
set_option linter.unusedVariables false
namespace Go.Proofs.Yteojocnjiebdcaa

def pb (a j : Nat) : Bool := decide (j % a ≤ j / a)
def pbCount (a : Nat) : Nat → Nat
  | 0 => 0
  | k + 1 => if pb a k = false then pbCount a k + 1 else pbCount a k
def pbStep (a j : Nat) : Bool := pb a j == ((decide (a ≤ j) && pb a (j - a)) || (decide (a + 1 ≤ j) && pb a (j - (a + 1))))
def pbAll (a : Nat) : Bool := decide (a < 2) || ((List.range 401).all (fun j => j == 0 || pbStep a j) && (pb a (a * (a + 1) - a - (a + 1)) == false) && (List.range 401).all (fun j => decide (j ≤ a * (a + 1) - a - (a + 1)) || pb a j) &&
  (pbCount a 401 == (a - 1) * a / 2) && (List.range 401).all (fun j => decide (a * (a + 1) - a - (a + 1) < j) || (pb a j != pb a (a * (a + 1) - a - (a + 1) - j))))
def pbChk : Bool := (List.range 20).all pbAll
theorem pbChk_true : pbChk = true := by decide +kernel
theorem pb_facts {a : Nat} (h1 : 2 ≤ a) (h2 : a ≤ 19) : (∀ j, j ≤ 400 → j ≠ 0 → pbStep a j = true) ∧ pb a (a * (a + 1) - a - (a + 1)) = false ∧ (∀ j, j ≤ 400 → a * (a + 1) - a - (a + 1) < j → pb a j = true) ∧
    pbCount a 401 = (a - 1) * a / 2 ∧ (∀ j, j ≤ a * (a + 1) - a - (a + 1) → j ≤ 400 → pb a j ≠ pb a (a * (a + 1) - a - (a + 1) - j)) := by
  have h := List.all_eq_true.1 pbChk_true a (by simp; omega)
  simp only [pbAll, Bool.or_eq_true, Bool.and_eq_true, decide_eq_true_eq, beq_iff_eq, bne_iff_ne, List.all_eq_true, List.mem_range] at h
  obtain ⟨⟨⟨⟨g1, g2⟩, g3⟩, g4⟩, g5⟩ := h.resolve_left (by omega)
  exact ⟨fun j hj h0 => (g1 j (by omega)).resolve_left h0, g2, fun j hj hl => (g3 j (by omega)).resolve_left (by omega), g4, fun j hl hj => (g5 j (by omega)).resolve_left (by omega)⟩
def two (a : Nat) : List Int := [(a : Int), (a : Int) + 1]
theorem two_ok {a : Nat} (h1 : 2 ≤ a) (h2 : a ≤ 19) : purseB (two a) = true := by
  simp only [purseB, Bool.and_eq_true]
  refine ⟨⟨allB_iff.2 fun j hj => ?_, ascB_iff.2 fun j hj => ?_⟩, rfl⟩
  · simp [two] at hj
    have : j = 0 ∨ j = 1 := by omega
    rcases this with rfl | rfl <;> simp [two] <;> omega
  · simp [two] at hj
    obtain rfl : j = 0 := by omega
    simp [two]
    omega
theorem two_gcd {a : Nat} : gcdL (two a) = 1 := by
  have h : Int.gcd (a : Int) ((a : Int) + 1) = 1 := by
    show Nat.gcd _ _ = 1
    rw [show ((a : Int) + 1).natAbs = a + 1 by omega]
    simp
  simp [gcdL, two, h]
theorem two_div {a : Nat} (h1 : 2 ≤ a) (h2 : a ≤ 19) : cdiv (two a) = 1 := by rw [cdiv, if_pos (two_ok h1 h2), two_gcd]
theorem two_py {a : Nat} (h1 : 2 ≤ a) (h2 : a ≤ 19) : ∀ j, j ≤ 400 → py (two a) j = pb a j := by
  intro j
  induction j using Nat.strongRecOn with
  | ind j ih =>
    intro hj
    cases j with
    | zero => simp [py_zero, pb]
    | succ n =>
      have hs := (pb_facts h1 h2).1 (n + 1) hj (by omega)
      simp only [pbStep, beq_iff_eq] at hs
      rw [Bool.eq_iff_iff, py_iff (purseB_bd (two_ok h1 h2)).1, hs]
      simp only [Bool.or_eq_true, Bool.and_eq_true, decide_eq_true_eq]
      constructor
      · rintro ⟨c, hc, hle, hp⟩
        simp only [two, List.mem_cons, List.mem_nil_iff, or_false] at hc
        rcases hc with rfl | rfl
        · left
          refine ⟨by omega, ?_⟩
          rw [show ((a : Int)).toNat = a by omega, ih _ (by omega) (by omega)] at hp
          exact hp
        · right
          refine ⟨by omega, ?_⟩
          rw [show ((a : Int) + 1).toNat = a + 1 by omega, ih _ (by omega) (by omega)] at hp
          exact hp
      · rintro (⟨hle, hp⟩ | ⟨hle, hp⟩)
        · refine ⟨(a : Int), by simp [two], by omega, ?_⟩
          rw [show ((a : Int)).toNat = a by omega, ih _ (by omega) (by omega)]
          exact hp
        · refine ⟨(a : Int) + 1, by simp [two], by omega, ?_⟩
          rw [show ((a : Int) + 1).toNat = a + 1 by omega, ih _ (by omega) (by omega)]
          exact hp
theorem lastF_is {bs : List Bool} {l : Nat} (hf : bs.getD l false = false) : ∀ k, l < k → (∀ j, l < j → j < k → bs.getD j false = true) → lastF bs k = (l : Int) := by
  intro k
  induction k with
  | zero => intro h _; omega
  | succ k ih =>
    intro h1 h2
    rw [lastF]
    rcases Nat.lt_or_ge l k with h | h
    · rw [h2 k h (by omega)]
      simp
      exact ih h (fun j hj hk => h2 j hj (by omega))
    · obtain rfl : l = k := by omega
      rw [hf]; simp
theorem lastF_over {bs : List Bool} : ∀ k j, j < k → lastF bs k < (j : Int) → bs.getD j false = true := by
  intro k
  induction k with
  | zero => intro j h _; omega
  | succ k ih =>
    intro j h1 h2
    rw [lastF] at h2
    split at h2
    · omega
    · rename_i h3
      rcases Nat.lt_or_ge j k with h | h
      · exact ih j h h2
      · obtain rfl : j = k := by omega
        simpa using h3
theorem two_largest {a : Nat} (h1 : 2 ≤ a) (h2 : a ≤ 19) : largestS (two a) 1000 = ((a * (a + 1) - a - (a + 1) : Nat) : Int) := by
  have hf := pb_facts h1 h2
  have hb : a * (a + 1) ≤ 19 * 20 := Nat.mul_le_mul h2 (by omega)
  rw [← largest_eq, largestS, if_pos (two_div h1 h2)]
  refine lastF_is ?_ _ (by omega) fun j hj hk => ?_
  · rw [payT_getD _ _ _ (by omega), two_py h1 h2 _ (by omega)]; exact hf.2.1
  · rw [payT_getD _ _ _ (by omega), two_py h1 h2 _ (by omega)]; exact hf.2.2.1 j (by omega) hj
theorem two_count {a : Nat} (h1 : 2 ≤ a) (h2 : a ≤ 19) : countS (two a) 1000 = (((a - 1) * a / 2 : Nat) : Int) := by
  have hf := pb_facts h1 h2
  rw [← count_eq, countS, if_pos (two_div h1 h2), ← hf.2.2.2.1]
  have : ∀ k, k ≤ 401 → countF (payT (two a) 400) k = ((pbCount a k : Nat) : Int) := by
    intro k
    induction k with
    | zero => intro _; rfl
    | succ k ih =>
      intro hk
      rw [countF, pbCount, payT_getD _ _ _ (by omega), two_py h1 h2 _ (by omega), ih (by omega)]
      split <;> simp
  exact this 401 (by omega)
theorem two_mirror {a n : Nat} (h1 : 2 ≤ a) (h2 : a ≤ 19) (hn : n ≤ a * (a + 1) - a - (a + 1)) : isPayB (two a) (n : Int) ≠ isPayB (two a) (((a * (a + 1) - a - (a + 1) - n : Nat) : Int)) := by
  have hf := pb_facts h1 h2
  have hb : a * (a + 1) ≤ 19 * 20 := Nat.mul_le_mul h2 (by omega)
  have e : ∀ j : Nat, j ≤ 400 → isPayB (two a) (j : Int) = pb a j := fun j hj => by
    rw [isPayB, two_ok h1 h2, inB_true.2 (by omega)]
    simp only [Bool.true_and, Int.toNat_natCast]
    exact two_py h1 h2 j hj
  rw [e _ (by omega), e _ (by omega)]
  exact hf.2.2.2.2 n hn (by omega)
theorem gcdL_dvd : ∀ (xs : List Int) (g : Int), (xs.foldl (fun g x => (Int.gcd g x : Int)) g ∣ g) ∧ ∀ c ∈ xs, xs.foldl (fun g x => (Int.gcd g x : Int)) g ∣ c := by
  intro xs
  induction xs with
  | nil => intro g; exact ⟨Int.dvd_refl _, fun c hc => by simp at hc⟩
  | cons x l ih =>
    intro g
    obtain ⟨h1, h2⟩ := ih (Int.gcd g x : Int)
    refine ⟨Int.dvd_trans h1 (Int.gcd_dvd_left ..), fun c hc => ?_⟩
    rcases List.mem_cons.1 hc with rfl | hc
    · exact Int.dvd_trans h1 (Int.gcd_dvd_right ..)
    · exact h2 c hc
theorem py_dvd {xs : List Int} (hp : allB 2 20 xs = true) : ∀ n : Nat, py xs n = true → gcdL xs ∣ (n : Int) := by
  intro n
  induction n using Nat.strongRecOn with
  | ind n ih =>
    intro h
    cases n with
    | zero => exact Int.dvd_zero _
    | succ n =>
      obtain ⟨c, hc, hle, hp'⟩ := (py_iff hp n).1 h
      have hb := mem_bd hp hc
      have h1 := ih _ (by omega) hp'
      have h2 := (gcdL_dvd xs 0).2 c hc
      have h3 := Int.dvd_add h1 h2
      rwa [show (((n + 1 - c.toNat : Nat) : Int)) + c = ((n + 1 : Nat) : Int) by omega] at h3
theorem py_one {xs : List Int} (hp : allB 2 20 xs = true) : py xs 1 = false := by
  rw [Bool.eq_false_iff]
  intro h
  obtain ⟨c, hc, hle, _⟩ := (py_iff hp 0).1 h
  have := mem_bd hp hc
  omega
/-- The whole of what FnPayable says of a purse. -/
theorem purse_law {xs : List Int} (h : purseB xs = true) {n : Nat} (hn : n ≤ 399) : 1 ≤ gcdL xs ∧ gcdL xs ≤ 20 ∧ cdiv xs = gcdL xs ∧ (decide (0 ≤ largestS xs 1000) = decide (gcdL xs = 1)) ∧
    (largestS xs 1000 < 0 ∨ (n : Int) ≤ largestS xs 1000 ∨ isPayB xs (n : Int) = true) ∧ (isPayB xs (n : Int) = false ∨ exB xs (n : Int) = true) ∧ exB xs (n : Int) = ((n : Int) % gcdL xs == 0) ∧ exB xs (n : Int) = exB xs (-(n : Int)) := by
  have hg := gcdL_pos h
  have hp := (purseB_bd h).1
  have hc : cdiv xs = gcdL xs := by rw [cdiv, if_pos h]
  have e1 : isPayB xs (n : Int) = py xs n := by
    rw [isPayB, h, inB_true.2 (by omega)]
    simp only [Bool.true_and, Int.toNat_natCast]
    rfl
  have e2 : exB xs (n : Int) = ((n : Int) % gcdL xs == 0) := by
    rw [exB, h, inB_true.2 (by omega), Int.tmod_eq_emod_of_nonneg (by omega)]
    simp
  have e3 : exB xs (-(n : Int)) = ((n : Int) % gcdL xs == 0) := by
    rw [exB, h, inB_true.2 (by omega), Int.neg_tmod, Int.tmod_eq_emod_of_nonneg (by omega)]
    rw [Bool.eq_iff_iff]; simp
  refine ⟨hg.1, hg.2, hc, ?_, ?_, ?_, e2, by rw [e2, e3]⟩
  · rw [largestS, hc]
    by_cases h1 : gcdL xs = 1
    · rw [if_pos h1]
      have : 0 ≤ lastF (payT xs 1000) (1000 + 1) := by
        have hb := lastF_bd (payT xs 1000) (1000 + 1)
        rcases (by omega : lastF (payT xs 1000) (1000 + 1) < 0 ∨ 0 ≤ lastF (payT xs 1000) (1000 + 1)) with h2 | h2
        · have := lastF_over (1000 + 1) 1 (by omega) (by omega : lastF (payT xs 1000) (1000 + 1) < ((1 : Nat) : Int))
          rw [payT_getD _ _ _ (by omega), py_one hp] at this
          cases this
        · exact h2
      simp [this, h1]
    · rw [if_neg h1]
      simp [h1]
  · rw [largestS, hc]
    by_cases h1 : gcdL xs = 1
    · rw [if_pos h1]
      rcases (by omega : lastF (payT xs 1000) (1000 + 1) < (n : Int) ∨ (n : Int) ≤ lastF (payT xs 1000) (1000 + 1)) with h2 | h2
      · right; right
        have := lastF_over (1000 + 1) n (by omega) h2
        rw [payT_getD _ _ _ (by omega)] at this
        rw [e1]; exact this
      · right; left; exact h2
    · rw [if_neg h1]; left; omega
  · rw [e1, e2]
    cases hpy : py xs n with
    | false => left; rfl
    | true =>
      right
      have := Int.emod_eq_zero_of_dvd (py_dvd hp n hpy)
      simp [this]
end Go.Proofs.Yteojocnjiebdcaa
