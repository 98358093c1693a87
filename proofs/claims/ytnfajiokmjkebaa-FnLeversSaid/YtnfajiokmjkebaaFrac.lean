/- Contracts of the functions on fractions, of the program and of the reference. Each states the bounds under which it is proved. -/
import Derived.Test.YtnfajiokmjkebaaBase
set_option linter.unusedVariables false
namespace Go.Proofs.Ytnfajiokmjkebaa
open Go.RowKit

def fracB (t b : Int) : Bool := inB t (-1000000) 1000000 && inB b 1 1000000 && ((Int.gcd t b : Int) == 1)
theorem iFracOk_any (t b : Int) (w : World) : Calls Try.prog 56 #[.agg #[.int .i64 t, .int .i64 b]] w fun e w' => e = .returned (.bool (fracB t b)) ∧ Kp w w' := by
  go_enter Try.func56, Try.ntmps56
  by_cases h1 : inB t (-1000000) 1000000 = true
  · by_cases h2 : inB b 1 1000000 = true
    · have b1 := inB_true.1 h1
      have b2 := inB_true.1 h2
      go_wp2_with (first | (go_at_call 36; refine (in_any _ _ _ _).mono ?_; rintro e w' ⟨rfl, rfl⟩) | (go_at_call 55; refine (gcd_any _ _ _ (by omega) (by omega)).mono ?_; rintro e w' ⟨rfl, n, rfl⟩))
      go_ret
      exact ⟨by simp [fracB, h1, h2], by (repeat (with_reducible first | exact Kp.refl _ | assumption | refine Kp.drew ?_ | refine Kp.drewN ?_ _ | refine Kp.alloc ?_ _ | refine Kp.setCell ?_ (by first | (simp; done) | (simp; omega) | (dsimp only; omega)) _ | refine Kp.trans ?_ (by assumption)))⟩
    · go_wp2_with (go_at_call 36; refine (in_any _ _ _ _).mono ?_; rintro e w' ⟨rfl, rfl⟩)
      go_ret
      exact ⟨by simp [fracB, h1, h2], by (repeat (with_reducible first | exact Kp.refl _ | assumption | refine Kp.drew ?_ | refine Kp.drewN ?_ _ | refine Kp.alloc ?_ _ | refine Kp.setCell ?_ (by first | (simp; done) | (simp; omega) | (dsimp only; omega)) _ | refine Kp.trans ?_ (by assumption)))⟩
  · go_wp2_with (go_at_call 36; refine (in_any _ _ _ _).mono ?_; rintro e w' ⟨rfl, rfl⟩)
    go_ret
    exact ⟨by simp [fracB, h1], by (repeat (with_reducible first | exact Kp.refl _ | assumption | refine Kp.drew ?_ | refine Kp.drewN ?_ _ | refine Kp.alloc ?_ _ | refine Kp.setCell ?_ (by first | (simp; done) | (simp; omega) | (dsimp only; omega)) _ | refine Kp.trans ?_ (by assumption)))⟩
theorem sFracOk_any (t b : Int) (w : World) : Calls Try.prog 47 #[.agg #[.int .i64 t, .int .i64 b]] w fun e w' => e = .returned (.bool (fracB t b)) ∧ Kp w w' := by
  go_enter Try.func47, Try.ntmps47
  by_cases h1 : inB t (-1000000) 1000000 = true
  · by_cases h2 : inB b 1 1000000 = true
    · have b1 := inB_true.1 h1
      have b2 := inB_true.1 h2
      go_wp2_with (first | (go_at_call 34; refine (l01In_any _ _ _ _).mono ?_; rintro e w' ⟨rfl, rfl⟩) | (go_at_call 46; refine (l02Gcd_any _ _ _ (by omega) (by omega)).mono ?_; rintro e w' ⟨rfl, n, rfl⟩))
      go_ret
      exact ⟨by simp [fracB, h1, h2], by (repeat (with_reducible first | exact Kp.refl _ | assumption | refine Kp.drew ?_ | refine Kp.drewN ?_ _ | refine Kp.alloc ?_ _ | refine Kp.setCell ?_ (by first | (simp; done) | (simp; omega) | (dsimp only; omega)) _ | refine Kp.trans ?_ (by assumption)))⟩
    · go_wp2_with (go_at_call 34; refine (l01In_any _ _ _ _).mono ?_; rintro e w' ⟨rfl, rfl⟩)
      go_ret
      exact ⟨by simp [fracB, h1, h2], by (repeat (with_reducible first | exact Kp.refl _ | assumption | refine Kp.drew ?_ | refine Kp.drewN ?_ _ | refine Kp.alloc ?_ _ | refine Kp.setCell ?_ (by first | (simp; done) | (simp; omega) | (dsimp only; omega)) _ | refine Kp.trans ?_ (by assumption)))⟩
  · go_wp2_with (go_at_call 34; refine (l01In_any _ _ _ _).mono ?_; rintro e w' ⟨rfl, rfl⟩)
    go_ret
    exact ⟨by simp [fracB, h1], by (repeat (with_reducible first | exact Kp.refl _ | assumption | refine Kp.drew ?_ | refine Kp.drewN ?_ _ | refine Kp.alloc ?_ _ | refine Kp.setCell ?_ (by first | (simp; done) | (simp; omega) | (dsimp only; omega)) _ | refine Kp.trans ?_ (by assumption)))⟩

/-- The fraction of a top and a bottom, in lowest terms: what both programs come to. -/
def redT (a b : Int) : Int := if b < 0 then -(a.tdiv (Int.gcd a b)) else a.tdiv (Int.gcd a b)
def redB (a b : Int) : Int := if b < 0 then -(b.tdiv (Int.gcd a b)) else b.tdiv (Int.gcd a b)
def mkB (a b : Int) : Bool := fracB (redT a b) (redB a b)
def mkT (a b : Int) : Int := if mkB a b = true then redT a b else 0
def mkU (a b : Int) : Int := if mkB a b = true then redB a b else 0
theorem gcd_le_right (a b : Int) (hb : b ≠ 0) : 1 ≤ (Int.gcd a b : Int) := by
  have : Int.gcd a b ≠ 0 := fun h => hb (Int.gcd_eq_zero_iff.1 h).2
  omega
theorem tdiv_bd (a g : Int) (hg : 1 ≤ g) (B : Int) (ha : -B ≤ a ∧ a ≤ B) : -B ≤ a.tdiv g ∧ a.tdiv g ≤ B := by
  rcases Int.le_total 0 a with h | h
  · rw [Int.tdiv_eq_ediv_of_nonneg h]
    have h1 := Int.ediv_nonneg h (by omega : 0 ≤ g)
    have h2 := Int.ediv_le_self g h
    omega
  · have e : a.tdiv g = -((-a).tdiv g) := by rw [Int.neg_tdiv]; omega
    rw [e, Int.tdiv_eq_ediv_of_nonneg (by omega)]
    have h1 := Int.ediv_nonneg (by omega : 0 ≤ -a) (by omega : 0 ≤ g)
    have h2 := Int.ediv_le_self g (by omega : 0 ≤ -a)
    omega
theorem iReduced_any (a b : Int) (w : World) (ha : -1000000000000000000 ≤ a ∧ a ≤ 1000000000000000000) (hb : -1000000000000000000 ≤ b ∧ b ≤ 1000000000000000000) (h0 : b ≠ 0) :
    Calls Try.prog 48 #[.int .i64 a, .int .i64 b] w fun e w' => e = .returned (.tuple #[.agg #[.int .i64 (mkT a b), .int .i64 (mkU a b)], .bool (mkB a b)]) ∧ Kp w w' := by
  have hg := gcd_le_right a b h0
  have q1 := tdiv_bd a _ hg _ ha
  have q2 := tdiv_bd b _ hg _ hb
  obtain ⟨Q1, e1⟩ : ∃ Q, Q = redT a b := ⟨_, rfl⟩
  obtain ⟨Q2, e2⟩ : ∃ Q, Q = redB a b := ⟨_, rfl⟩
  have MB : mkB a b = fracB Q1 Q2 := by rw [mkB, e1, e2]
  have MT : mkT a b = if fracB Q1 Q2 = true then Q1 else 0 := by rw [mkT, MB, e1]
  have MU : mkU a b = if fracB Q1 Q2 = true then Q2 else 0 := by rw [mkU, MB, e2]
  have HB := Lib.hid MB
  have HT := Lib.hid MT
  have HU := Lib.hid MU
  clear h0 MB MT MU
  rcases Int.lt_or_le b 0 with hn | hn
  · have k1 : IntKind.i64.wrap (-(a.tdiv (Int.gcd a b))) = Q1 := by rw [e1, redT, if_pos hn]; exact IntWalk.i64_in _ (by omega)
    have k2 : IntKind.i64.wrap (-(b.tdiv (Int.gcd a b))) = Q2 := by rw [e2, redB, if_pos hn]; exact IntWalk.i64_in _ (by omega)
    clear e1 e2
    go_enter Try.func48, Try.ntmps48
    go_wp2_with (go_at_call 55; refine (gcd_any _ _ _ (by omega) (by omega)).mono ?_; rintro e w' ⟨rfl, n, rfl⟩)
    go_region
    clear k1 k2
    by_cases hm : fracB Q1 Q2 = true
    all_goals
      go_wp2_with (go_at_call 56; refine (iFracOk_any _ _ _).mono ?_; rintro e w1 ⟨rfl, hk⟩; obtain ⟨hc, hf⟩ := hk.cells; have hz := hk.size)
      refine bodyPost_ret (v := .tuple #[.agg #[.int .i64 (mkT a b), .int .i64 (mkU a b)], .bool (mkB a b)]) ?_ rfl ⟨rfl, by (repeat (with_reducible first | exact Kp.refl _ | assumption | refine Kp.drew ?_ | refine Kp.drewN ?_ _ | refine Kp.alloc ?_ _ | refine Kp.setCell ?_ (by first | (simp; done) | (simp; omega) | (dsimp only; omega)) _ | refine Kp.trans ?_ (by assumption)))⟩
      rw [HT.out, HU.out, HB.out]
      have c0 : w1.cell? ⟨w.heap.size, 0, none⟩ = some (.int .i64 0) := by rw [hc _ _ (by simp; omega)]; simp [go_sem]
      have c1 : w1.cell? ⟨w.heap.size, 1, none⟩ = some (.int .i64 0) := by rw [hc _ _ (by simp; omega)]; simp [go_sem]
      simp [results, Try.results48, go_sem, hm, c0, c1]
  · have k1 : a.tdiv (Int.gcd a b) = Q1 := by rw [e1, redT, if_neg (by omega)]
    have k2 : b.tdiv (Int.gcd a b) = Q2 := by rw [e2, redB, if_neg (by omega)]
    have k3 : IntKind.i64.wrap Q1 = Q1 := IntWalk.i64_in _ (by omega)
    have k4 : IntKind.i64.wrap Q2 = Q2 := IntWalk.i64_in _ (by omega)
    clear e1 e2
    go_enter Try.func48, Try.ntmps48
    go_wp2_with (go_at_call 55; refine (gcd_any _ _ _ (by omega) (by omega)).mono ?_; rintro e w' ⟨rfl, n, rfl⟩)
    go_region
    clear k1 k2
    by_cases hm : fracB Q1 Q2 = true
    all_goals
      go_wp2_with (go_at_call 56; refine (iFracOk_any _ _ _).mono ?_; rintro e w1 ⟨rfl, hk⟩; obtain ⟨hc, hf⟩ := hk.cells; have hz := hk.size)
      refine bodyPost_ret (v := .tuple #[.agg #[.int .i64 (mkT a b), .int .i64 (mkU a b)], .bool (mkB a b)]) ?_ rfl ⟨rfl, by (repeat (with_reducible first | exact Kp.refl _ | assumption | refine Kp.drew ?_ | refine Kp.drewN ?_ _ | refine Kp.alloc ?_ _ | refine Kp.setCell ?_ (by first | (simp; done) | (simp; omega) | (dsimp only; omega)) _ | refine Kp.trans ?_ (by assumption)))⟩
      rw [HT.out, HU.out, HB.out]
      have c0 : w1.cell? ⟨w.heap.size, 0, none⟩ = some (.int .i64 0) := by rw [hc _ _ (by simp; omega)]; simp [go_sem]
      have c1 : w1.cell? ⟨w.heap.size, 1, none⟩ = some (.int .i64 0) := by rw [hc _ _ (by simp; omega)]; simp [go_sem]
      simp [results, Try.results48, go_sem, hm, c0, c1]
/-- MakeFraction: what both programs come to. -/
def mfB (a b : Int) : Bool := (!(b == 0)) && inB a (-1000000000000) 1000000000000 && inB b (-1000000000000) 1000000000000 && mkB a b
def mfT (a b : Int) : Int := if mfB a b = true then mkT a b else 0
def mfU (a b : Int) : Int := if mfB a b = true then mkU a b else 0
theorem mkT_of {a b : Int} (h : mkB a b = false) : mkT a b = 0 := by rw [mkT, if_neg (by rw [h]; simp)]
theorem mkU_of {a b : Int} (h : mkB a b = false) : mkU a b = 0 := by rw [mkU, if_neg (by rw [h]; simp)]
theorem mf_of {a b : Int} (h0 : b ≠ 0) (ha : -1000000000000 ≤ a ∧ a ≤ 1000000000000) (hb : -1000000000000 ≤ b ∧ b ≤ 1000000000000) : mkB a b = mfB a b ∧ mkT a b = mfT a b ∧ mkU a b = mfU a b := by
  have e : mfB a b = mkB a b := by simp [mfB, h0, inB_true.2 ha, inB_true.2 hb]
  refine ⟨e.symm, ?_, ?_⟩
  · rw [mfT, e]; split
    · rfl
    · rename_i h; rw [mkT_of (by simpa using h)]
  · rw [mfU, e]; split
    · rfl
    · rename_i h; rw [mkU_of (by simpa using h)]
theorem mfT_of {a b : Int} (h : mfB a b = false) : mfT a b = 0 := by rw [mfT, if_neg (by rw [h]; simp)]
theorem mfU_of {a b : Int} (h : mfB a b = false) : mfU a b = 0 := by rw [mfU, if_neg (by rw [h]; simp)]
theorem iReduced_mf (a b : Int) (w : World) (h0 : b ≠ 0) (ha : -1000000000000 ≤ a ∧ a ≤ 1000000000000) (hb : -1000000000000 ≤ b ∧ b ≤ 1000000000000) :
    Calls Try.prog 48 #[.int .i64 a, .int .i64 b] w fun e w' => e = .returned (.tuple #[.agg #[.int .i64 (mfT a b), .int .i64 (mfU a b)], .bool (mfB a b)]) ∧ Kp w w' := by
  obtain ⟨e1, e2, e3⟩ := mf_of h0 ha hb
  rw [← e1, ← e2, ← e3]
  exact iReduced_any a b w (by omega) (by omega) h0
theorem iMake_any (a b : Int) (w : World) :
    Calls Try.prog 40 #[.int .i64 a, .int .i64 b] w fun e w' => e = .returned (.tuple #[.agg #[.int .i64 (mfT a b), .int .i64 (mfU a b)], .bool (mfB a b)]) ∧ Kp w w' := by
  by_cases h0 : b = 0
  · have hb : mfB a b = false := by simp [mfB, h0]
    have ht : mfT a b = 0 := by rw [mfT, hb]; rfl
    have hu : mfU a b = 0 := by rw [mfU, hb]; rfl
    subst h0
    rw [ht, hu, hb]
    clear ht hu hb
    go_enter Try.func40, Try.ntmps40
    go_wp2
    exact bodyPost_ret (v := .tuple #[.agg #[.int .i64 0, .int .i64 0], .bool false]) (by simp [results, Try.results40, go_sem]) rfl ⟨rfl, by (repeat (with_reducible first | exact Kp.refl _ | assumption | refine Kp.drew ?_ | refine Kp.drewN ?_ _ | refine Kp.alloc ?_ _ | refine Kp.setCell ?_ (by first | (simp; done) | (simp; omega) | (dsimp only; omega)) _ | refine Kp.trans ?_ (by assumption)))⟩
  · by_cases h1 : inB a (-1000000000000) 1000000000000 = true
    · by_cases h2 : inB b (-1000000000000) 1000000000000 = true
      · have hb : mfB a b = mkB a b := by simp [mfB, h0, h1, h2]
        have ht : mfT a b = mkT a b := by
          rw [mfT, hb]; split
          · rfl
          · rename_i h; rw [mkT_of (by simpa using h)]
        have hu : mfU a b = mkU a b := by
          rw [mfU, hb]; split
          · rfl
          · rename_i h; rw [mkU_of (by simpa using h)]
        rw [ht, hu, hb]
        have b1 := inB_true.1 h1
        have b2 := inB_true.1 h2
        have e0 : (b == 0) = false := by simpa using h0
        clear ht hu hb
        go_enter Try.func40, Try.ntmps40
        go_wp2_with (first | (go_at_call 36; refine (in_any _ _ _ _).mono ?_; rintro e w' ⟨rfl, rfl⟩) | (go_at_call 48; refine (iReduced_any _ _ _ (by omega) (by omega) h0).mono ?_; rintro e w1 ⟨rfl, hk⟩; obtain ⟨hc, hf⟩ := hk.cells; have hz := hk.size))
        refine bodyPost_ret (v := .tuple #[.agg #[.int .i64 (mkT a b), .int .i64 (mkU a b)], .bool (mkB a b)]) ?_ rfl ⟨rfl, by (repeat (with_reducible first | exact Kp.refl _ | assumption | refine Kp.drew ?_ | refine Kp.drewN ?_ _ | refine Kp.alloc ?_ _ | refine Kp.setCell ?_ (by first | (simp; done) | (simp; omega) | (dsimp only; omega)) _ | refine Kp.trans ?_ (by assumption)))⟩
        have c0 : w1.cell? ⟨w.heap.size, 0, none⟩ = some (.int .i64 0) := by rw [hc _ _ (by simp)]; simp [go_sem]
        have c1 : w1.cell? ⟨w.heap.size, 1, none⟩ = some (.int .i64 0) := by rw [hc _ _ (by simp)]; simp [go_sem]
        simp [results, Try.results40, go_sem, c0, c1]
      · have hb : mfB a b = false := by simp [mfB, h2]
        have ht : mfT a b = 0 := by rw [mfT, hb]; rfl
        have hu : mfU a b = 0 := by rw [mfU, hb]; rfl
        rw [ht, hu, hb]
        have e0 : (b == 0) = false := by simpa using h0
        clear ht hu hb
        go_enter Try.func40, Try.ntmps40
        go_wp2_with (go_at_call 36; refine (in_any _ _ _ _).mono ?_; rintro e w' ⟨rfl, rfl⟩)
        exact bodyPost_ret (v := .tuple #[.agg #[.int .i64 0, .int .i64 0], .bool false]) (by simp [results, Try.results40, go_sem]) rfl ⟨rfl, by (repeat (with_reducible first | exact Kp.refl _ | assumption | refine Kp.drew ?_ | refine Kp.drewN ?_ _ | refine Kp.alloc ?_ _ | refine Kp.setCell ?_ (by first | (simp; done) | (simp; omega) | (dsimp only; omega)) _ | refine Kp.trans ?_ (by assumption)))⟩
    · have hb : mfB a b = false := by simp [mfB, h1]
      have ht : mfT a b = 0 := by rw [mfT, hb]; rfl
      have hu : mfU a b = 0 := by rw [mfU, hb]; rfl
      rw [ht, hu, hb]
      have e0 : (b == 0) = false := by simpa using h0
      clear ht hu hb
      go_enter Try.func40, Try.ntmps40
      go_wp2_with (go_at_call 36; refine (in_any _ _ _ _).mono ?_; rintro e w' ⟨rfl, rfl⟩)
      exact bodyPost_ret (v := .tuple #[.agg #[.int .i64 0, .int .i64 0], .bool false]) (by simp [results, Try.results40, go_sem]) rfl ⟨rfl, by (repeat (with_reducible first | exact Kp.refl _ | assumption | refine Kp.drew ?_ | refine Kp.drewN ?_ _ | refine Kp.alloc ?_ _ | refine Kp.setCell ?_ (by first | (simp; done) | (simp; omega) | (dsimp only; omega)) _ | refine Kp.trans ?_ (by assumption)))⟩
theorem sMake_any (a b : Int) (w : World) :
    Calls Try.prog 39 #[.int .i64 a, .int .i64 b] w fun e w' => e = .returned (.tuple #[.agg #[.int .i64 (mfT a b), .int .i64 (mfU a b)], .bool (mfB a b)]) ∧ Kp w w' := by
  by_cases h0 : b = 0
  · have hb : mfB a b = false := by simp [mfB, h0]
    have ht : mfT a b = 0 := by rw [mfT, hb]; rfl
    have hu : mfU a b = 0 := by rw [mfU, hb]; rfl
    subst h0
    rw [ht, hu, hb]
    clear ht hu hb
    go_enter Try.func39, Try.ntmps39
    go_wp2
    exact bodyPost_ret (v := .tuple #[.agg #[.int .i64 0, .int .i64 0], .bool false]) (by simp [results, Try.results39, go_sem]) rfl ⟨rfl, by (repeat (with_reducible first | exact Kp.refl _ | assumption | refine Kp.drew ?_ | refine Kp.drewN ?_ _ | refine Kp.alloc ?_ _ | refine Kp.setCell ?_ (by first | (simp; done) | (simp; omega) | (dsimp only; omega)) _ | refine Kp.trans ?_ (by assumption)))⟩
  · by_cases h1 : inB a (-1000000000000) 1000000000000 = true
    · by_cases h2 : inB b (-1000000000000) 1000000000000 = true
      · have b1 := inB_true.1 h1
        have b2 := inB_true.1 h2
        have hb : mfB a b = mkB a b := by simp [mfB, h0, h1, h2]
        have ht : mfT a b = mkT a b := by
          rw [mfT, hb]; split
          · rfl
          · rename_i h; rw [mkT_of (by simpa using h)]
        have hu : mfU a b = mkU a b := by
          rw [mfU, hb]; split
          · rfl
          · rename_i h; rw [mkU_of (by simpa using h)]
        rw [ht, hu, hb]
        have e0 : (b == 0) = false := by simpa using h0
        have hg := gcd_le_right a b h0
        have q1 := tdiv_bd a _ hg _ b1
        have q2 := tdiv_bd b _ hg _ b2
        obtain ⟨Q1, e1⟩ : ∃ Q, Q = redT a b := ⟨_, rfl⟩
        obtain ⟨Q2, e2⟩ : ∃ Q, Q = redB a b := ⟨_, rfl⟩
        have MB : mkB a b = fracB Q1 Q2 := by rw [mkB, e1, e2]
        have MT : mkT a b = if fracB Q1 Q2 = true then Q1 else 0 := by rw [mkT, MB, e1]
        have MU : mkU a b = if fracB Q1 Q2 = true then Q2 else 0 := by rw [mkU, MB, e2]
        have HB := Lib.hid MB
        have HT := Lib.hid MT
        have HU := Lib.hid MU
        have gle : (Int.gcd a b : Int) ≤ 1000000000000 := by
          have : Int.gcd a b ≤ b.natAbs := Int.gcd_le_natAbs_right a (by omega)
          omega
        clear ht hu hb MB MT MU
        rcases Int.lt_or_le b 0 with hn | hn
        · have k1 : IntKind.i64.wrap (-(a.tdiv (Int.gcd a b))) = Q1 := by rw [e1, redT, if_pos hn]; exact IntWalk.i64_in _ (by omega)
          have k2 : IntKind.i64.wrap (-(b.tdiv (Int.gcd a b))) = Q2 := by rw [e2, redB, if_pos hn]; exact IntWalk.i64_in _ (by omega)
          clear e1 e2
          go_enter Try.func39, Try.ntmps39
          go_wp2_with (first | (go_at_call 34; refine (l01In_any _ _ _ _).mono ?_; rintro e w' ⟨rfl, rfl⟩) | (go_at_call 46; refine (l02Gcd_any _ _ _ (by omega) (by omega)).mono ?_; rintro e w' ⟨rfl, n, rfl⟩))
          go_region
          clear k1 k2
          by_cases hm : fracB Q1 Q2 = true
          all_goals
            go_wp2_with (go_at_call 47; refine (sFracOk_any _ _ _).mono ?_; rintro e w1 ⟨rfl, hk⟩; obtain ⟨hc, hf⟩ := hk.cells; have hz := hk.size)
            refine bodyPost_ret (v := .tuple #[.agg #[.int .i64 (mkT a b), .int .i64 (mkU a b)], .bool (mkB a b)]) ?_ rfl ⟨rfl, by (repeat (with_reducible first | exact Kp.refl _ | assumption | refine Kp.drew ?_ | refine Kp.drewN ?_ _ | refine Kp.alloc ?_ _ | refine Kp.setCell ?_ (by first | (simp; done) | (simp; omega) | (dsimp only; omega)) _ | refine Kp.trans ?_ (by assumption)))⟩
            rw [HT.out, HU.out, HB.out]
            have c0 : w1.cell? ⟨w.heap.size, 0, none⟩ = some (.int .i64 0) := by rw [hc _ _ (by simp; omega)]; simp [go_sem]
            have c1 : w1.cell? ⟨w.heap.size, 1, none⟩ = some (.int .i64 0) := by rw [hc _ _ (by simp; omega)]; simp [go_sem]
            simp [results, Try.results39, go_sem, hm, c0, c1]
        · have k1 : a.tdiv (Int.gcd a b) = Q1 := by rw [e1, redT, if_neg (by omega)]
          have k2 : b.tdiv (Int.gcd a b) = Q2 := by rw [e2, redB, if_neg (by omega)]
          have k3 : IntKind.i64.wrap Q1 = Q1 := IntWalk.i64_in _ (by omega)
          have k4 : IntKind.i64.wrap Q2 = Q2 := IntWalk.i64_in _ (by omega)
          clear e1 e2
          go_enter Try.func39, Try.ntmps39
          go_wp2_with (first | (go_at_call 34; refine (l01In_any _ _ _ _).mono ?_; rintro e w' ⟨rfl, rfl⟩) | (go_at_call 46; refine (l02Gcd_any _ _ _ (by omega) (by omega)).mono ?_; rintro e w' ⟨rfl, n, rfl⟩))
          go_region
          clear k1 k2
          by_cases hm : fracB Q1 Q2 = true
          all_goals
            go_wp2_with (go_at_call 47; refine (sFracOk_any _ _ _).mono ?_; rintro e w1 ⟨rfl, hk⟩; obtain ⟨hc, hf⟩ := hk.cells; have hz := hk.size)
            refine bodyPost_ret (v := .tuple #[.agg #[.int .i64 (mkT a b), .int .i64 (mkU a b)], .bool (mkB a b)]) ?_ rfl ⟨rfl, by (repeat (with_reducible first | exact Kp.refl _ | assumption | refine Kp.drew ?_ | refine Kp.drewN ?_ _ | refine Kp.alloc ?_ _ | refine Kp.setCell ?_ (by first | (simp; done) | (simp; omega) | (dsimp only; omega)) _ | refine Kp.trans ?_ (by assumption)))⟩
            rw [HT.out, HU.out, HB.out]
            have c0 : w1.cell? ⟨w.heap.size, 0, none⟩ = some (.int .i64 0) := by rw [hc _ _ (by simp; omega)]; simp [go_sem]
            have c1 : w1.cell? ⟨w.heap.size, 1, none⟩ = some (.int .i64 0) := by rw [hc _ _ (by simp; omega)]; simp [go_sem]
            simp [results, Try.results39, go_sem, hm, c0, c1]
      · have hb : mfB a b = false := by simp [mfB, h2]
        have ht : mfT a b = 0 := by rw [mfT, hb]; rfl
        have hu : mfU a b = 0 := by rw [mfU, hb]; rfl
        rw [ht, hu, hb]
        have e0 : (b == 0) = false := by simpa using h0
        clear ht hu hb
        go_enter Try.func39, Try.ntmps39
        go_wp2_with (go_at_call 34; refine (l01In_any _ _ _ _).mono ?_; rintro e w' ⟨rfl, rfl⟩)
        exact bodyPost_ret (v := .tuple #[.agg #[.int .i64 0, .int .i64 0], .bool false]) (by simp [results, Try.results39, go_sem]) rfl ⟨rfl, by (repeat (with_reducible first | exact Kp.refl _ | assumption | refine Kp.drew ?_ | refine Kp.drewN ?_ _ | refine Kp.alloc ?_ _ | refine Kp.setCell ?_ (by first | (simp; done) | (simp; omega) | (dsimp only; omega)) _ | refine Kp.trans ?_ (by assumption)))⟩
    · have hb : mfB a b = false := by simp [mfB, h1]
      have ht : mfT a b = 0 := by rw [mfT, hb]; rfl
      have hu : mfU a b = 0 := by rw [mfU, hb]; rfl
      rw [ht, hu, hb]
      have e0 : (b == 0) = false := by simpa using h0
      clear ht hu hb
      go_enter Try.func39, Try.ntmps39
      go_wp2_with (go_at_call 34; refine (l01In_any _ _ _ _).mono ?_; rintro e w' ⟨rfl, rfl⟩)
      exact bodyPost_ret (v := .tuple #[.agg #[.int .i64 0, .int .i64 0], .bool false]) (by simp [results, Try.results39, go_sem]) rfl ⟨rfl, by (repeat (with_reducible first | exact Kp.refl _ | assumption | refine Kp.drew ?_ | refine Kp.drewN ?_ _ | refine Kp.alloc ?_ _ | refine Kp.setCell ?_ (by first | (simp; done) | (simp; omega) | (dsimp only; omega)) _ | refine Kp.trans ?_ (by assumption)))⟩
end Go.Proofs.Ytnfajiokmjkebaa
