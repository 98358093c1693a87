/- Contracts of the functions on steelyards and arms, of the program and of the reference. -/
import Derived.Test.YtamhdjbhoafbhaaFrac
set_option linter.unusedVariables false
namespace Go.Proofs.Ytamhdjbhoafbhaa
open Go.RowKit

def steelB (p s e : Int) : Bool := inB p 1 100 && inB s 1 1000 && inB e (-100) 100
theorem toSteelyard_any (a b c : Int) (w : World) : Calls Try.prog 14 #[.agg #[.int .i64 a, .int .i64 b, .int .i64 c]] w fun e w' => e = .returned (.agg #[.int .i64 a, .int .i64 b, .int .i64 c]) ∧ Kp w w' := by
  go_enter Try.func14, Try.ntmps14
  go_wp2
  exact bodyPost_ret (v := .agg #[.int .i64 a, .int .i64 b, .int .i64 c]) (by simp [results, Try.results14, go_sem]) rfl ⟨rfl, by (repeat (with_reducible first | exact Kp.refl _ | assumption | refine Kp.drew ?_ | refine Kp.drewN ?_ _ | refine Kp.alloc ?_ _ | refine Kp.setCell ?_ (by first | (simp; done) | (simp; omega) | (dsimp only; omega)) _ | refine Kp.trans ?_ (by assumption)))⟩
theorem toFraction_any (a b : Int) (w : World) : Calls Try.prog 19 #[.agg #[.int .i64 a, .int .i64 b]] w fun e w' => e = .returned (.agg #[.int .i64 a, .int .i64 b]) ∧ Kp w w' := by
  go_enter Try.func19, Try.ntmps19
  go_wp2
  exact bodyPost_ret (v := .agg #[.int .i64 a, .int .i64 b]) (by simp [results, Try.results19, go_sem]) rfl ⟨rfl, by (repeat (with_reducible first | exact Kp.refl _ | assumption | refine Kp.drew ?_ | refine Kp.drewN ?_ _ | refine Kp.alloc ?_ _ | refine Kp.setCell ?_ (by first | (simp; done) | (simp; omega) | (dsimp only; omega)) _ | refine Kp.trans ?_ (by assumption)))⟩
theorem eqFraction_same (a b : Int) (w : World) : Calls Try.prog 21 #[.agg #[.int .i64 a, .int .i64 b], .agg #[.int .i64 a, .int .i64 b]] w fun e w' => e = .returned (.bool true) ∧ Kp w w' := by
  go_enter Try.func21, Try.ntmps21
  go_wp2
  go_ret
  exact ⟨rfl, by (repeat (with_reducible first | exact Kp.refl _ | assumption | refine Kp.drew ?_ | refine Kp.drewN ?_ _ | refine Kp.alloc ?_ _ | refine Kp.setCell ?_ (by first | (simp; done) | (simp; omega) | (dsimp only; omega)) _ | refine Kp.trans ?_ (by assumption)))⟩
theorem sSteelyardOk_any (a b c : Int) (w : World) : Calls Try.prog 13 #[.agg #[.int .i64 a, .int .i64 b, .int .i64 c]] w fun e w' => e = .returned (.bool (steelB a b c)) ∧ Kp w w' := by
  go_enter Try.func13, Try.ntmps13
  go_wp2_with (go_at_call 35; refine (l01In_any _ _ _ _).mono ?_; rintro e w' ⟨rfl, rfl⟩)
  all_goals (go_ret; exact ⟨by simp_all [steelB], by (repeat (with_reducible first | exact Kp.refl _ | assumption | refine Kp.drew ?_ | refine Kp.drewN ?_ _ | refine Kp.alloc ?_ _ | refine Kp.setCell ?_ (by first | (simp; done) | (simp; omega) | (dsimp only; omega)) _ | refine Kp.trans ?_ (by assumption)))⟩)
theorem iSteelyardOk_any (a b c : Int) (w : World) : Calls Try.prog 15 #[.agg #[.int .i64 a, .int .i64 b, .int .i64 c]] w fun e w' => e = .returned (.bool (steelB a b c)) ∧ Kp w w' := by
  go_enter Try.func15, Try.ntmps15
  go_wp2_with (go_at_call 36; refine (in_any _ _ _ _).mono ?_; rintro e w' ⟨rfl, rfl⟩)
  all_goals (go_ret; exact ⟨by simp_all [steelB], by (repeat (with_reducible first | exact Kp.refl _ | assumption | refine Kp.drew ?_ | refine Kp.drewN ?_ _ | refine Kp.alloc ?_ _ | refine Kp.setCell ?_ (by first | (simp; done) | (simp; omega) | (dsimp only; omega)) _ | refine Kp.trans ?_ (by assumption)))⟩)
def ratB (a b c d : Int) : Bool := fracB a b && fracB c d && (!(c == 0)) && mfB (a * d) (b * c)
def ratT (a b c d : Int) : Int := if ratB a b c d = true then mfT (a * d) (b * c) else 0
def ratU (a b c d : Int) : Int := if ratB a b c d = true then mfU (a * d) (b * c) else 0
theorem fracB_bd {a b : Int} (h : fracB a b = true) : (-1000000 ≤ a ∧ a ≤ 1000000) ∧ (1 ≤ b ∧ b ≤ 1000000) := by
  simp only [fracB, Bool.and_eq_true] at h
  exact ⟨inB_true.1 h.1.1, inB_true.1 h.1.2⟩
theorem iOver_any (a b c d : Int) (w : World) : Calls Try.prog 39 #[.agg #[.int .i64 a, .int .i64 b], .agg #[.int .i64 c, .int .i64 d]] w fun e w' => e = .returned (.tuple #[.agg #[.int .i64 (ratT a b c d), .int .i64 (ratU a b c d)], .bool (ratB a b c d)]) ∧ Kp w w' := by
  by_cases h1 : fracB a b = true
  · by_cases h2 : fracB c d = true
    · by_cases h3 : c = 0
      · subst h3
        have hb : ratB a b 0 d = false := by simp [ratB]
        have ht : ratT a b 0 d = 0 := by rw [ratT, hb]; rfl
        have hu : ratU a b 0 d = 0 := by rw [ratU, hb]; rfl
        rw [ht, hu, hb]
        clear ht hu hb
        go_enter Try.func39, Try.ntmps39
        go_wp2_with (go_at_call 41; refine (iFracOk_any _ _ _).mono ?_; rintro e w1 ⟨rfl, hk⟩; have c0_0 : w1.cell? ⟨w.heap.size, 0, none⟩ = some (.int .i64 a) := hk.at1 (by first | with_reducible assumption | simp [go_sem]); have c0_1 : w1.cell? ⟨w.heap.size, 1, none⟩ = some (.int .i64 b) := hk.at1 (by first | with_reducible assumption | simp [go_sem]); have c1_0 : w1.cell? ⟨w.heap.size + 1, 0, none⟩ = some (.int .i64 0) := hk.at1 (by first | with_reducible assumption | simp [go_sem]); have c1_1 : w1.cell? ⟨w.heap.size + 1, 1, none⟩ = some (.int .i64 d) := hk.at1 (by first | with_reducible assumption | simp [go_sem]); obtain ⟨c2_0, f2_0⟩ : w1.cell? ⟨w.heap.size + 1 + 1, 0, none⟩ = some (.int .i64 0) ∧ w1.frozen? ⟨w.heap.size + 1 + 1, 0, none⟩ = false := hk.at2 (by first | with_reducible assumption | simp [go_sem]) (by first | with_reducible assumption | simp [go_sem]); obtain ⟨c2_1, f2_1⟩ : w1.cell? ⟨w.heap.size + 1 + 1, 1, none⟩ = some (.int .i64 0) ∧ w1.frozen? ⟨w.heap.size + 1 + 1, 1, none⟩ = false := hk.at2 (by first | with_reducible assumption | simp [go_sem]) (by first | with_reducible assumption | simp [go_sem]))
        exact bodyPost_ret (v := .tuple #[.agg #[.int .i64 0, .int .i64 0], .bool false]) (by simp [results, Try.results39, go_sem, c2_0, c2_1]) rfl ⟨rfl, by (repeat (with_reducible first | exact Kp.refl _ | assumption | refine Kp.drew ?_ | refine Kp.drewN ?_ _ | refine Kp.alloc ?_ _ | refine Kp.setCell ?_ (by first | (simp; done) | (simp; omega) | (dsimp only; omega)) _ | refine Kp.trans ?_ (by assumption)))⟩
      · have e0 : (c == 0) = false := by simpa using h3
        obtain ⟨⟨b1, b2⟩, b3, b4⟩ := fracB_bd h1
        obtain ⟨⟨b5, b6⟩, b7, b8⟩ := fracB_bd h2
        have m1 : -1000000000000 ≤ a * d ∧ a * d ≤ 1000000000000 := mul_bd (A := 1000000) (B := 1000000) (by omega) (by omega)
        have m2 : -1000000000000 ≤ b * c ∧ b * c ≤ 1000000000000 := mul_bd (A := 1000000) (B := 1000000) (by omega) (by omega)
        have m3 : b * c ≠ 0 := Int.mul_ne_zero (by omega) h3
        have hb : ratB a b c d = mfB (a * d) (b * c) := by simp [ratB, h1, h2, h3]
        have ht : ratT a b c d = mfT (a * d) (b * c) := by
          rw [ratT, hb]; split
          · rfl
          · rename_i h; rw [mfT_of (by simpa using h)]
        have hu : ratU a b c d = mfU (a * d) (b * c) := by
          rw [ratU, hb]; split
          · rfl
          · rename_i h; rw [mfU_of (by simpa using h)]
        rw [ht, hu, hb]
        clear ht hu hb
        obtain ⟨M1, g1⟩ : ∃ M, M = a * d := ⟨_, rfl⟩
        obtain ⟨M2, g2⟩ : ∃ M, M = b * c := ⟨_, rfl⟩
        have k1 : a * d = M1 := g1.symm
        have k2 : b * c = M2 := g2.symm
        rw [← g1, ← g2]
        rw [← g1] at m1
        rw [← g2] at m2 m3
        clear g1 g2
        go_enter Try.func39, Try.ntmps39
        go_wp2_with (first | (go_at_call 41; refine (iFracOk_any _ _ _).mono ?_; rintro e w1 ⟨rfl, hk⟩; have c0_0 : w1.cell? ⟨w.heap.size, 0, none⟩ = some (.int .i64 a) := hk.at1 (by first | with_reducible assumption | simp [go_sem]); have c0_1 : w1.cell? ⟨w.heap.size, 1, none⟩ = some (.int .i64 b) := hk.at1 (by first | with_reducible assumption | simp [go_sem]); have c1_0 : w1.cell? ⟨w.heap.size + 1, 0, none⟩ = some (.int .i64 c) := hk.at1 (by first | with_reducible assumption | simp [go_sem]); have c1_1 : w1.cell? ⟨w.heap.size + 1, 1, none⟩ = some (.int .i64 d) := hk.at1 (by first | with_reducible assumption | simp [go_sem]); obtain ⟨c2_0, f2_0⟩ : w1.cell? ⟨w.heap.size + 1 + 1, 0, none⟩ = some (.int .i64 0) ∧ w1.frozen? ⟨w.heap.size + 1 + 1, 0, none⟩ = false := hk.at2 (by first | with_reducible assumption | simp [go_sem]) (by first | with_reducible assumption | simp [go_sem]); obtain ⟨c2_1, f2_1⟩ : w1.cell? ⟨w.heap.size + 1 + 1, 1, none⟩ = some (.int .i64 0) ∧ w1.frozen? ⟨w.heap.size + 1 + 1, 1, none⟩ = false := hk.at2 (by first | with_reducible assumption | simp [go_sem]) (by first | with_reducible assumption | simp [go_sem])) | (go_at_call 44; refine (iReduced_mf _ _ _ m3 m1 m2).mono ?_; rintro e w1 ⟨rfl, hk⟩; obtain ⟨c2_0, f2_0⟩ : w1.cell? ⟨w.heap.size + 1 + 1, 0, none⟩ = some (.int .i64 0) ∧ w1.frozen? ⟨w.heap.size + 1 + 1, 0, none⟩ = false := hk.at2 (by first | with_reducible assumption | simp [go_sem]) (by first | with_reducible assumption | simp [go_sem]); obtain ⟨c2_1, f2_1⟩ : w1.cell? ⟨w.heap.size + 1 + 1, 1, none⟩ = some (.int .i64 0) ∧ w1.frozen? ⟨w.heap.size + 1 + 1, 1, none⟩ = false := hk.at2 (by first | with_reducible assumption | simp [go_sem]) (by first | with_reducible assumption | simp [go_sem])))
        exact bodyPost_ret (v := .tuple #[.agg #[.int .i64 (mfT M1 M2), .int .i64 (mfU M1 M2)], .bool (mfB M1 M2)]) (by simp [results, Try.results39, go_sem, c2_0, c2_1]) rfl ⟨rfl, by (repeat (with_reducible first | exact Kp.refl _ | assumption | refine Kp.drew ?_ | refine Kp.drewN ?_ _ | refine Kp.alloc ?_ _ | refine Kp.setCell ?_ (by first | (simp; done) | (simp; omega) | (dsimp only; omega)) _ | refine Kp.trans ?_ (by assumption)))⟩
    · have hb : ratB a b c d = false := by simp [ratB, h2]
      have ht : ratT a b c d = 0 := by rw [ratT, hb]; rfl
      have hu : ratU a b c d = 0 := by rw [ratU, hb]; rfl
      rw [ht, hu, hb]
      clear ht hu hb
      go_enter Try.func39, Try.ntmps39
      go_wp2_with (go_at_call 41; refine (iFracOk_any _ _ _).mono ?_; rintro e w1 ⟨rfl, hk⟩; have c0_0 : w1.cell? ⟨w.heap.size, 0, none⟩ = some (.int .i64 a) := hk.at1 (by first | with_reducible assumption | simp [go_sem]); have c0_1 : w1.cell? ⟨w.heap.size, 1, none⟩ = some (.int .i64 b) := hk.at1 (by first | with_reducible assumption | simp [go_sem]); have c1_0 : w1.cell? ⟨w.heap.size + 1, 0, none⟩ = some (.int .i64 c) := hk.at1 (by first | with_reducible assumption | simp [go_sem]); have c1_1 : w1.cell? ⟨w.heap.size + 1, 1, none⟩ = some (.int .i64 d) := hk.at1 (by first | with_reducible assumption | simp [go_sem]); obtain ⟨c2_0, f2_0⟩ : w1.cell? ⟨w.heap.size + 1 + 1, 0, none⟩ = some (.int .i64 0) ∧ w1.frozen? ⟨w.heap.size + 1 + 1, 0, none⟩ = false := hk.at2 (by first | with_reducible assumption | simp [go_sem]) (by first | with_reducible assumption | simp [go_sem]); obtain ⟨c2_1, f2_1⟩ : w1.cell? ⟨w.heap.size + 1 + 1, 1, none⟩ = some (.int .i64 0) ∧ w1.frozen? ⟨w.heap.size + 1 + 1, 1, none⟩ = false := hk.at2 (by first | with_reducible assumption | simp [go_sem]) (by first | with_reducible assumption | simp [go_sem]))
      exact bodyPost_ret (v := .tuple #[.agg #[.int .i64 0, .int .i64 0], .bool false]) (by simp [results, Try.results39, go_sem, c2_0, c2_1]) rfl ⟨rfl, by (repeat (with_reducible first | exact Kp.refl _ | assumption | refine Kp.drew ?_ | refine Kp.drewN ?_ _ | refine Kp.alloc ?_ _ | refine Kp.setCell ?_ (by first | (simp; done) | (simp; omega) | (dsimp only; omega)) _ | refine Kp.trans ?_ (by assumption)))⟩
  · have hb : ratB a b c d = false := by simp [ratB, h1]
    have ht : ratT a b c d = 0 := by rw [ratT, hb]; rfl
    have hu : ratU a b c d = 0 := by rw [ratU, hb]; rfl
    rw [ht, hu, hb]
    clear ht hu hb
    go_enter Try.func39, Try.ntmps39
    go_wp2_with (go_at_call 41; refine (iFracOk_any _ _ _).mono ?_; rintro e w1 ⟨rfl, hk⟩; have c0_0 : w1.cell? ⟨w.heap.size, 0, none⟩ = some (.int .i64 a) := hk.at1 (by first | with_reducible assumption | simp [go_sem]); have c0_1 : w1.cell? ⟨w.heap.size, 1, none⟩ = some (.int .i64 b) := hk.at1 (by first | with_reducible assumption | simp [go_sem]); have c1_0 : w1.cell? ⟨w.heap.size + 1, 0, none⟩ = some (.int .i64 c) := hk.at1 (by first | with_reducible assumption | simp [go_sem]); have c1_1 : w1.cell? ⟨w.heap.size + 1, 1, none⟩ = some (.int .i64 d) := hk.at1 (by first | with_reducible assumption | simp [go_sem]); obtain ⟨c2_0, f2_0⟩ : w1.cell? ⟨w.heap.size + 1 + 1, 0, none⟩ = some (.int .i64 0) ∧ w1.frozen? ⟨w.heap.size + 1 + 1, 0, none⟩ = false := hk.at2 (by first | with_reducible assumption | simp [go_sem]) (by first | with_reducible assumption | simp [go_sem]); obtain ⟨c2_1, f2_1⟩ : w1.cell? ⟨w.heap.size + 1 + 1, 1, none⟩ = some (.int .i64 0) ∧ w1.frozen? ⟨w.heap.size + 1 + 1, 1, none⟩ = false := hk.at2 (by first | with_reducible assumption | simp [go_sem]) (by first | with_reducible assumption | simp [go_sem]))
    exact bodyPost_ret (v := .tuple #[.agg #[.int .i64 0, .int .i64 0], .bool false]) (by simp [results, Try.results39, go_sem, c2_0, c2_1]) rfl ⟨rfl, by (repeat (with_reducible first | exact Kp.refl _ | assumption | refine Kp.drew ?_ | refine Kp.drewN ?_ _ | refine Kp.alloc ?_ _ | refine Kp.setCell ?_ (by first | (simp; done) | (simp; omega) | (dsimp only; omega)) _ | refine Kp.trans ?_ (by assumption)))⟩
theorem sRatioFrom_any (a b c d : Int) (w : World) : Calls Try.prog 18 #[.agg #[.int .i64 a, .int .i64 b], .agg #[.int .i64 c, .int .i64 d]] w fun e w' => e = .returned (.tuple #[.agg #[.int .i64 (ratT a b c d), .int .i64 (ratU a b c d)], .bool (ratB a b c d)]) ∧ Kp w w' := by
  by_cases h1 : fracB a b = true
  · by_cases h2 : fracB c d = true
    · by_cases h3 : c = 0
      · subst h3
        have hb : ratB a b 0 d = false := by simp [ratB]
        have ht : ratT a b 0 d = 0 := by rw [ratT, hb]; rfl
        have hu : ratU a b 0 d = 0 := by rw [ratU, hb]; rfl
        rw [ht, hu, hb]
        clear ht hu hb
        go_enter Try.func18, Try.ntmps18
        go_wp2_with (go_at_call 37; refine (sFracOk_any _ _ _).mono ?_; rintro e w1 ⟨rfl, hk⟩; have c0_0 : w1.cell? ⟨w.heap.size, 0, none⟩ = some (.int .i64 a) := hk.at1 (by first | with_reducible assumption | simp [go_sem]); have c0_1 : w1.cell? ⟨w.heap.size, 1, none⟩ = some (.int .i64 b) := hk.at1 (by first | with_reducible assumption | simp [go_sem]); have c1_0 : w1.cell? ⟨w.heap.size + 1, 0, none⟩ = some (.int .i64 0) := hk.at1 (by first | with_reducible assumption | simp [go_sem]); have c1_1 : w1.cell? ⟨w.heap.size + 1, 1, none⟩ = some (.int .i64 d) := hk.at1 (by first | with_reducible assumption | simp [go_sem]); obtain ⟨c2_0, f2_0⟩ : w1.cell? ⟨w.heap.size + 1 + 1, 0, none⟩ = some (.int .i64 0) ∧ w1.frozen? ⟨w.heap.size + 1 + 1, 0, none⟩ = false := hk.at2 (by first | with_reducible assumption | simp [go_sem]) (by first | with_reducible assumption | simp [go_sem]); obtain ⟨c2_1, f2_1⟩ : w1.cell? ⟨w.heap.size + 1 + 1, 1, none⟩ = some (.int .i64 0) ∧ w1.frozen? ⟨w.heap.size + 1 + 1, 1, none⟩ = false := hk.at2 (by first | with_reducible assumption | simp [go_sem]) (by first | with_reducible assumption | simp [go_sem]))
        exact bodyPost_ret (v := .tuple #[.agg #[.int .i64 0, .int .i64 0], .bool false]) (by simp [results, Try.results18, go_sem, c2_0, c2_1]) rfl ⟨rfl, by (repeat (with_reducible first | exact Kp.refl _ | assumption | refine Kp.drew ?_ | refine Kp.drewN ?_ _ | refine Kp.alloc ?_ _ | refine Kp.setCell ?_ (by first | (simp; done) | (simp; omega) | (dsimp only; omega)) _ | refine Kp.trans ?_ (by assumption)))⟩
      · have e0 : (c == 0) = false := by simpa using h3
        obtain ⟨⟨b1, b2⟩, b3, b4⟩ := fracB_bd h1
        obtain ⟨⟨b5, b6⟩, b7, b8⟩ := fracB_bd h2
        have m1 : -1000000000000 ≤ a * d ∧ a * d ≤ 1000000000000 := mul_bd (A := 1000000) (B := 1000000) (by omega) (by omega)
        have m2 : -1000000000000 ≤ b * c ∧ b * c ≤ 1000000000000 := mul_bd (A := 1000000) (B := 1000000) (by omega) (by omega)
        have m3 : b * c ≠ 0 := Int.mul_ne_zero (by omega) h3
        have hb : ratB a b c d = mfB (a * d) (b * c) := by simp [ratB, h1, h2, h3]
        have ht : ratT a b c d = mfT (a * d) (b * c) := by
          rw [ratT, hb]; split
          · rfl
          · rename_i h; rw [mfT_of (by simpa using h)]
        have hu : ratU a b c d = mfU (a * d) (b * c) := by
          rw [ratU, hb]; split
          · rfl
          · rename_i h; rw [mfU_of (by simpa using h)]
        rw [ht, hu, hb]
        clear ht hu hb
        obtain ⟨M1, g1⟩ : ∃ M, M = a * d := ⟨_, rfl⟩
        obtain ⟨M2, g2⟩ : ∃ M, M = b * c := ⟨_, rfl⟩
        have k1 : a * d = M1 := g1.symm
        have k2 : b * c = M2 := g2.symm
        rw [← g1, ← g2]
        rw [← g1] at m1
        rw [← g2] at m2 m3
        clear g1 g2
        go_enter Try.func18, Try.ntmps18
        go_wp2_with (first | (go_at_call 37; refine (sFracOk_any _ _ _).mono ?_; rintro e w1 ⟨rfl, hk⟩; have c0_0 : w1.cell? ⟨w.heap.size, 0, none⟩ = some (.int .i64 a) := hk.at1 (by first | with_reducible assumption | simp [go_sem]); have c0_1 : w1.cell? ⟨w.heap.size, 1, none⟩ = some (.int .i64 b) := hk.at1 (by first | with_reducible assumption | simp [go_sem]); have c1_0 : w1.cell? ⟨w.heap.size + 1, 0, none⟩ = some (.int .i64 c) := hk.at1 (by first | with_reducible assumption | simp [go_sem]); have c1_1 : w1.cell? ⟨w.heap.size + 1, 1, none⟩ = some (.int .i64 d) := hk.at1 (by first | with_reducible assumption | simp [go_sem]); obtain ⟨c2_0, f2_0⟩ : w1.cell? ⟨w.heap.size + 1 + 1, 0, none⟩ = some (.int .i64 0) ∧ w1.frozen? ⟨w.heap.size + 1 + 1, 0, none⟩ = false := hk.at2 (by first | with_reducible assumption | simp [go_sem]) (by first | with_reducible assumption | simp [go_sem]); obtain ⟨c2_1, f2_1⟩ : w1.cell? ⟨w.heap.size + 1 + 1, 1, none⟩ = some (.int .i64 0) ∧ w1.frozen? ⟨w.heap.size + 1 + 1, 1, none⟩ = false := hk.at2 (by first | with_reducible assumption | simp [go_sem]) (by first | with_reducible assumption | simp [go_sem])) | (go_at_call 38; refine (sMake_any _ _ _).mono ?_; rintro e w1 ⟨rfl, hk⟩; obtain ⟨c2_0, f2_0⟩ : w1.cell? ⟨w.heap.size + 1 + 1, 0, none⟩ = some (.int .i64 0) ∧ w1.frozen? ⟨w.heap.size + 1 + 1, 0, none⟩ = false := hk.at2 (by first | with_reducible assumption | simp [go_sem]) (by first | with_reducible assumption | simp [go_sem]); obtain ⟨c2_1, f2_1⟩ : w1.cell? ⟨w.heap.size + 1 + 1, 1, none⟩ = some (.int .i64 0) ∧ w1.frozen? ⟨w.heap.size + 1 + 1, 1, none⟩ = false := hk.at2 (by first | with_reducible assumption | simp [go_sem]) (by first | with_reducible assumption | simp [go_sem])))
        exact bodyPost_ret (v := .tuple #[.agg #[.int .i64 (mfT M1 M2), .int .i64 (mfU M1 M2)], .bool (mfB M1 M2)]) (by simp [results, Try.results18, go_sem, c2_0, c2_1]) rfl ⟨rfl, by (repeat (with_reducible first | exact Kp.refl _ | assumption | refine Kp.drew ?_ | refine Kp.drewN ?_ _ | refine Kp.alloc ?_ _ | refine Kp.setCell ?_ (by first | (simp; done) | (simp; omega) | (dsimp only; omega)) _ | refine Kp.trans ?_ (by assumption)))⟩
    · have hb : ratB a b c d = false := by simp [ratB, h2]
      have ht : ratT a b c d = 0 := by rw [ratT, hb]; rfl
      have hu : ratU a b c d = 0 := by rw [ratU, hb]; rfl
      rw [ht, hu, hb]
      clear ht hu hb
      go_enter Try.func18, Try.ntmps18
      go_wp2_with (go_at_call 37; refine (sFracOk_any _ _ _).mono ?_; rintro e w1 ⟨rfl, hk⟩; have c0_0 : w1.cell? ⟨w.heap.size, 0, none⟩ = some (.int .i64 a) := hk.at1 (by first | with_reducible assumption | simp [go_sem]); have c0_1 : w1.cell? ⟨w.heap.size, 1, none⟩ = some (.int .i64 b) := hk.at1 (by first | with_reducible assumption | simp [go_sem]); have c1_0 : w1.cell? ⟨w.heap.size + 1, 0, none⟩ = some (.int .i64 c) := hk.at1 (by first | with_reducible assumption | simp [go_sem]); have c1_1 : w1.cell? ⟨w.heap.size + 1, 1, none⟩ = some (.int .i64 d) := hk.at1 (by first | with_reducible assumption | simp [go_sem]); obtain ⟨c2_0, f2_0⟩ : w1.cell? ⟨w.heap.size + 1 + 1, 0, none⟩ = some (.int .i64 0) ∧ w1.frozen? ⟨w.heap.size + 1 + 1, 0, none⟩ = false := hk.at2 (by first | with_reducible assumption | simp [go_sem]) (by first | with_reducible assumption | simp [go_sem]); obtain ⟨c2_1, f2_1⟩ : w1.cell? ⟨w.heap.size + 1 + 1, 1, none⟩ = some (.int .i64 0) ∧ w1.frozen? ⟨w.heap.size + 1 + 1, 1, none⟩ = false := hk.at2 (by first | with_reducible assumption | simp [go_sem]) (by first | with_reducible assumption | simp [go_sem]))
      exact bodyPost_ret (v := .tuple #[.agg #[.int .i64 0, .int .i64 0], .bool false]) (by simp [results, Try.results18, go_sem, c2_0, c2_1]) rfl ⟨rfl, by (repeat (with_reducible first | exact Kp.refl _ | assumption | refine Kp.drew ?_ | refine Kp.drewN ?_ _ | refine Kp.alloc ?_ _ | refine Kp.setCell ?_ (by first | (simp; done) | (simp; omega) | (dsimp only; omega)) _ | refine Kp.trans ?_ (by assumption)))⟩
  · have hb : ratB a b c d = false := by simp [ratB, h1]
    have ht : ratT a b c d = 0 := by rw [ratT, hb]; rfl
    have hu : ratU a b c d = 0 := by rw [ratU, hb]; rfl
    rw [ht, hu, hb]
    clear ht hu hb
    go_enter Try.func18, Try.ntmps18
    go_wp2_with (go_at_call 37; refine (sFracOk_any _ _ _).mono ?_; rintro e w1 ⟨rfl, hk⟩; have c0_0 : w1.cell? ⟨w.heap.size, 0, none⟩ = some (.int .i64 a) := hk.at1 (by first | with_reducible assumption | simp [go_sem]); have c0_1 : w1.cell? ⟨w.heap.size, 1, none⟩ = some (.int .i64 b) := hk.at1 (by first | with_reducible assumption | simp [go_sem]); have c1_0 : w1.cell? ⟨w.heap.size + 1, 0, none⟩ = some (.int .i64 c) := hk.at1 (by first | with_reducible assumption | simp [go_sem]); have c1_1 : w1.cell? ⟨w.heap.size + 1, 1, none⟩ = some (.int .i64 d) := hk.at1 (by first | with_reducible assumption | simp [go_sem]); obtain ⟨c2_0, f2_0⟩ : w1.cell? ⟨w.heap.size + 1 + 1, 0, none⟩ = some (.int .i64 0) ∧ w1.frozen? ⟨w.heap.size + 1 + 1, 0, none⟩ = false := hk.at2 (by first | with_reducible assumption | simp [go_sem]) (by first | with_reducible assumption | simp [go_sem]); obtain ⟨c2_1, f2_1⟩ : w1.cell? ⟨w.heap.size + 1 + 1, 1, none⟩ = some (.int .i64 0) ∧ w1.frozen? ⟨w.heap.size + 1 + 1, 1, none⟩ = false := hk.at2 (by first | with_reducible assumption | simp [go_sem]) (by first | with_reducible assumption | simp [go_sem]))
    exact bodyPost_ret (v := .tuple #[.agg #[.int .i64 0, .int .i64 0], .bool false]) (by simp [results, Try.results18, go_sem, c2_0, c2_1]) rfl ⟨rfl, by (repeat (with_reducible first | exact Kp.refl _ | assumption | refine Kp.drew ?_ | refine Kp.drewN ?_ _ | refine Kp.alloc ?_ _ | refine Kp.setCell ?_ (by first | (simp; done) | (simp; omega) | (dsimp only; omega)) _ | refine Kp.trans ?_ (by assumption)))⟩
theorem iRatioFrom_any (a b c d : Int) (w : World) : Calls Try.prog 20 #[.agg #[.int .i64 a, .int .i64 b], .agg #[.int .i64 c, .int .i64 d]] w fun e w' => e = .returned (.tuple #[.agg #[.int .i64 (ratT a b c d), .int .i64 (ratU a b c d)], .bool (ratB a b c d)]) ∧ Kp w w' := by
  go_enter Try.func20, Try.ntmps20
  go_wp2_with (go_at_call 39; refine (iOver_any _ _ _ _ _).mono ?_; rintro e w1 ⟨rfl, hk⟩; obtain ⟨c2_0, f2_0⟩ : w1.cell? ⟨w.heap.size + 1 + 1, 0, none⟩ = some (.int .i64 0) ∧ w1.frozen? ⟨w.heap.size + 1 + 1, 0, none⟩ = false := hk.at2 (by first | with_reducible assumption | simp [go_sem]) (by first | with_reducible assumption | simp [go_sem]); obtain ⟨c2_1, f2_1⟩ : w1.cell? ⟨w.heap.size + 1 + 1, 1, none⟩ = some (.int .i64 0) ∧ w1.frozen? ⟨w.heap.size + 1 + 1, 1, none⟩ = false := hk.at2 (by first | with_reducible assumption | simp [go_sem]) (by first | with_reducible assumption | simp [go_sem]))
  exact bodyPost_ret (v := .tuple #[.agg #[.int .i64 (ratT a b c d), .int .i64 (ratU a b c d)], .bool (ratB a b c d)]) (by simp [results, Try.results20, go_sem, c2_0, c2_1]) rfl ⟨rfl, by (repeat (with_reducible first | exact Kp.refl _ | assumption | refine Kp.drew ?_ | refine Kp.drewN ?_ _ | refine Kp.alloc ?_ _ | refine Kp.setCell ?_ (by first | (simp; done) | (simp; omega) | (dsimp only; omega)) _ | refine Kp.trans ?_ (by assumption)))⟩

theorem steelB_bd {p s e : Int} (h : steelB p s e = true) : (1 ≤ p ∧ p ≤ 100) ∧ (1 ≤ s ∧ s ≤ 1000) ∧ (-100 ≤ e ∧ e ≤ 100) := by
  simp only [steelB, Bool.and_eq_true] at h
  exact ⟨inB_true.1 h.1.1, inB_true.1 h.1.2, inB_true.1 h.2⟩
def markB (p s e l : Int) : Bool := steelB p s e && inB l 0 10000 && mfB (e * s + l * p) s
def markT (p s e l : Int) : Int := if steelB p s e && inB l 0 10000 then mfT (e * s + l * p) s else 0
def markU (p s e l : Int) : Int := if steelB p s e && inB l 0 10000 then mfU (e * s + l * p) s else 0
def loadB (p s e t u : Int) : Bool := steelB p s e && fracB t u && mfB ((t - e * u) * s) (u * p)
def loadT (p s e t u : Int) : Int := if steelB p s e && fracB t u then mfT ((t - e * u) * s) (u * p) else 0
def loadU (p s e t u : Int) : Int := if steelB p s e && fracB t u then mfU ((t - e * u) * s) (u * p) else 0
def levelB (p s e l q : Int) : Bool := steelB p s e && inB l 0 10000 && inB q (-10000) 10000 && (l * p == (q - e) * s)
theorem implMarkFor_any (p s e l : Int) (w : World) : Calls Try.prog 23 #[.agg #[.int .i64 p, .int .i64 s, .int .i64 e], .int .i64 l] w fun e' w' => e' = .returned (.tuple #[.agg #[.int .i64 (markT p s e l), .int .i64 (markU p s e l)], .bool (markB p s e l)]) ∧ Kp w w' := by
  by_cases h1 : steelB p s e = true
  · by_cases h2 : inB l 0 10000 = true
    · obtain ⟨b1, b2, b3⟩ := steelB_bd h1
      have b4 := inB_true.1 h2
      have hb : markB p s e l = mfB (e * s + l * p) s := by simp [markB, h1, h2]
      have ht : markT p s e l = mfT (e * s + l * p) s := by simp [markT, h1, h2]
      have hu : markU p s e l = mfU (e * s + l * p) s := by simp [markU, h1, h2]
      have m1 : -100000 ≤ e * s ∧ e * s ≤ 100000 := mul_bd (A := 100) (B := 1000) (by omega) (by omega)
      have m2 : -1000000 ≤ l * p ∧ l * p ≤ 1000000 := mul_bd (A := 10000) (B := 100) (by omega) (by omega)
      rw [ht, hu, hb]
      clear ht hu hb
      obtain ⟨M1, g1⟩ : ∃ M, M = e * s := ⟨_, rfl⟩
      obtain ⟨M2, g2⟩ : ∃ M, M = l * p := ⟨_, rfl⟩
      have k1 : e * s = M1 := g1.symm
      have k2 : l * p = M2 := g2.symm
      rw [← g1, ← g2]
      rw [← g1] at m1
      rw [← g2] at m2
      clear g1 g2
      go_enter Try.func23, Try.ntmps23
      go_wp2_with (first | (go_at_call 15; refine (iSteelyardOk_any _ _ _ _).mono ?_; rintro e w1 ⟨rfl, hk⟩; have c0_0 : w1.cell? ⟨w.heap.size, 0, none⟩ = some (.int .i64 p) := hk.at1 (by first | with_reducible assumption | simp [go_sem]); have c0_1 : w1.cell? ⟨w.heap.size, 1, none⟩ = some (.int .i64 s) := hk.at1 (by first | with_reducible assumption | simp [go_sem]); have c0_2 : w1.cell? ⟨w.heap.size, 2, none⟩ = some (.int .i64 e) := hk.at1 (by first | with_reducible assumption | simp [go_sem]); obtain ⟨c1_0, f1_0⟩ : w1.cell? ⟨w.heap.size + 1, 0, none⟩ = some (.int .i64 0) ∧ w1.frozen? ⟨w.heap.size + 1, 0, none⟩ = false := hk.at2 (by first | with_reducible assumption | simp [go_sem]) (by first | with_reducible assumption | simp [go_sem]); obtain ⟨c1_1, f1_1⟩ : w1.cell? ⟨w.heap.size + 1, 1, none⟩ = some (.int .i64 0) ∧ w1.frozen? ⟨w.heap.size + 1, 1, none⟩ = false := hk.at2 (by first | with_reducible assumption | simp [go_sem]) (by first | with_reducible assumption | simp [go_sem])) | (go_at_call 36; refine (in_any _ _ _ _).mono ?_; rintro e w' ⟨rfl, rfl⟩) | (go_at_call 40; refine (iMake_any _ _ _).mono ?_; rintro e w1 ⟨rfl, hk⟩; obtain ⟨c1_0, f1_0⟩ : w1.cell? ⟨w.heap.size + 1, 0, none⟩ = some (.int .i64 0) ∧ w1.frozen? ⟨w.heap.size + 1, 0, none⟩ = false := hk.at2 (by first | with_reducible assumption | simp [go_sem]) (by first | with_reducible assumption | simp [go_sem]); obtain ⟨c1_1, f1_1⟩ : w1.cell? ⟨w.heap.size + 1, 1, none⟩ = some (.int .i64 0) ∧ w1.frozen? ⟨w.heap.size + 1, 1, none⟩ = false := hk.at2 (by first | with_reducible assumption | simp [go_sem]) (by first | with_reducible assumption | simp [go_sem])))
      exact bodyPost_ret (v := .tuple #[.agg #[.int .i64 (mfT (M1 + M2) s), .int .i64 (mfU (M1 + M2) s)], .bool (mfB (M1 + M2) s)]) (by simp [results, Try.results23, go_sem, c1_0, c1_1]) rfl ⟨rfl, by (repeat (with_reducible first | exact Kp.refl _ | assumption | refine Kp.drew ?_ | refine Kp.drewN ?_ _ | refine Kp.alloc ?_ _ | refine Kp.setCell ?_ (by first | (simp; done) | (simp; omega) | (dsimp only; omega)) _ | refine Kp.trans ?_ (by assumption)))⟩
    · have hb : markB p s e l = false := by simp [markB, h2]
      have ht : markT p s e l = 0 := by simp [markT, h2]
      have hu : markU p s e l = 0 := by simp [markU, h2]
      rw [ht, hu, hb]
      clear ht hu hb
      go_enter Try.func23, Try.ntmps23
      go_wp2_with (first | (go_at_call 15; refine (iSteelyardOk_any _ _ _ _).mono ?_; rintro e w1 ⟨rfl, hk⟩; have c0_0 : w1.cell? ⟨w.heap.size, 0, none⟩ = some (.int .i64 p) := hk.at1 (by first | with_reducible assumption | simp [go_sem]); have c0_1 : w1.cell? ⟨w.heap.size, 1, none⟩ = some (.int .i64 s) := hk.at1 (by first | with_reducible assumption | simp [go_sem]); have c0_2 : w1.cell? ⟨w.heap.size, 2, none⟩ = some (.int .i64 e) := hk.at1 (by first | with_reducible assumption | simp [go_sem]); obtain ⟨c1_0, f1_0⟩ : w1.cell? ⟨w.heap.size + 1, 0, none⟩ = some (.int .i64 0) ∧ w1.frozen? ⟨w.heap.size + 1, 0, none⟩ = false := hk.at2 (by first | with_reducible assumption | simp [go_sem]) (by first | with_reducible assumption | simp [go_sem]); obtain ⟨c1_1, f1_1⟩ : w1.cell? ⟨w.heap.size + 1, 1, none⟩ = some (.int .i64 0) ∧ w1.frozen? ⟨w.heap.size + 1, 1, none⟩ = false := hk.at2 (by first | with_reducible assumption | simp [go_sem]) (by first | with_reducible assumption | simp [go_sem])) | (go_at_call 36; refine (in_any _ _ _ _).mono ?_; rintro e w' ⟨rfl, rfl⟩))
      exact bodyPost_ret (v := .tuple #[.agg #[.int .i64 0, .int .i64 0], .bool false]) (by simp [results, Try.results23, go_sem, c1_0, c1_1]) rfl ⟨rfl, by (repeat (with_reducible first | exact Kp.refl _ | assumption | refine Kp.drew ?_ | refine Kp.drewN ?_ _ | refine Kp.alloc ?_ _ | refine Kp.setCell ?_ (by first | (simp; done) | (simp; omega) | (dsimp only; omega)) _ | refine Kp.trans ?_ (by assumption)))⟩
  · have hb : markB p s e l = false := by simp [markB, h1]
    have ht : markT p s e l = 0 := by simp [markT, h1]
    have hu : markU p s e l = 0 := by simp [markU, h1]
    rw [ht, hu, hb]
    clear ht hu hb
    go_enter Try.func23, Try.ntmps23
    go_wp2_with (go_at_call 15; refine (iSteelyardOk_any _ _ _ _).mono ?_; rintro e w1 ⟨rfl, hk⟩; have c0_0 : w1.cell? ⟨w.heap.size, 0, none⟩ = some (.int .i64 p) := hk.at1 (by first | with_reducible assumption | simp [go_sem]); have c0_1 : w1.cell? ⟨w.heap.size, 1, none⟩ = some (.int .i64 s) := hk.at1 (by first | with_reducible assumption | simp [go_sem]); have c0_2 : w1.cell? ⟨w.heap.size, 2, none⟩ = some (.int .i64 e) := hk.at1 (by first | with_reducible assumption | simp [go_sem]); obtain ⟨c1_0, f1_0⟩ : w1.cell? ⟨w.heap.size + 1, 0, none⟩ = some (.int .i64 0) ∧ w1.frozen? ⟨w.heap.size + 1, 0, none⟩ = false := hk.at2 (by first | with_reducible assumption | simp [go_sem]) (by first | with_reducible assumption | simp [go_sem]); obtain ⟨c1_1, f1_1⟩ : w1.cell? ⟨w.heap.size + 1, 1, none⟩ = some (.int .i64 0) ∧ w1.frozen? ⟨w.heap.size + 1, 1, none⟩ = false := hk.at2 (by first | with_reducible assumption | simp [go_sem]) (by first | with_reducible assumption | simp [go_sem]))
    exact bodyPost_ret (v := .tuple #[.agg #[.int .i64 0, .int .i64 0], .bool false]) (by simp [results, Try.results23, go_sem, c1_0, c1_1]) rfl ⟨rfl, by (repeat (with_reducible first | exact Kp.refl _ | assumption | refine Kp.drew ?_ | refine Kp.drewN ?_ _ | refine Kp.alloc ?_ _ | refine Kp.setCell ?_ (by first | (simp; done) | (simp; omega) | (dsimp only; omega)) _ | refine Kp.trans ?_ (by assumption)))⟩
theorem implLoadAt_any (p s e t u : Int) (w : World) : Calls Try.prog 25 #[.agg #[.int .i64 p, .int .i64 s, .int .i64 e], .agg #[.int .i64 t, .int .i64 u]] w fun e' w' => e' = .returned (.tuple #[.agg #[.int .i64 (loadT p s e t u), .int .i64 (loadU p s e t u)], .bool (loadB p s e t u)]) ∧ Kp w w' := by
  by_cases h1 : steelB p s e = true
  · by_cases h2 : fracB t u = true
    · obtain ⟨b1, b2, b3⟩ := steelB_bd h1
      obtain ⟨b4, b5⟩ := fracB_bd h2
      have hb : loadB p s e t u = mfB ((t - e * u) * s) (u * p) := by simp [loadB, h1, h2]
      have ht : loadT p s e t u = mfT ((t - e * u) * s) (u * p) := by simp [loadT, h1, h2]
      have hu : loadU p s e t u = mfU ((t - e * u) * s) (u * p) := by simp [loadU, h1, h2]
      have m1 : -100000000 ≤ e * u ∧ e * u ≤ 100000000 := mul_bd (A := 100) (B := 1000000) (by omega) (by omega)
      have m2 : -100000000 ≤ u * p ∧ u * p ≤ 100000000 := mul_bd (A := 1000000) (B := 100) (by omega) (by omega)
      rw [ht, hu, hb]
      clear ht hu hb
      obtain ⟨M1, g1⟩ : ∃ M, M = e * u := ⟨_, rfl⟩
      obtain ⟨M2, g2⟩ : ∃ M, M = u * p := ⟨_, rfl⟩
      have k1 : e * u = M1 := g1.symm
      have k2 : u * p = M2 := g2.symm
      rw [← g1, ← g2]
      rw [← g1] at m1
      rw [← g2] at m2
      clear g1 g2
      have m3 : -101000000000 ≤ (t - M1) * s ∧ (t - M1) * s ≤ 101000000000 := mul_bd (A := 101000000) (B := 1000) (by omega) (by omega)
      obtain ⟨M3, g3⟩ : ∃ M, M = (t - M1) * s := ⟨_, rfl⟩
      have k3 : (t - M1) * s = M3 := g3.symm
      rw [← g3]
      rw [← g3] at m3
      clear g3
      go_enter Try.func25, Try.ntmps25
      go_wp2_with (first | (go_at_call 15; refine (iSteelyardOk_any _ _ _ _).mono ?_; rintro e w1 ⟨rfl, hk⟩; have c0_0 : w1.cell? ⟨w.heap.size, 0, none⟩ = some (.int .i64 p) := hk.at1 (by first | with_reducible assumption | simp [go_sem]); have c0_1 : w1.cell? ⟨w.heap.size, 1, none⟩ = some (.int .i64 s) := hk.at1 (by first | with_reducible assumption | simp [go_sem]); have c0_2 : w1.cell? ⟨w.heap.size, 2, none⟩ = some (.int .i64 e) := hk.at1 (by first | with_reducible assumption | simp [go_sem]); have c1_0 : w1.cell? ⟨w.heap.size + 1, 0, none⟩ = some (.int .i64 t) := hk.at1 (by first | with_reducible assumption | simp [go_sem]); have c1_1 : w1.cell? ⟨w.heap.size + 1, 1, none⟩ = some (.int .i64 u) := hk.at1 (by first | with_reducible assumption | simp [go_sem]); obtain ⟨c2_0, f2_0⟩ : w1.cell? ⟨w.heap.size + 1 + 1, 0, none⟩ = some (.int .i64 0) ∧ w1.frozen? ⟨w.heap.size + 1 + 1, 0, none⟩ = false := hk.at2 (by first | with_reducible assumption | simp [go_sem]) (by first | with_reducible assumption | simp [go_sem]); obtain ⟨c2_1, f2_1⟩ : w1.cell? ⟨w.heap.size + 1 + 1, 1, none⟩ = some (.int .i64 0) ∧ w1.frozen? ⟨w.heap.size + 1 + 1, 1, none⟩ = false := hk.at2 (by first | with_reducible assumption | simp [go_sem]) (by first | with_reducible assumption | simp [go_sem])) | (go_at_call 41; refine (iFracOk_any _ _ _).mono ?_; rintro e w1 ⟨rfl, hk⟩; have c0_0 : w1.cell? ⟨w.heap.size, 0, none⟩ = some (.int .i64 p) := hk.at1 (by first | with_reducible assumption | simp [go_sem]); have c0_1 : w1.cell? ⟨w.heap.size, 1, none⟩ = some (.int .i64 s) := hk.at1 (by first | with_reducible assumption | simp [go_sem]); have c0_2 : w1.cell? ⟨w.heap.size, 2, none⟩ = some (.int .i64 e) := hk.at1 (by first | with_reducible assumption | simp [go_sem]); have c1_0 : w1.cell? ⟨w.heap.size + 1, 0, none⟩ = some (.int .i64 t) := hk.at1 (by first | with_reducible assumption | simp [go_sem]); have c1_1 : w1.cell? ⟨w.heap.size + 1, 1, none⟩ = some (.int .i64 u) := hk.at1 (by first | with_reducible assumption | simp [go_sem]); obtain ⟨c2_0, f2_0⟩ : w1.cell? ⟨w.heap.size + 1 + 1, 0, none⟩ = some (.int .i64 0) ∧ w1.frozen? ⟨w.heap.size + 1 + 1, 0, none⟩ = false := hk.at2 (by first | with_reducible assumption | simp [go_sem]) (by first | with_reducible assumption | simp [go_sem]); obtain ⟨c2_1, f2_1⟩ : w1.cell? ⟨w.heap.size + 1 + 1, 1, none⟩ = some (.int .i64 0) ∧ w1.frozen? ⟨w.heap.size + 1 + 1, 1, none⟩ = false := hk.at2 (by first | with_reducible assumption | simp [go_sem]) (by first | with_reducible assumption | simp [go_sem])) | (go_at_call 40; refine (iMake_any _ _ _).mono ?_; rintro e w1 ⟨rfl, hk⟩; obtain ⟨c2_0, f2_0⟩ : w1.cell? ⟨w.heap.size + 1 + 1, 0, none⟩ = some (.int .i64 0) ∧ w1.frozen? ⟨w.heap.size + 1 + 1, 0, none⟩ = false := hk.at2 (by first | with_reducible assumption | simp [go_sem]) (by first | with_reducible assumption | simp [go_sem]); obtain ⟨c2_1, f2_1⟩ : w1.cell? ⟨w.heap.size + 1 + 1, 1, none⟩ = some (.int .i64 0) ∧ w1.frozen? ⟨w.heap.size + 1 + 1, 1, none⟩ = false := hk.at2 (by first | with_reducible assumption | simp [go_sem]) (by first | with_reducible assumption | simp [go_sem])))
      exact bodyPost_ret (v := .tuple #[.agg #[.int .i64 (mfT M3 M2), .int .i64 (mfU M3 M2)], .bool (mfB M3 M2)]) (by simp [results, Try.results25, go_sem, c2_0, c2_1]) rfl ⟨rfl, by (repeat (with_reducible first | exact Kp.refl _ | assumption | refine Kp.drew ?_ | refine Kp.drewN ?_ _ | refine Kp.alloc ?_ _ | refine Kp.setCell ?_ (by first | (simp; done) | (simp; omega) | (dsimp only; omega)) _ | refine Kp.trans ?_ (by assumption)))⟩
    · have hb : loadB p s e t u = false := by simp [loadB, h2]
      have ht : loadT p s e t u = 0 := by simp [loadT, h2]
      have hu : loadU p s e t u = 0 := by simp [loadU, h2]
      rw [ht, hu, hb]
      clear ht hu hb
      go_enter Try.func25, Try.ntmps25
      go_wp2_with (first | (go_at_call 15; refine (iSteelyardOk_any _ _ _ _).mono ?_; rintro e w1 ⟨rfl, hk⟩; have c0_0 : w1.cell? ⟨w.heap.size, 0, none⟩ = some (.int .i64 p) := hk.at1 (by first | with_reducible assumption | simp [go_sem]); have c0_1 : w1.cell? ⟨w.heap.size, 1, none⟩ = some (.int .i64 s) := hk.at1 (by first | with_reducible assumption | simp [go_sem]); have c0_2 : w1.cell? ⟨w.heap.size, 2, none⟩ = some (.int .i64 e) := hk.at1 (by first | with_reducible assumption | simp [go_sem]); have c1_0 : w1.cell? ⟨w.heap.size + 1, 0, none⟩ = some (.int .i64 t) := hk.at1 (by first | with_reducible assumption | simp [go_sem]); have c1_1 : w1.cell? ⟨w.heap.size + 1, 1, none⟩ = some (.int .i64 u) := hk.at1 (by first | with_reducible assumption | simp [go_sem]); obtain ⟨c2_0, f2_0⟩ : w1.cell? ⟨w.heap.size + 1 + 1, 0, none⟩ = some (.int .i64 0) ∧ w1.frozen? ⟨w.heap.size + 1 + 1, 0, none⟩ = false := hk.at2 (by first | with_reducible assumption | simp [go_sem]) (by first | with_reducible assumption | simp [go_sem]); obtain ⟨c2_1, f2_1⟩ : w1.cell? ⟨w.heap.size + 1 + 1, 1, none⟩ = some (.int .i64 0) ∧ w1.frozen? ⟨w.heap.size + 1 + 1, 1, none⟩ = false := hk.at2 (by first | with_reducible assumption | simp [go_sem]) (by first | with_reducible assumption | simp [go_sem])) | (go_at_call 41; refine (iFracOk_any _ _ _).mono ?_; rintro e w1 ⟨rfl, hk⟩; have c0_0 : w1.cell? ⟨w.heap.size, 0, none⟩ = some (.int .i64 p) := hk.at1 (by first | with_reducible assumption | simp [go_sem]); have c0_1 : w1.cell? ⟨w.heap.size, 1, none⟩ = some (.int .i64 s) := hk.at1 (by first | with_reducible assumption | simp [go_sem]); have c0_2 : w1.cell? ⟨w.heap.size, 2, none⟩ = some (.int .i64 e) := hk.at1 (by first | with_reducible assumption | simp [go_sem]); have c1_0 : w1.cell? ⟨w.heap.size + 1, 0, none⟩ = some (.int .i64 t) := hk.at1 (by first | with_reducible assumption | simp [go_sem]); have c1_1 : w1.cell? ⟨w.heap.size + 1, 1, none⟩ = some (.int .i64 u) := hk.at1 (by first | with_reducible assumption | simp [go_sem]); obtain ⟨c2_0, f2_0⟩ : w1.cell? ⟨w.heap.size + 1 + 1, 0, none⟩ = some (.int .i64 0) ∧ w1.frozen? ⟨w.heap.size + 1 + 1, 0, none⟩ = false := hk.at2 (by first | with_reducible assumption | simp [go_sem]) (by first | with_reducible assumption | simp [go_sem]); obtain ⟨c2_1, f2_1⟩ : w1.cell? ⟨w.heap.size + 1 + 1, 1, none⟩ = some (.int .i64 0) ∧ w1.frozen? ⟨w.heap.size + 1 + 1, 1, none⟩ = false := hk.at2 (by first | with_reducible assumption | simp [go_sem]) (by first | with_reducible assumption | simp [go_sem])))
      exact bodyPost_ret (v := .tuple #[.agg #[.int .i64 0, .int .i64 0], .bool false]) (by simp [results, Try.results25, go_sem, c2_0, c2_1]) rfl ⟨rfl, by (repeat (with_reducible first | exact Kp.refl _ | assumption | refine Kp.drew ?_ | refine Kp.drewN ?_ _ | refine Kp.alloc ?_ _ | refine Kp.setCell ?_ (by first | (simp; done) | (simp; omega) | (dsimp only; omega)) _ | refine Kp.trans ?_ (by assumption)))⟩
  · have hb : loadB p s e t u = false := by simp [loadB, h1]
    have ht : loadT p s e t u = 0 := by simp [loadT, h1]
    have hu : loadU p s e t u = 0 := by simp [loadU, h1]
    rw [ht, hu, hb]
    clear ht hu hb
    go_enter Try.func25, Try.ntmps25
    go_wp2_with (go_at_call 15; refine (iSteelyardOk_any _ _ _ _).mono ?_; rintro e w1 ⟨rfl, hk⟩; have c0_0 : w1.cell? ⟨w.heap.size, 0, none⟩ = some (.int .i64 p) := hk.at1 (by first | with_reducible assumption | simp [go_sem]); have c0_1 : w1.cell? ⟨w.heap.size, 1, none⟩ = some (.int .i64 s) := hk.at1 (by first | with_reducible assumption | simp [go_sem]); have c0_2 : w1.cell? ⟨w.heap.size, 2, none⟩ = some (.int .i64 e) := hk.at1 (by first | with_reducible assumption | simp [go_sem]); have c1_0 : w1.cell? ⟨w.heap.size + 1, 0, none⟩ = some (.int .i64 t) := hk.at1 (by first | with_reducible assumption | simp [go_sem]); have c1_1 : w1.cell? ⟨w.heap.size + 1, 1, none⟩ = some (.int .i64 u) := hk.at1 (by first | with_reducible assumption | simp [go_sem]); obtain ⟨c2_0, f2_0⟩ : w1.cell? ⟨w.heap.size + 1 + 1, 0, none⟩ = some (.int .i64 0) ∧ w1.frozen? ⟨w.heap.size + 1 + 1, 0, none⟩ = false := hk.at2 (by first | with_reducible assumption | simp [go_sem]) (by first | with_reducible assumption | simp [go_sem]); obtain ⟨c2_1, f2_1⟩ : w1.cell? ⟨w.heap.size + 1 + 1, 1, none⟩ = some (.int .i64 0) ∧ w1.frozen? ⟨w.heap.size + 1 + 1, 1, none⟩ = false := hk.at2 (by first | with_reducible assumption | simp [go_sem]) (by first | with_reducible assumption | simp [go_sem]))
    exact bodyPost_ret (v := .tuple #[.agg #[.int .i64 0, .int .i64 0], .bool false]) (by simp [results, Try.results25, go_sem, c2_0, c2_1]) rfl ⟨rfl, by (repeat (with_reducible first | exact Kp.refl _ | assumption | refine Kp.drew ?_ | refine Kp.drewN ?_ _ | refine Kp.alloc ?_ _ | refine Kp.setCell ?_ (by first | (simp; done) | (simp; omega) | (dsimp only; omega)) _ | refine Kp.trans ?_ (by assumption)))⟩
theorem implLevelWith_any (p s e l q : Int) (w : World) : Calls Try.prog 17 #[.agg #[.int .i64 p, .int .i64 s, .int .i64 e], .int .i64 l, .int .i64 q] w fun e' w' => e' = .returned (.bool (levelB p s e l q)) ∧ Kp w w' := by
  by_cases h1 : steelB p s e = true
  · by_cases h2 : inB l 0 10000 = true
    · by_cases h3 : inB q (-10000) 10000 = true
      · obtain ⟨b1, b2, b3⟩ := steelB_bd h1
        have b4 := inB_true.1 h2
        have b5 := inB_true.1 h3
        have hb : levelB p s e l q = (l * p == (q - e) * s) := by simp [levelB, h1, h2, h3]
        have m1 : -1000000 ≤ l * p ∧ l * p ≤ 1000000 := mul_bd (A := 10000) (B := 100) (by omega) (by omega)
        have m2 : -10100000 ≤ (q - e) * s ∧ (q - e) * s ≤ 10100000 := mul_bd (A := 10100) (B := 1000) (by omega) (by omega)
        rw [hb]
        clear hb
        obtain ⟨M1, g1⟩ : ∃ M, M = l * p := ⟨_, rfl⟩
        obtain ⟨M2, g2⟩ : ∃ M, M = (q - e) * s := ⟨_, rfl⟩
        have k1 : l * p = M1 := g1.symm
        have k2 : (q - e) * s = M2 := g2.symm
        rw [← g1, ← g2]
        rw [← g1] at m1
        rw [← g2] at m2
        clear g1 g2
        go_enter Try.func17, Try.ntmps17
        go_wp2_with (first | (go_at_call 15; refine (iSteelyardOk_any _ _ _ _).mono ?_; rintro e w1 ⟨rfl, hk⟩; have c0_0 : w1.cell? ⟨w.heap.size, 0, none⟩ = some (.int .i64 p) := hk.at1 (by first | with_reducible assumption | simp [go_sem]); have c0_1 : w1.cell? ⟨w.heap.size, 1, none⟩ = some (.int .i64 s) := hk.at1 (by first | with_reducible assumption | simp [go_sem]); have c0_2 : w1.cell? ⟨w.heap.size, 2, none⟩ = some (.int .i64 e) := hk.at1 (by first | with_reducible assumption | simp [go_sem])) | (go_at_call 36; refine (in_any _ _ _ _).mono ?_; rintro e w' ⟨rfl, rfl⟩))
        go_ret
        exact ⟨rfl, by (repeat (with_reducible first | exact Kp.refl _ | assumption | refine Kp.drew ?_ | refine Kp.drewN ?_ _ | refine Kp.alloc ?_ _ | refine Kp.setCell ?_ (by first | (simp; done) | (simp; omega) | (dsimp only; omega)) _ | refine Kp.trans ?_ (by assumption)))⟩
      · have hb : levelB p s e l q = false := by simp [levelB, h3]
        rw [hb]
        clear hb
        go_enter Try.func17, Try.ntmps17
        go_wp2_with (first | (go_at_call 15; refine (iSteelyardOk_any _ _ _ _).mono ?_; rintro e w1 ⟨rfl, hk⟩; have c0_0 : w1.cell? ⟨w.heap.size, 0, none⟩ = some (.int .i64 p) := hk.at1 (by first | with_reducible assumption | simp [go_sem]); have c0_1 : w1.cell? ⟨w.heap.size, 1, none⟩ = some (.int .i64 s) := hk.at1 (by first | with_reducible assumption | simp [go_sem]); have c0_2 : w1.cell? ⟨w.heap.size, 2, none⟩ = some (.int .i64 e) := hk.at1 (by first | with_reducible assumption | simp [go_sem])) | (go_at_call 36; refine (in_any _ _ _ _).mono ?_; rintro e w' ⟨rfl, rfl⟩))
        go_ret
        exact ⟨rfl, by (repeat (with_reducible first | exact Kp.refl _ | assumption | refine Kp.drew ?_ | refine Kp.drewN ?_ _ | refine Kp.alloc ?_ _ | refine Kp.setCell ?_ (by first | (simp; done) | (simp; omega) | (dsimp only; omega)) _ | refine Kp.trans ?_ (by assumption)))⟩
    · have hb : levelB p s e l q = false := by simp [levelB, h2]
      rw [hb]
      clear hb
      go_enter Try.func17, Try.ntmps17
      go_wp2_with (first | (go_at_call 15; refine (iSteelyardOk_any _ _ _ _).mono ?_; rintro e w1 ⟨rfl, hk⟩; have c0_0 : w1.cell? ⟨w.heap.size, 0, none⟩ = some (.int .i64 p) := hk.at1 (by first | with_reducible assumption | simp [go_sem]); have c0_1 : w1.cell? ⟨w.heap.size, 1, none⟩ = some (.int .i64 s) := hk.at1 (by first | with_reducible assumption | simp [go_sem]); have c0_2 : w1.cell? ⟨w.heap.size, 2, none⟩ = some (.int .i64 e) := hk.at1 (by first | with_reducible assumption | simp [go_sem])) | (go_at_call 36; refine (in_any _ _ _ _).mono ?_; rintro e w' ⟨rfl, rfl⟩))
      go_ret
      exact ⟨rfl, by (repeat (with_reducible first | exact Kp.refl _ | assumption | refine Kp.drew ?_ | refine Kp.drewN ?_ _ | refine Kp.alloc ?_ _ | refine Kp.setCell ?_ (by first | (simp; done) | (simp; omega) | (dsimp only; omega)) _ | refine Kp.trans ?_ (by assumption)))⟩
  · have hb : levelB p s e l q = false := by simp [levelB, h1]
    rw [hb]
    clear hb
    go_enter Try.func17, Try.ntmps17
    go_wp2_with (go_at_call 15; refine (iSteelyardOk_any _ _ _ _).mono ?_; rintro e w1 ⟨rfl, hk⟩; have c0_0 : w1.cell? ⟨w.heap.size, 0, none⟩ = some (.int .i64 p) := hk.at1 (by first | with_reducible assumption | simp [go_sem]); have c0_1 : w1.cell? ⟨w.heap.size, 1, none⟩ = some (.int .i64 s) := hk.at1 (by first | with_reducible assumption | simp [go_sem]); have c0_2 : w1.cell? ⟨w.heap.size, 2, none⟩ = some (.int .i64 e) := hk.at1 (by first | with_reducible assumption | simp [go_sem]))
    go_ret
    exact ⟨rfl, by (repeat (with_reducible first | exact Kp.refl _ | assumption | refine Kp.drew ?_ | refine Kp.drewN ?_ _ | refine Kp.alloc ?_ _ | refine Kp.setCell ?_ (by first | (simp; done) | (simp; omega) | (dsimp only; omega)) _ | refine Kp.trans ?_ (by assumption)))⟩
theorem specMarkFor_any (p s e l : Int) (w : World) : Calls Try.prog 22 #[.agg #[.int .i64 p, .int .i64 s, .int .i64 e], .int .i64 l] w fun e' w' => e' = .returned (.tuple #[.agg #[.int .i64 (markT p s e l), .int .i64 (markU p s e l)], .bool (markB p s e l)]) ∧ Kp w w' := by
  by_cases h1 : steelB p s e = true
  · by_cases h2 : inB l 0 10000 = true
    · obtain ⟨b1, b2, b3⟩ := steelB_bd h1
      have b4 := inB_true.1 h2
      have hb : markB p s e l = mfB (e * s + l * p) s := by simp [markB, h1, h2]
      have ht : markT p s e l = mfT (e * s + l * p) s := by simp [markT, h1, h2]
      have hu : markU p s e l = mfU (e * s + l * p) s := by simp [markU, h1, h2]
      have m1 : -100000 ≤ e * s ∧ e * s ≤ 100000 := mul_bd (A := 100) (B := 1000) (by omega) (by omega)
      have m2 : -1000000 ≤ l * p ∧ l * p ≤ 1000000 := mul_bd (A := 10000) (B := 100) (by omega) (by omega)
      rw [ht, hu, hb]
      clear ht hu hb
      obtain ⟨M1, g1⟩ : ∃ M, M = e * s := ⟨_, rfl⟩
      obtain ⟨M2, g2⟩ : ∃ M, M = l * p := ⟨_, rfl⟩
      have k1 : e * s = M1 := g1.symm
      have k2 : l * p = M2 := g2.symm
      rw [← g1, ← g2]
      rw [← g1] at m1
      rw [← g2] at m2
      clear g1 g2
      go_enter Try.func22, Try.ntmps22
      go_wp2_with (first | (go_at_call 13; refine (sSteelyardOk_any _ _ _ _).mono ?_; rintro e w1 ⟨rfl, hk⟩; have c0_0 : w1.cell? ⟨w.heap.size, 0, none⟩ = some (.int .i64 p) := hk.at1 (by first | with_reducible assumption | simp [go_sem]); have c0_1 : w1.cell? ⟨w.heap.size, 1, none⟩ = some (.int .i64 s) := hk.at1 (by first | with_reducible assumption | simp [go_sem]); have c0_2 : w1.cell? ⟨w.heap.size, 2, none⟩ = some (.int .i64 e) := hk.at1 (by first | with_reducible assumption | simp [go_sem]); obtain ⟨c1_0, f1_0⟩ : w1.cell? ⟨w.heap.size + 1, 0, none⟩ = some (.int .i64 0) ∧ w1.frozen? ⟨w.heap.size + 1, 0, none⟩ = false := hk.at2 (by first | with_reducible assumption | simp [go_sem]) (by first | with_reducible assumption | simp [go_sem]); obtain ⟨c1_1, f1_1⟩ : w1.cell? ⟨w.heap.size + 1, 1, none⟩ = some (.int .i64 0) ∧ w1.frozen? ⟨w.heap.size + 1, 1, none⟩ = false := hk.at2 (by first | with_reducible assumption | simp [go_sem]) (by first | with_reducible assumption | simp [go_sem])) | (go_at_call 35; refine (l01In_any _ _ _ _).mono ?_; rintro e w' ⟨rfl, rfl⟩) | (go_at_call 38; refine (sMake_any _ _ _).mono ?_; rintro e w1 ⟨rfl, hk⟩; obtain ⟨c1_0, f1_0⟩ : w1.cell? ⟨w.heap.size + 1, 0, none⟩ = some (.int .i64 0) ∧ w1.frozen? ⟨w.heap.size + 1, 0, none⟩ = false := hk.at2 (by first | with_reducible assumption | simp [go_sem]) (by first | with_reducible assumption | simp [go_sem]); obtain ⟨c1_1, f1_1⟩ : w1.cell? ⟨w.heap.size + 1, 1, none⟩ = some (.int .i64 0) ∧ w1.frozen? ⟨w.heap.size + 1, 1, none⟩ = false := hk.at2 (by first | with_reducible assumption | simp [go_sem]) (by first | with_reducible assumption | simp [go_sem])))
      exact bodyPost_ret (v := .tuple #[.agg #[.int .i64 (mfT (M1 + M2) s), .int .i64 (mfU (M1 + M2) s)], .bool (mfB (M1 + M2) s)]) (by simp [results, Try.results22, go_sem, c1_0, c1_1]) rfl ⟨rfl, by (repeat (with_reducible first | exact Kp.refl _ | assumption | refine Kp.drew ?_ | refine Kp.drewN ?_ _ | refine Kp.alloc ?_ _ | refine Kp.setCell ?_ (by first | (simp; done) | (simp; omega) | (dsimp only; omega)) _ | refine Kp.trans ?_ (by assumption)))⟩
    · have hb : markB p s e l = false := by simp [markB, h2]
      have ht : markT p s e l = 0 := by simp [markT, h2]
      have hu : markU p s e l = 0 := by simp [markU, h2]
      rw [ht, hu, hb]
      clear ht hu hb
      go_enter Try.func22, Try.ntmps22
      go_wp2_with (first | (go_at_call 13; refine (sSteelyardOk_any _ _ _ _).mono ?_; rintro e w1 ⟨rfl, hk⟩; have c0_0 : w1.cell? ⟨w.heap.size, 0, none⟩ = some (.int .i64 p) := hk.at1 (by first | with_reducible assumption | simp [go_sem]); have c0_1 : w1.cell? ⟨w.heap.size, 1, none⟩ = some (.int .i64 s) := hk.at1 (by first | with_reducible assumption | simp [go_sem]); have c0_2 : w1.cell? ⟨w.heap.size, 2, none⟩ = some (.int .i64 e) := hk.at1 (by first | with_reducible assumption | simp [go_sem]); obtain ⟨c1_0, f1_0⟩ : w1.cell? ⟨w.heap.size + 1, 0, none⟩ = some (.int .i64 0) ∧ w1.frozen? ⟨w.heap.size + 1, 0, none⟩ = false := hk.at2 (by first | with_reducible assumption | simp [go_sem]) (by first | with_reducible assumption | simp [go_sem]); obtain ⟨c1_1, f1_1⟩ : w1.cell? ⟨w.heap.size + 1, 1, none⟩ = some (.int .i64 0) ∧ w1.frozen? ⟨w.heap.size + 1, 1, none⟩ = false := hk.at2 (by first | with_reducible assumption | simp [go_sem]) (by first | with_reducible assumption | simp [go_sem])) | (go_at_call 35; refine (l01In_any _ _ _ _).mono ?_; rintro e w' ⟨rfl, rfl⟩))
      exact bodyPost_ret (v := .tuple #[.agg #[.int .i64 0, .int .i64 0], .bool false]) (by simp [results, Try.results22, go_sem, c1_0, c1_1]) rfl ⟨rfl, by (repeat (with_reducible first | exact Kp.refl _ | assumption | refine Kp.drew ?_ | refine Kp.drewN ?_ _ | refine Kp.alloc ?_ _ | refine Kp.setCell ?_ (by first | (simp; done) | (simp; omega) | (dsimp only; omega)) _ | refine Kp.trans ?_ (by assumption)))⟩
  · have hb : markB p s e l = false := by simp [markB, h1]
    have ht : markT p s e l = 0 := by simp [markT, h1]
    have hu : markU p s e l = 0 := by simp [markU, h1]
    rw [ht, hu, hb]
    clear ht hu hb
    go_enter Try.func22, Try.ntmps22
    go_wp2_with (go_at_call 13; refine (sSteelyardOk_any _ _ _ _).mono ?_; rintro e w1 ⟨rfl, hk⟩; have c0_0 : w1.cell? ⟨w.heap.size, 0, none⟩ = some (.int .i64 p) := hk.at1 (by first | with_reducible assumption | simp [go_sem]); have c0_1 : w1.cell? ⟨w.heap.size, 1, none⟩ = some (.int .i64 s) := hk.at1 (by first | with_reducible assumption | simp [go_sem]); have c0_2 : w1.cell? ⟨w.heap.size, 2, none⟩ = some (.int .i64 e) := hk.at1 (by first | with_reducible assumption | simp [go_sem]); obtain ⟨c1_0, f1_0⟩ : w1.cell? ⟨w.heap.size + 1, 0, none⟩ = some (.int .i64 0) ∧ w1.frozen? ⟨w.heap.size + 1, 0, none⟩ = false := hk.at2 (by first | with_reducible assumption | simp [go_sem]) (by first | with_reducible assumption | simp [go_sem]); obtain ⟨c1_1, f1_1⟩ : w1.cell? ⟨w.heap.size + 1, 1, none⟩ = some (.int .i64 0) ∧ w1.frozen? ⟨w.heap.size + 1, 1, none⟩ = false := hk.at2 (by first | with_reducible assumption | simp [go_sem]) (by first | with_reducible assumption | simp [go_sem]))
    exact bodyPost_ret (v := .tuple #[.agg #[.int .i64 0, .int .i64 0], .bool false]) (by simp [results, Try.results22, go_sem, c1_0, c1_1]) rfl ⟨rfl, by (repeat (with_reducible first | exact Kp.refl _ | assumption | refine Kp.drew ?_ | refine Kp.drewN ?_ _ | refine Kp.alloc ?_ _ | refine Kp.setCell ?_ (by first | (simp; done) | (simp; omega) | (dsimp only; omega)) _ | refine Kp.trans ?_ (by assumption)))⟩
theorem specLoadAt_any (p s e t u : Int) (w : World) : Calls Try.prog 24 #[.agg #[.int .i64 p, .int .i64 s, .int .i64 e], .agg #[.int .i64 t, .int .i64 u]] w fun e' w' => e' = .returned (.tuple #[.agg #[.int .i64 (loadT p s e t u), .int .i64 (loadU p s e t u)], .bool (loadB p s e t u)]) ∧ Kp w w' := by
  by_cases h1 : steelB p s e = true
  · by_cases h2 : fracB t u = true
    · obtain ⟨b1, b2, b3⟩ := steelB_bd h1
      obtain ⟨b4, b5⟩ := fracB_bd h2
      have hb : loadB p s e t u = mfB ((t - e * u) * s) (u * p) := by simp [loadB, h1, h2]
      have ht : loadT p s e t u = mfT ((t - e * u) * s) (u * p) := by simp [loadT, h1, h2]
      have hu : loadU p s e t u = mfU ((t - e * u) * s) (u * p) := by simp [loadU, h1, h2]
      have m1 : -100000000 ≤ e * u ∧ e * u ≤ 100000000 := mul_bd (A := 100) (B := 1000000) (by omega) (by omega)
      have m2 : -100000000 ≤ u * p ∧ u * p ≤ 100000000 := mul_bd (A := 1000000) (B := 100) (by omega) (by omega)
      rw [ht, hu, hb]
      clear ht hu hb
      obtain ⟨M1, g1⟩ : ∃ M, M = e * u := ⟨_, rfl⟩
      obtain ⟨M2, g2⟩ : ∃ M, M = u * p := ⟨_, rfl⟩
      have k1 : e * u = M1 := g1.symm
      have k2 : u * p = M2 := g2.symm
      rw [← g1, ← g2]
      rw [← g1] at m1
      rw [← g2] at m2
      clear g1 g2
      have m3 : -101000000000 ≤ (t - M1) * s ∧ (t - M1) * s ≤ 101000000000 := mul_bd (A := 101000000) (B := 1000) (by omega) (by omega)
      obtain ⟨M3, g3⟩ : ∃ M, M = (t - M1) * s := ⟨_, rfl⟩
      have k3 : (t - M1) * s = M3 := g3.symm
      rw [← g3]
      rw [← g3] at m3
      clear g3
      go_enter Try.func24, Try.ntmps24
      go_wp2_with (first | (go_at_call 13; refine (sSteelyardOk_any _ _ _ _).mono ?_; rintro e w1 ⟨rfl, hk⟩; have c0_0 : w1.cell? ⟨w.heap.size, 0, none⟩ = some (.int .i64 p) := hk.at1 (by first | with_reducible assumption | simp [go_sem]); have c0_1 : w1.cell? ⟨w.heap.size, 1, none⟩ = some (.int .i64 s) := hk.at1 (by first | with_reducible assumption | simp [go_sem]); have c0_2 : w1.cell? ⟨w.heap.size, 2, none⟩ = some (.int .i64 e) := hk.at1 (by first | with_reducible assumption | simp [go_sem]); have c1_0 : w1.cell? ⟨w.heap.size + 1, 0, none⟩ = some (.int .i64 t) := hk.at1 (by first | with_reducible assumption | simp [go_sem]); have c1_1 : w1.cell? ⟨w.heap.size + 1, 1, none⟩ = some (.int .i64 u) := hk.at1 (by first | with_reducible assumption | simp [go_sem]); obtain ⟨c2_0, f2_0⟩ : w1.cell? ⟨w.heap.size + 1 + 1, 0, none⟩ = some (.int .i64 0) ∧ w1.frozen? ⟨w.heap.size + 1 + 1, 0, none⟩ = false := hk.at2 (by first | with_reducible assumption | simp [go_sem]) (by first | with_reducible assumption | simp [go_sem]); obtain ⟨c2_1, f2_1⟩ : w1.cell? ⟨w.heap.size + 1 + 1, 1, none⟩ = some (.int .i64 0) ∧ w1.frozen? ⟨w.heap.size + 1 + 1, 1, none⟩ = false := hk.at2 (by first | with_reducible assumption | simp [go_sem]) (by first | with_reducible assumption | simp [go_sem])) | (go_at_call 37; refine (sFracOk_any _ _ _).mono ?_; rintro e w1 ⟨rfl, hk⟩; have c0_0 : w1.cell? ⟨w.heap.size, 0, none⟩ = some (.int .i64 p) := hk.at1 (by first | with_reducible assumption | simp [go_sem]); have c0_1 : w1.cell? ⟨w.heap.size, 1, none⟩ = some (.int .i64 s) := hk.at1 (by first | with_reducible assumption | simp [go_sem]); have c0_2 : w1.cell? ⟨w.heap.size, 2, none⟩ = some (.int .i64 e) := hk.at1 (by first | with_reducible assumption | simp [go_sem]); have c1_0 : w1.cell? ⟨w.heap.size + 1, 0, none⟩ = some (.int .i64 t) := hk.at1 (by first | with_reducible assumption | simp [go_sem]); have c1_1 : w1.cell? ⟨w.heap.size + 1, 1, none⟩ = some (.int .i64 u) := hk.at1 (by first | with_reducible assumption | simp [go_sem]); obtain ⟨c2_0, f2_0⟩ : w1.cell? ⟨w.heap.size + 1 + 1, 0, none⟩ = some (.int .i64 0) ∧ w1.frozen? ⟨w.heap.size + 1 + 1, 0, none⟩ = false := hk.at2 (by first | with_reducible assumption | simp [go_sem]) (by first | with_reducible assumption | simp [go_sem]); obtain ⟨c2_1, f2_1⟩ : w1.cell? ⟨w.heap.size + 1 + 1, 1, none⟩ = some (.int .i64 0) ∧ w1.frozen? ⟨w.heap.size + 1 + 1, 1, none⟩ = false := hk.at2 (by first | with_reducible assumption | simp [go_sem]) (by first | with_reducible assumption | simp [go_sem])) | (go_at_call 38; refine (sMake_any _ _ _).mono ?_; rintro e w1 ⟨rfl, hk⟩; obtain ⟨c2_0, f2_0⟩ : w1.cell? ⟨w.heap.size + 1 + 1, 0, none⟩ = some (.int .i64 0) ∧ w1.frozen? ⟨w.heap.size + 1 + 1, 0, none⟩ = false := hk.at2 (by first | with_reducible assumption | simp [go_sem]) (by first | with_reducible assumption | simp [go_sem]); obtain ⟨c2_1, f2_1⟩ : w1.cell? ⟨w.heap.size + 1 + 1, 1, none⟩ = some (.int .i64 0) ∧ w1.frozen? ⟨w.heap.size + 1 + 1, 1, none⟩ = false := hk.at2 (by first | with_reducible assumption | simp [go_sem]) (by first | with_reducible assumption | simp [go_sem])))
      exact bodyPost_ret (v := .tuple #[.agg #[.int .i64 (mfT M3 M2), .int .i64 (mfU M3 M2)], .bool (mfB M3 M2)]) (by simp [results, Try.results24, go_sem, c2_0, c2_1]) rfl ⟨rfl, by (repeat (with_reducible first | exact Kp.refl _ | assumption | refine Kp.drew ?_ | refine Kp.drewN ?_ _ | refine Kp.alloc ?_ _ | refine Kp.setCell ?_ (by first | (simp; done) | (simp; omega) | (dsimp only; omega)) _ | refine Kp.trans ?_ (by assumption)))⟩
    · have hb : loadB p s e t u = false := by simp [loadB, h2]
      have ht : loadT p s e t u = 0 := by simp [loadT, h2]
      have hu : loadU p s e t u = 0 := by simp [loadU, h2]
      rw [ht, hu, hb]
      clear ht hu hb
      go_enter Try.func24, Try.ntmps24
      go_wp2_with (first | (go_at_call 13; refine (sSteelyardOk_any _ _ _ _).mono ?_; rintro e w1 ⟨rfl, hk⟩; have c0_0 : w1.cell? ⟨w.heap.size, 0, none⟩ = some (.int .i64 p) := hk.at1 (by first | with_reducible assumption | simp [go_sem]); have c0_1 : w1.cell? ⟨w.heap.size, 1, none⟩ = some (.int .i64 s) := hk.at1 (by first | with_reducible assumption | simp [go_sem]); have c0_2 : w1.cell? ⟨w.heap.size, 2, none⟩ = some (.int .i64 e) := hk.at1 (by first | with_reducible assumption | simp [go_sem]); have c1_0 : w1.cell? ⟨w.heap.size + 1, 0, none⟩ = some (.int .i64 t) := hk.at1 (by first | with_reducible assumption | simp [go_sem]); have c1_1 : w1.cell? ⟨w.heap.size + 1, 1, none⟩ = some (.int .i64 u) := hk.at1 (by first | with_reducible assumption | simp [go_sem]); obtain ⟨c2_0, f2_0⟩ : w1.cell? ⟨w.heap.size + 1 + 1, 0, none⟩ = some (.int .i64 0) ∧ w1.frozen? ⟨w.heap.size + 1 + 1, 0, none⟩ = false := hk.at2 (by first | with_reducible assumption | simp [go_sem]) (by first | with_reducible assumption | simp [go_sem]); obtain ⟨c2_1, f2_1⟩ : w1.cell? ⟨w.heap.size + 1 + 1, 1, none⟩ = some (.int .i64 0) ∧ w1.frozen? ⟨w.heap.size + 1 + 1, 1, none⟩ = false := hk.at2 (by first | with_reducible assumption | simp [go_sem]) (by first | with_reducible assumption | simp [go_sem])) | (go_at_call 37; refine (sFracOk_any _ _ _).mono ?_; rintro e w1 ⟨rfl, hk⟩; have c0_0 : w1.cell? ⟨w.heap.size, 0, none⟩ = some (.int .i64 p) := hk.at1 (by first | with_reducible assumption | simp [go_sem]); have c0_1 : w1.cell? ⟨w.heap.size, 1, none⟩ = some (.int .i64 s) := hk.at1 (by first | with_reducible assumption | simp [go_sem]); have c0_2 : w1.cell? ⟨w.heap.size, 2, none⟩ = some (.int .i64 e) := hk.at1 (by first | with_reducible assumption | simp [go_sem]); have c1_0 : w1.cell? ⟨w.heap.size + 1, 0, none⟩ = some (.int .i64 t) := hk.at1 (by first | with_reducible assumption | simp [go_sem]); have c1_1 : w1.cell? ⟨w.heap.size + 1, 1, none⟩ = some (.int .i64 u) := hk.at1 (by first | with_reducible assumption | simp [go_sem]); obtain ⟨c2_0, f2_0⟩ : w1.cell? ⟨w.heap.size + 1 + 1, 0, none⟩ = some (.int .i64 0) ∧ w1.frozen? ⟨w.heap.size + 1 + 1, 0, none⟩ = false := hk.at2 (by first | with_reducible assumption | simp [go_sem]) (by first | with_reducible assumption | simp [go_sem]); obtain ⟨c2_1, f2_1⟩ : w1.cell? ⟨w.heap.size + 1 + 1, 1, none⟩ = some (.int .i64 0) ∧ w1.frozen? ⟨w.heap.size + 1 + 1, 1, none⟩ = false := hk.at2 (by first | with_reducible assumption | simp [go_sem]) (by first | with_reducible assumption | simp [go_sem])))
      exact bodyPost_ret (v := .tuple #[.agg #[.int .i64 0, .int .i64 0], .bool false]) (by simp [results, Try.results24, go_sem, c2_0, c2_1]) rfl ⟨rfl, by (repeat (with_reducible first | exact Kp.refl _ | assumption | refine Kp.drew ?_ | refine Kp.drewN ?_ _ | refine Kp.alloc ?_ _ | refine Kp.setCell ?_ (by first | (simp; done) | (simp; omega) | (dsimp only; omega)) _ | refine Kp.trans ?_ (by assumption)))⟩
  · have hb : loadB p s e t u = false := by simp [loadB, h1]
    have ht : loadT p s e t u = 0 := by simp [loadT, h1]
    have hu : loadU p s e t u = 0 := by simp [loadU, h1]
    rw [ht, hu, hb]
    clear ht hu hb
    go_enter Try.func24, Try.ntmps24
    go_wp2_with (go_at_call 13; refine (sSteelyardOk_any _ _ _ _).mono ?_; rintro e w1 ⟨rfl, hk⟩; have c0_0 : w1.cell? ⟨w.heap.size, 0, none⟩ = some (.int .i64 p) := hk.at1 (by first | with_reducible assumption | simp [go_sem]); have c0_1 : w1.cell? ⟨w.heap.size, 1, none⟩ = some (.int .i64 s) := hk.at1 (by first | with_reducible assumption | simp [go_sem]); have c0_2 : w1.cell? ⟨w.heap.size, 2, none⟩ = some (.int .i64 e) := hk.at1 (by first | with_reducible assumption | simp [go_sem]); have c1_0 : w1.cell? ⟨w.heap.size + 1, 0, none⟩ = some (.int .i64 t) := hk.at1 (by first | with_reducible assumption | simp [go_sem]); have c1_1 : w1.cell? ⟨w.heap.size + 1, 1, none⟩ = some (.int .i64 u) := hk.at1 (by first | with_reducible assumption | simp [go_sem]); obtain ⟨c2_0, f2_0⟩ : w1.cell? ⟨w.heap.size + 1 + 1, 0, none⟩ = some (.int .i64 0) ∧ w1.frozen? ⟨w.heap.size + 1 + 1, 0, none⟩ = false := hk.at2 (by first | with_reducible assumption | simp [go_sem]) (by first | with_reducible assumption | simp [go_sem]); obtain ⟨c2_1, f2_1⟩ : w1.cell? ⟨w.heap.size + 1 + 1, 1, none⟩ = some (.int .i64 0) ∧ w1.frozen? ⟨w.heap.size + 1 + 1, 1, none⟩ = false := hk.at2 (by first | with_reducible assumption | simp [go_sem]) (by first | with_reducible assumption | simp [go_sem]))
    exact bodyPost_ret (v := .tuple #[.agg #[.int .i64 0, .int .i64 0], .bool false]) (by simp [results, Try.results24, go_sem, c2_0, c2_1]) rfl ⟨rfl, by (repeat (with_reducible first | exact Kp.refl _ | assumption | refine Kp.drew ?_ | refine Kp.drewN ?_ _ | refine Kp.alloc ?_ _ | refine Kp.setCell ?_ (by first | (simp; done) | (simp; omega) | (dsimp only; omega)) _ | refine Kp.trans ?_ (by assumption)))⟩
theorem specLevelWith_any (p s e l q : Int) (w : World) : Calls Try.prog 16 #[.agg #[.int .i64 p, .int .i64 s, .int .i64 e], .int .i64 l, .int .i64 q] w fun e' w' => e' = .returned (.bool (levelB p s e l q)) ∧ Kp w w' := by
  by_cases h1 : steelB p s e = true
  · by_cases h2 : inB l 0 10000 = true
    · by_cases h3 : inB q (-10000) 10000 = true
      · obtain ⟨b1, b2, b3⟩ := steelB_bd h1
        have b4 := inB_true.1 h2
        have b5 := inB_true.1 h3
        have hb : levelB p s e l q = (l * p == (q - e) * s) := by simp [levelB, h1, h2, h3]
        have m1 : -1000000 ≤ l * p ∧ l * p ≤ 1000000 := mul_bd (A := 10000) (B := 100) (by omega) (by omega)
        have m2 : -10100000 ≤ (q - e) * s ∧ (q - e) * s ≤ 10100000 := mul_bd (A := 10100) (B := 1000) (by omega) (by omega)
        rw [hb]
        clear hb
        obtain ⟨M1, g1⟩ : ∃ M, M = l * p := ⟨_, rfl⟩
        obtain ⟨M2, g2⟩ : ∃ M, M = (q - e) * s := ⟨_, rfl⟩
        have k1 : l * p = M1 := g1.symm
        have k2 : (q - e) * s = M2 := g2.symm
        rw [← g1, ← g2]
        rw [← g1] at m1
        rw [← g2] at m2
        clear g1 g2
        go_enter Try.func16, Try.ntmps16
        go_wp2_with (first | (go_at_call 13; refine (sSteelyardOk_any _ _ _ _).mono ?_; rintro e w1 ⟨rfl, hk⟩; have c0_0 : w1.cell? ⟨w.heap.size, 0, none⟩ = some (.int .i64 p) := hk.at1 (by first | with_reducible assumption | simp [go_sem]); have c0_1 : w1.cell? ⟨w.heap.size, 1, none⟩ = some (.int .i64 s) := hk.at1 (by first | with_reducible assumption | simp [go_sem]); have c0_2 : w1.cell? ⟨w.heap.size, 2, none⟩ = some (.int .i64 e) := hk.at1 (by first | with_reducible assumption | simp [go_sem])) | (go_at_call 35; refine (l01In_any _ _ _ _).mono ?_; rintro e w' ⟨rfl, rfl⟩))
        go_ret
        exact ⟨rfl, by (repeat (with_reducible first | exact Kp.refl _ | assumption | refine Kp.drew ?_ | refine Kp.drewN ?_ _ | refine Kp.alloc ?_ _ | refine Kp.setCell ?_ (by first | (simp; done) | (simp; omega) | (dsimp only; omega)) _ | refine Kp.trans ?_ (by assumption)))⟩
      · have hb : levelB p s e l q = false := by simp [levelB, h3]
        rw [hb]
        clear hb
        go_enter Try.func16, Try.ntmps16
        go_wp2_with (first | (go_at_call 13; refine (sSteelyardOk_any _ _ _ _).mono ?_; rintro e w1 ⟨rfl, hk⟩; have c0_0 : w1.cell? ⟨w.heap.size, 0, none⟩ = some (.int .i64 p) := hk.at1 (by first | with_reducible assumption | simp [go_sem]); have c0_1 : w1.cell? ⟨w.heap.size, 1, none⟩ = some (.int .i64 s) := hk.at1 (by first | with_reducible assumption | simp [go_sem]); have c0_2 : w1.cell? ⟨w.heap.size, 2, none⟩ = some (.int .i64 e) := hk.at1 (by first | with_reducible assumption | simp [go_sem])) | (go_at_call 35; refine (l01In_any _ _ _ _).mono ?_; rintro e w' ⟨rfl, rfl⟩))
        go_ret
        exact ⟨rfl, by (repeat (with_reducible first | exact Kp.refl _ | assumption | refine Kp.drew ?_ | refine Kp.drewN ?_ _ | refine Kp.alloc ?_ _ | refine Kp.setCell ?_ (by first | (simp; done) | (simp; omega) | (dsimp only; omega)) _ | refine Kp.trans ?_ (by assumption)))⟩
    · have hb : levelB p s e l q = false := by simp [levelB, h2]
      rw [hb]
      clear hb
      go_enter Try.func16, Try.ntmps16
      go_wp2_with (first | (go_at_call 13; refine (sSteelyardOk_any _ _ _ _).mono ?_; rintro e w1 ⟨rfl, hk⟩; have c0_0 : w1.cell? ⟨w.heap.size, 0, none⟩ = some (.int .i64 p) := hk.at1 (by first | with_reducible assumption | simp [go_sem]); have c0_1 : w1.cell? ⟨w.heap.size, 1, none⟩ = some (.int .i64 s) := hk.at1 (by first | with_reducible assumption | simp [go_sem]); have c0_2 : w1.cell? ⟨w.heap.size, 2, none⟩ = some (.int .i64 e) := hk.at1 (by first | with_reducible assumption | simp [go_sem])) | (go_at_call 35; refine (l01In_any _ _ _ _).mono ?_; rintro e w' ⟨rfl, rfl⟩))
      go_ret
      exact ⟨rfl, by (repeat (with_reducible first | exact Kp.refl _ | assumption | refine Kp.drew ?_ | refine Kp.drewN ?_ _ | refine Kp.alloc ?_ _ | refine Kp.setCell ?_ (by first | (simp; done) | (simp; omega) | (dsimp only; omega)) _ | refine Kp.trans ?_ (by assumption)))⟩
  · have hb : levelB p s e l q = false := by simp [levelB, h1]
    rw [hb]
    clear hb
    go_enter Try.func16, Try.ntmps16
    go_wp2_with (go_at_call 13; refine (sSteelyardOk_any _ _ _ _).mono ?_; rintro e w1 ⟨rfl, hk⟩; have c0_0 : w1.cell? ⟨w.heap.size, 0, none⟩ = some (.int .i64 p) := hk.at1 (by first | with_reducible assumption | simp [go_sem]); have c0_1 : w1.cell? ⟨w.heap.size, 1, none⟩ = some (.int .i64 s) := hk.at1 (by first | with_reducible assumption | simp [go_sem]); have c0_2 : w1.cell? ⟨w.heap.size, 2, none⟩ = some (.int .i64 e) := hk.at1 (by first | with_reducible assumption | simp [go_sem]))
    go_ret
    exact ⟨rfl, by (repeat (with_reducible first | exact Kp.refl _ | assumption | refine Kp.drew ?_ | refine Kp.drewN ?_ _ | refine Kp.alloc ?_ _ | refine Kp.setCell ?_ (by first | (simp; done) | (simp; omega) | (dsimp only; omega)) _ | refine Kp.trans ?_ (by assumption)))⟩
end Go.Proofs.Ytamhdjbhoafbhaa
