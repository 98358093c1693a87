/- Contracts of the functions on glasses, of the program and of the reference. -/
import Derived.Test.YtpafcambfmkmiaaKeep
set_option linter.unusedVariables false
namespace Go.Proofs.Ytpafcambfmkmiaa
open Go.RowKit

theorem Kp.two44f {w w1 : World} {x0 x1 x2 x3 y0 y1 y2 y3 : Value} {t t' : TypeId} (h : Kp ((w.alloc (.cells #[x0, x1, x2, x3] t)).alloc (.cells #[y0, y1, y2, y3] t')) w1) :
    w1.frozen? ⟨w.heap.size, 2, none⟩ = false ∧ w1.frozen? ⟨w.heap.size, 3, none⟩ = false :=
  ⟨(h.at2 (v := x2) (by simp [go_sem]) (by simp [go_sem])).2, (h.at2 (v := x3) (by simp [go_sem]) (by simp [go_sem])).2⟩
def glassB (f s a b : Int) : Bool := inB f 1 12 && inB s 1 12 && inB a 0 f && inB b 0 s
theorem glassB_bd {f s a b : Int} (h : glassB f s a b = true) : (1 ≤ f ∧ f ≤ 12) ∧ (1 ≤ s ∧ s ≤ 12) ∧ (0 ≤ a ∧ a ≤ f) ∧ (0 ≤ b ∧ b ≤ s) := by
  simp only [glassB, Bool.and_eq_true] at h
  exact ⟨inB_true.1 h.1.1.1, inB_true.1 h.1.1.2, inB_true.1 h.1.2, inB_true.1 h.2⟩
theorem toGlasses_any (a b c d : Int) (w : World) : Calls Try.prog 10 #[.agg #[.int .i64 a, .int .i64 b, .int .i64 c, .int .i64 d]] w fun e w' => e = .returned (.agg #[.int .i64 a, .int .i64 b, .int .i64 c, .int .i64 d]) ∧ Kp w w' := by
  go_enter Try.func10, Try.ntmps10
  go_wp2
  exact bodyPost_ret (v := .agg #[.int .i64 a, .int .i64 b, .int .i64 c, .int .i64 d]) (by simp [results, Try.results10, go_sem]) rfl ⟨rfl, by (repeat (with_reducible first | exact Kp.refl _ | assumption | refine Kp.drew ?_ | refine Kp.drewN ?_ _ | refine Kp.alloc ?_ _ | refine Kp.setCell ?_ (by first | (simp; done) | (simp; omega) | (dsimp only; omega)) _ | refine Kp.trans ?_ (by assumption)))⟩
theorem eqGlasses_same (a b c d : Int) (w : World) : Calls Try.prog 14 #[.agg #[.int .i64 a, .int .i64 b, .int .i64 c, .int .i64 d], .agg #[.int .i64 a, .int .i64 b, .int .i64 c, .int .i64 d]] w fun e w' => e = .returned (.bool true) ∧ Kp w w' := by
  go_enter Try.func14, Try.ntmps14
  go_wp2
  go_ret
  exact ⟨rfl, by (repeat (with_reducible first | exact Kp.refl _ | assumption | refine Kp.drew ?_ | refine Kp.drewN ?_ _ | refine Kp.alloc ?_ _ | refine Kp.setCell ?_ (by first | (simp; done) | (simp; omega) | (dsimp only; omega)) _ | refine Kp.trans ?_ (by assumption)))⟩
def fA (f s a b w : Int) : Int := if (glassB f s a b && inB w 1 3) = true then (if w = 2 then a else f - a) else a
def fB (f s a b w : Int) : Int := if (glassB f s a b && inB w 1 3) = true then (if w = 1 then b else s - b) else b
def gA (f s a b : Int) : Int := if glassB f s a b = true then (if 0 < a ∧ 0 < b then a - min a b else 0) else a
def gB (f s a b : Int) : Int := if glassB f s a b = true then (if 0 < a ∧ 0 < b then b - min a b else 0) else b
def gT (f s a b : Int) : Int := if glassB f s a b = true then (if 0 < a ∧ 0 < b then min a b else max a b) else 0
theorem specGlassesOk_any (a b c d : Int) (w : World) : Calls Try.prog 9 #[.agg #[.int .i64 a, .int .i64 b, .int .i64 c, .int .i64 d]] w fun e w' => e = .returned (.bool (glassB a b c d)) ∧ Kp w w' := by
  go_enter Try.func9, Try.ntmps9
  go_wp2_with (go_at_call 28; refine (l01In_any _ _ _ _).mono ?_; rintro e w' ⟨rfl, rfl⟩)
  all_goals (go_ret; exact ⟨by simp_all [glassB], by (repeat (with_reducible first | exact Kp.refl _ | assumption | refine Kp.drew ?_ | refine Kp.drewN ?_ _ | refine Kp.alloc ?_ _ | refine Kp.setCell ?_ (by first | (simp; done) | (simp; omega) | (dsimp only; omega)) _ | refine Kp.trans ?_ (by assumption)))⟩)
set_option maxHeartbeats 8000000 in
theorem specFlip_any (f s a b w' : Int) (w : World) : Calls Try.prog 12 #[.agg #[.int .i64 f, .int .i64 s, .int .i64 a, .int .i64 b], .int .i64 w'] w fun e w1 => e = .returned (.agg #[.int .i64 f, .int .i64 s, .int .i64 (fA f s a b w'), .int .i64 (fB f s a b w')]) ∧ Kp w w1 := by
  by_cases h1 : glassB f s a b = true
  · obtain ⟨b1, b2, b3, b4⟩ := glassB_bd h1
    by_cases h2 : inB w' 1 3 = true
    · have b5 := inB_true.1 h2
      have hA : fA f s a b w' = if w' = 2 then a else f - a := by rw [fA, h1, h2]; rfl
      have hB : fB f s a b w' = if w' = 1 then b else s - b := by rw [fB, h1, h2]; rfl
      have e3 : w' = 1 ∨ w' = 2 ∨ w' = 3 := by omega
      rcases e3 with e | e | e
      · subst e
        rw [hA, hB]
        clear hA hB
        (go_enter Try.func12, Try.ntmps12; go_wp2_with (first | (go_at_call 9; refine (specGlassesOk_any _ _ _ _ _).mono ?_; rintro e w1 ⟨rfl, hk⟩; obtain ⟨⟨c0_0, c0_1, c0_2, c0_3⟩, ⟨⟨c1_0, f1_0⟩, ⟨c1_1, f1_1⟩, ⟨c1_2, f1_2⟩, ⟨c1_3, f1_3⟩⟩, y0, y1⟩ := Kp.two44 hk; obtain ⟨f0_2, f0_3⟩ := Kp.two44f hk) | (go_at_call 28; refine (l01In_any _ _ _ _).mono ?_; rintro e w' ⟨rfl, rfl⟩)); refine bodyPost_ret (v := .agg #[.int .i64 _, .int .i64 _, .int .i64 _, .int .i64 _]) ?_ rfl ⟨rfl, by (repeat (with_reducible first | exact Kp.refl _ | assumption | refine Kp.drew ?_ | refine Kp.drewN ?_ _ | refine Kp.alloc ?_ _ | refine Kp.setCell ?_ (by first | (simp; done) | (simp; omega) | (dsimp only; omega)) _ | refine Kp.trans ?_ (by assumption)))⟩; simp [results, Try.results12, go_sem, c1_0, c1_1, c1_2, c1_3, y0, y1]; try simp [])
      · subst e
        rw [hA, hB]
        clear hA hB
        (go_enter Try.func12, Try.ntmps12; go_wp2_with (first | (go_at_call 9; refine (specGlassesOk_any _ _ _ _ _).mono ?_; rintro e w1 ⟨rfl, hk⟩; obtain ⟨⟨c0_0, c0_1, c0_2, c0_3⟩, ⟨⟨c1_0, f1_0⟩, ⟨c1_1, f1_1⟩, ⟨c1_2, f1_2⟩, ⟨c1_3, f1_3⟩⟩, y0, y1⟩ := Kp.two44 hk; obtain ⟨f0_2, f0_3⟩ := Kp.two44f hk) | (go_at_call 28; refine (l01In_any _ _ _ _).mono ?_; rintro e w' ⟨rfl, rfl⟩)); refine bodyPost_ret (v := .agg #[.int .i64 _, .int .i64 _, .int .i64 _, .int .i64 _]) ?_ rfl ⟨rfl, by (repeat (with_reducible first | exact Kp.refl _ | assumption | refine Kp.drew ?_ | refine Kp.drewN ?_ _ | refine Kp.alloc ?_ _ | refine Kp.setCell ?_ (by first | (simp; done) | (simp; omega) | (dsimp only; omega)) _ | refine Kp.trans ?_ (by assumption)))⟩; simp [results, Try.results12, go_sem, c1_0, c1_1, c1_2, c1_3, y0, y1]; try simp [])
      · subst e
        rw [hA, hB]
        clear hA hB
        (go_enter Try.func12, Try.ntmps12; go_wp2_with (first | (go_at_call 9; refine (specGlassesOk_any _ _ _ _ _).mono ?_; rintro e w1 ⟨rfl, hk⟩; obtain ⟨⟨c0_0, c0_1, c0_2, c0_3⟩, ⟨⟨c1_0, f1_0⟩, ⟨c1_1, f1_1⟩, ⟨c1_2, f1_2⟩, ⟨c1_3, f1_3⟩⟩, y0, y1⟩ := Kp.two44 hk; obtain ⟨f0_2, f0_3⟩ := Kp.two44f hk) | (go_at_call 28; refine (l01In_any _ _ _ _).mono ?_; rintro e w' ⟨rfl, rfl⟩)); refine bodyPost_ret (v := .agg #[.int .i64 _, .int .i64 _, .int .i64 _, .int .i64 _]) ?_ rfl ⟨rfl, by (repeat (with_reducible first | exact Kp.refl _ | assumption | refine Kp.drew ?_ | refine Kp.drewN ?_ _ | refine Kp.alloc ?_ _ | refine Kp.setCell ?_ (by first | (simp; done) | (simp; omega) | (dsimp only; omega)) _ | refine Kp.trans ?_ (by assumption)))⟩; simp [results, Try.results12, go_sem, c1_0, c1_1, c1_2, c1_3, y0, y1]; try simp [])
    · have hA : fA f s a b w' = a := by rw [fA, h1]; simp [h2]
      have hB : fB f s a b w' = b := by rw [fB, h1]; simp [h2]
      rw [hA, hB]
      clear hA hB
      (go_enter Try.func12, Try.ntmps12; go_wp2_with (first | (go_at_call 9; refine (specGlassesOk_any _ _ _ _ _).mono ?_; rintro e w1 ⟨rfl, hk⟩; obtain ⟨⟨c0_0, c0_1, c0_2, c0_3⟩, ⟨⟨c1_0, f1_0⟩, ⟨c1_1, f1_1⟩, ⟨c1_2, f1_2⟩, ⟨c1_3, f1_3⟩⟩, y0, y1⟩ := Kp.two44 hk; obtain ⟨f0_2, f0_3⟩ := Kp.two44f hk) | (go_at_call 28; refine (l01In_any _ _ _ _).mono ?_; rintro e w' ⟨rfl, rfl⟩)); refine bodyPost_ret (v := .agg #[.int .i64 _, .int .i64 _, .int .i64 _, .int .i64 _]) ?_ rfl ⟨rfl, by (repeat (with_reducible first | exact Kp.refl _ | assumption | refine Kp.drew ?_ | refine Kp.drewN ?_ _ | refine Kp.alloc ?_ _ | refine Kp.setCell ?_ (by first | (simp; done) | (simp; omega) | (dsimp only; omega)) _ | refine Kp.trans ?_ (by assumption)))⟩; simp [results, Try.results12, go_sem, c1_0, c1_1, c1_2, c1_3, y0, y1]; try simp [])
  · have hA : fA f s a b w' = a := by simp [fA, h1]
    have hB : fB f s a b w' = b := by simp [fB, h1]
    rw [hA, hB]
    clear hA hB
    (go_enter Try.func12, Try.ntmps12; go_wp2_with (first | (go_at_call 9; refine (specGlassesOk_any _ _ _ _ _).mono ?_; rintro e w1 ⟨rfl, hk⟩; obtain ⟨⟨c0_0, c0_1, c0_2, c0_3⟩, ⟨⟨c1_0, f1_0⟩, ⟨c1_1, f1_1⟩, ⟨c1_2, f1_2⟩, ⟨c1_3, f1_3⟩⟩, y0, y1⟩ := Kp.two44 hk; obtain ⟨f0_2, f0_3⟩ := Kp.two44f hk) | (go_at_call 28; refine (l01In_any _ _ _ _).mono ?_; rintro e w' ⟨rfl, rfl⟩)); refine bodyPost_ret (v := .agg #[.int .i64 _, .int .i64 _, .int .i64 _, .int .i64 _]) ?_ rfl ⟨rfl, by (repeat (with_reducible first | exact Kp.refl _ | assumption | refine Kp.drew ?_ | refine Kp.drewN ?_ _ | refine Kp.alloc ?_ _ | refine Kp.setCell ?_ (by first | (simp; done) | (simp; omega) | (dsimp only; omega)) _ | refine Kp.trans ?_ (by assumption)))⟩; simp [results, Try.results12, go_sem, c1_0, c1_1, c1_2, c1_3, y0, y1]; try simp [])
set_option maxHeartbeats 8000000 in
theorem specRunOut_any (f s a b : Int) (w : World) : Calls Try.prog 15 #[.agg #[.int .i64 f, .int .i64 s, .int .i64 a, .int .i64 b]] w fun e w1 => e = .returned (.tuple #[.agg #[.int .i64 f, .int .i64 s, .int .i64 (gA f s a b), .int .i64 (gB f s a b)], .int .i64 (gT f s a b)]) ∧ Kp w w1 := by
  by_cases h1 : glassB f s a b = true
  · obtain ⟨b1, b2, b3, b4⟩ := glassB_bd h1
    have hA : gA f s a b = if 0 < a ∧ 0 < b then a - min a b else 0 := by rw [gA, h1]; rfl
    have hB : gB f s a b = if 0 < a ∧ 0 < b then b - min a b else 0 := by rw [gB, h1]; rfl
    have hT : gT f s a b = if 0 < a ∧ 0 < b then min a b else max a b := by rw [gT, h1]; rfl
    by_cases ha : 0 < a
    · by_cases hb : 0 < b
      · by_cases hle : a ≤ b
        · have m1 : min a b = a := Int.min_eq_left hle
          have m2 : max a b = b := Int.max_eq_right hle
          have m3 : max (b - a) 0 = b - a := by omega
          have m4 : max 0 (b - a) = b - a := by omega
          have hA' : gA f s a b = 0 := by rw [hA, if_pos ⟨ha, hb⟩, m1]; omega
          have hB' : gB f s a b = b - a := by rw [hB, if_pos ⟨ha, hb⟩, m1]
          have hT' : gT f s a b = a := by rw [hT, if_pos ⟨ha, hb⟩, m1]
          rw [hA', hB', hT']
          clear hA hB hT hA' hB' hT'
          (go_enter Try.func15, Try.ntmps15; go_wp2_with (go_at_call 9; refine (specGlassesOk_any _ _ _ _ _).mono ?_; rintro e w1 ⟨rfl, hk⟩; obtain ⟨⟨c0_0, c0_1, c0_2, c0_3⟩, ⟨⟨c1_0, f1_0⟩, ⟨c1_1, f1_1⟩, ⟨c1_2, f1_2⟩, ⟨c1_3, f1_3⟩⟩, y0, y1⟩ := Kp.two44 hk; obtain ⟨f0_2, f0_3⟩ := Kp.two44f hk); all_goals (refine bodyPost_ret (v := .tuple #[.agg #[.int .i64 _, .int .i64 _, .int .i64 _, .int .i64 _], .int .i64 _]) ?_ rfl ⟨rfl, by (repeat (with_reducible first | exact Kp.refl _ | assumption | refine Kp.drew ?_ | refine Kp.drewN ?_ _ | refine Kp.alloc ?_ _ | refine Kp.setCell ?_ (by first | (simp; done) | (simp; omega) | (dsimp only; omega)) _ | refine Kp.trans ?_ (by assumption)))⟩; simp [results, Try.results15, go_sem, c1_0, c1_1, c1_2, c1_3, y0, y1]; try simp [m1, m2, m3, m4]) <;> omega)
        · have m1 : min a b = b := Int.min_eq_right (by omega)
          have m2 : max a b = a := Int.max_eq_left (by omega)
          have m3 : max (a - b) 0 = a - b := by omega
          have m4 : max 0 (a - b) = a - b := by omega
          have hA' : gA f s a b = a - b := by rw [hA, if_pos ⟨ha, hb⟩, m1]
          have hB' : gB f s a b = 0 := by rw [hB, if_pos ⟨ha, hb⟩, m1]; omega
          have hT' : gT f s a b = b := by rw [hT, if_pos ⟨ha, hb⟩, m1]
          rw [hA', hB', hT']
          clear hA hB hT hA' hB' hT'
          (go_enter Try.func15, Try.ntmps15; go_wp2_with (go_at_call 9; refine (specGlassesOk_any _ _ _ _ _).mono ?_; rintro e w1 ⟨rfl, hk⟩; obtain ⟨⟨c0_0, c0_1, c0_2, c0_3⟩, ⟨⟨c1_0, f1_0⟩, ⟨c1_1, f1_1⟩, ⟨c1_2, f1_2⟩, ⟨c1_3, f1_3⟩⟩, y0, y1⟩ := Kp.two44 hk; obtain ⟨f0_2, f0_3⟩ := Kp.two44f hk); all_goals (refine bodyPost_ret (v := .tuple #[.agg #[.int .i64 _, .int .i64 _, .int .i64 _, .int .i64 _], .int .i64 _]) ?_ rfl ⟨rfl, by (repeat (with_reducible first | exact Kp.refl _ | assumption | refine Kp.drew ?_ | refine Kp.drewN ?_ _ | refine Kp.alloc ?_ _ | refine Kp.setCell ?_ (by first | (simp; done) | (simp; omega) | (dsimp only; omega)) _ | refine Kp.trans ?_ (by assumption)))⟩; simp [results, Try.results15, go_sem, c1_0, c1_1, c1_2, c1_3, y0, y1]; try simp [m1, m2, m3, m4]) <;> omega)
      · have hb0 : b = 0 := by omega
        subst hb0
        have m2 : max a 0 = a := by omega
        have hA' : gA f s a 0 = 0 := by rw [hA, if_neg (by omega)]
        have hB' : gB f s a 0 = 0 := by rw [hB, if_neg (by omega)]
        have hT' : gT f s a 0 = a := by rw [hT, if_neg (by omega), m2]
        rw [hA', hB', hT']
        clear hA hB hT hA' hB' hT' hb
        have m3 : max (0 - a) 0 = 0 := by omega
        have m4 : max 0 (0 - a) = 0 := by omega
        have m5 : max (-a) 0 = 0 := by omega
        have m6 : max 0 (-a) = 0 := by omega
        (go_enter Try.func15, Try.ntmps15; go_wp2_with (go_at_call 9; refine (specGlassesOk_any _ _ _ _ _).mono ?_; rintro e w1 ⟨rfl, hk⟩; obtain ⟨⟨c0_0, c0_1, c0_2, c0_3⟩, ⟨⟨c1_0, f1_0⟩, ⟨c1_1, f1_1⟩, ⟨c1_2, f1_2⟩, ⟨c1_3, f1_3⟩⟩, y0, y1⟩ := Kp.two44 hk; obtain ⟨f0_2, f0_3⟩ := Kp.two44f hk); all_goals (refine bodyPost_ret (v := .tuple #[.agg #[.int .i64 _, .int .i64 _, .int .i64 _, .int .i64 _], .int .i64 _]) ?_ rfl ⟨rfl, by (repeat (with_reducible first | exact Kp.refl _ | assumption | refine Kp.drew ?_ | refine Kp.drewN ?_ _ | refine Kp.alloc ?_ _ | refine Kp.setCell ?_ (by first | (simp; done) | (simp; omega) | (dsimp only; omega)) _ | refine Kp.trans ?_ (by assumption)))⟩; simp [results, Try.results15, go_sem, c1_0, c1_1, c1_2, c1_3, y0, y1]; try simp [m2, m3, m4, m5, m6]))
    · have ha0 : a = 0 := by omega
      subst ha0
      by_cases hb : 0 < b
      · have m2 : max 0 b = b := by omega
        have hA' : gA f s 0 b = 0 := by rw [hA, if_neg (by omega)]
        have hB' : gB f s 0 b = 0 := by rw [hB, if_neg (by omega)]
        have hT' : gT f s 0 b = b := by rw [hT, if_neg (by omega), m2]
        rw [hA', hB', hT']
        clear hA hB hT hA' hB' hT' ha
        have m3 : max (0 - b) 0 = 0 := by omega
        have m4 : max 0 (0 - b) = 0 := by omega
        have m5 : max (-b) 0 = 0 := by omega
        have m6 : max 0 (-b) = 0 := by omega
        (go_enter Try.func15, Try.ntmps15; go_wp2_with (go_at_call 9; refine (specGlassesOk_any _ _ _ _ _).mono ?_; rintro e w1 ⟨rfl, hk⟩; obtain ⟨⟨c0_0, c0_1, c0_2, c0_3⟩, ⟨⟨c1_0, f1_0⟩, ⟨c1_1, f1_1⟩, ⟨c1_2, f1_2⟩, ⟨c1_3, f1_3⟩⟩, y0, y1⟩ := Kp.two44 hk; obtain ⟨f0_2, f0_3⟩ := Kp.two44f hk); all_goals (refine bodyPost_ret (v := .tuple #[.agg #[.int .i64 _, .int .i64 _, .int .i64 _, .int .i64 _], .int .i64 _]) ?_ rfl ⟨rfl, by (repeat (with_reducible first | exact Kp.refl _ | assumption | refine Kp.drew ?_ | refine Kp.drewN ?_ _ | refine Kp.alloc ?_ _ | refine Kp.setCell ?_ (by first | (simp; done) | (simp; omega) | (dsimp only; omega)) _ | refine Kp.trans ?_ (by assumption)))⟩; simp [results, Try.results15, go_sem, c1_0, c1_1, c1_2, c1_3, y0, y1]; try simp [m2, m3, m4, m5, m6]))
      · have hb0 : b = 0 := by omega
        subst hb0
        have hA' : gA f s 0 0 = 0 := by rw [hA, if_neg (by omega)]
        have hB' : gB f s 0 0 = 0 := by rw [hB, if_neg (by omega)]
        have hT' : gT f s 0 0 = 0 := by rw [hT, if_neg (by omega)]; rfl
        rw [hA', hB', hT']
        clear hA hB hT hA' hB' hT' ha hb
        (go_enter Try.func15, Try.ntmps15; go_wp2_with (go_at_call 9; refine (specGlassesOk_any _ _ _ _ _).mono ?_; rintro e w1 ⟨rfl, hk⟩; obtain ⟨⟨c0_0, c0_1, c0_2, c0_3⟩, ⟨⟨c1_0, f1_0⟩, ⟨c1_1, f1_1⟩, ⟨c1_2, f1_2⟩, ⟨c1_3, f1_3⟩⟩, y0, y1⟩ := Kp.two44 hk; obtain ⟨f0_2, f0_3⟩ := Kp.two44f hk); all_goals (refine bodyPost_ret (v := .tuple #[.agg #[.int .i64 _, .int .i64 _, .int .i64 _, .int .i64 _], .int .i64 _]) ?_ rfl ⟨rfl, by (repeat (with_reducible first | exact Kp.refl _ | assumption | refine Kp.drew ?_ | refine Kp.drewN ?_ _ | refine Kp.alloc ?_ _ | refine Kp.setCell ?_ (by first | (simp; done) | (simp; omega) | (dsimp only; omega)) _ | refine Kp.trans ?_ (by assumption)))⟩; simp [results, Try.results15, go_sem, c1_0, c1_1, c1_2, c1_3, y0, y1]; try simp []))
  · have hA : gA f s a b = a := by rw [gA, if_neg h1]
    have hB : gB f s a b = b := by rw [gB, if_neg h1]
    have hT : gT f s a b = 0 := by rw [gT, if_neg h1]
    rw [hA, hB, hT]
    clear hA hB hT
    (go_enter Try.func15, Try.ntmps15; go_wp2_with (go_at_call 9; refine (specGlassesOk_any _ _ _ _ _).mono ?_; rintro e w1 ⟨rfl, hk⟩; obtain ⟨⟨c0_0, c0_1, c0_2, c0_3⟩, ⟨⟨c1_0, f1_0⟩, ⟨c1_1, f1_1⟩, ⟨c1_2, f1_2⟩, ⟨c1_3, f1_3⟩⟩, y0, y1⟩ := Kp.two44 hk; obtain ⟨f0_2, f0_3⟩ := Kp.two44f hk); all_goals (refine bodyPost_ret (v := .tuple #[.agg #[.int .i64 _, .int .i64 _, .int .i64 _, .int .i64 _], .int .i64 _]) ?_ rfl ⟨rfl, by (repeat (with_reducible first | exact Kp.refl _ | assumption | refine Kp.drew ?_ | refine Kp.drewN ?_ _ | refine Kp.alloc ?_ _ | refine Kp.setCell ?_ (by first | (simp; done) | (simp; omega) | (dsimp only; omega)) _ | refine Kp.trans ?_ (by assumption)))⟩; simp [results, Try.results15, go_sem, c1_0, c1_1, c1_2, c1_3, y0, y1]; try simp []))
theorem implGlassesOk_any (a b c d : Int) (w : World) : Calls Try.prog 11 #[.agg #[.int .i64 a, .int .i64 b, .int .i64 c, .int .i64 d]] w fun e w' => e = .returned (.bool (glassB a b c d)) ∧ Kp w w' := by
  go_enter Try.func11, Try.ntmps11
  go_wp2_with (go_at_call 29; refine (in_any _ _ _ _).mono ?_; rintro e w' ⟨rfl, rfl⟩)
  all_goals (go_ret; exact ⟨by simp_all [glassB], by (repeat (with_reducible first | exact Kp.refl _ | assumption | refine Kp.drew ?_ | refine Kp.drewN ?_ _ | refine Kp.alloc ?_ _ | refine Kp.setCell ?_ (by first | (simp; done) | (simp; omega) | (dsimp only; omega)) _ | refine Kp.trans ?_ (by assumption)))⟩)
set_option maxHeartbeats 8000000 in
theorem implFlip_any (f s a b w' : Int) (w : World) : Calls Try.prog 13 #[.agg #[.int .i64 f, .int .i64 s, .int .i64 a, .int .i64 b], .int .i64 w'] w fun e w1 => e = .returned (.agg #[.int .i64 f, .int .i64 s, .int .i64 (fA f s a b w'), .int .i64 (fB f s a b w')]) ∧ Kp w w1 := by
  by_cases h1 : glassB f s a b = true
  · obtain ⟨b1, b2, b3, b4⟩ := glassB_bd h1
    by_cases h2 : inB w' 1 3 = true
    · have b5 := inB_true.1 h2
      have hA : fA f s a b w' = if w' = 2 then a else f - a := by rw [fA, h1, h2]; rfl
      have hB : fB f s a b w' = if w' = 1 then b else s - b := by rw [fB, h1, h2]; rfl
      have e3 : w' = 1 ∨ w' = 2 ∨ w' = 3 := by omega
      rcases e3 with e | e | e
      · subst e
        rw [hA, hB]
        clear hA hB
        (go_enter Try.func13, Try.ntmps13; go_wp2_with (first | (go_at_call 11; refine (implGlassesOk_any _ _ _ _ _).mono ?_; rintro e w1 ⟨rfl, hk⟩; obtain ⟨⟨c0_0, c0_1, c0_2, c0_3⟩, ⟨⟨c1_0, f1_0⟩, ⟨c1_1, f1_1⟩, ⟨c1_2, f1_2⟩, ⟨c1_3, f1_3⟩⟩, y0, y1⟩ := Kp.two44 hk; obtain ⟨f0_2, f0_3⟩ := Kp.two44f hk) | (go_at_call 29; refine (in_any _ _ _ _).mono ?_; rintro e w' ⟨rfl, rfl⟩)); refine bodyPost_ret (v := .agg #[.int .i64 _, .int .i64 _, .int .i64 _, .int .i64 _]) ?_ rfl ⟨rfl, by (repeat (with_reducible first | exact Kp.refl _ | assumption | refine Kp.drew ?_ | refine Kp.drewN ?_ _ | refine Kp.alloc ?_ _ | refine Kp.setCell ?_ (by first | (simp; done) | (simp; omega) | (dsimp only; omega)) _ | refine Kp.trans ?_ (by assumption)))⟩; simp [results, Try.results13, go_sem, c1_0, c1_1, c1_2, c1_3, y0, y1]; try simp [])
      · subst e
        rw [hA, hB]
        clear hA hB
        (go_enter Try.func13, Try.ntmps13; go_wp2_with (first | (go_at_call 11; refine (implGlassesOk_any _ _ _ _ _).mono ?_; rintro e w1 ⟨rfl, hk⟩; obtain ⟨⟨c0_0, c0_1, c0_2, c0_3⟩, ⟨⟨c1_0, f1_0⟩, ⟨c1_1, f1_1⟩, ⟨c1_2, f1_2⟩, ⟨c1_3, f1_3⟩⟩, y0, y1⟩ := Kp.two44 hk; obtain ⟨f0_2, f0_3⟩ := Kp.two44f hk) | (go_at_call 29; refine (in_any _ _ _ _).mono ?_; rintro e w' ⟨rfl, rfl⟩)); refine bodyPost_ret (v := .agg #[.int .i64 _, .int .i64 _, .int .i64 _, .int .i64 _]) ?_ rfl ⟨rfl, by (repeat (with_reducible first | exact Kp.refl _ | assumption | refine Kp.drew ?_ | refine Kp.drewN ?_ _ | refine Kp.alloc ?_ _ | refine Kp.setCell ?_ (by first | (simp; done) | (simp; omega) | (dsimp only; omega)) _ | refine Kp.trans ?_ (by assumption)))⟩; simp [results, Try.results13, go_sem, c1_0, c1_1, c1_2, c1_3, y0, y1]; try simp [])
      · subst e
        rw [hA, hB]
        clear hA hB
        (go_enter Try.func13, Try.ntmps13; go_wp2_with (first | (go_at_call 11; refine (implGlassesOk_any _ _ _ _ _).mono ?_; rintro e w1 ⟨rfl, hk⟩; obtain ⟨⟨c0_0, c0_1, c0_2, c0_3⟩, ⟨⟨c1_0, f1_0⟩, ⟨c1_1, f1_1⟩, ⟨c1_2, f1_2⟩, ⟨c1_3, f1_3⟩⟩, y0, y1⟩ := Kp.two44 hk; obtain ⟨f0_2, f0_3⟩ := Kp.two44f hk) | (go_at_call 29; refine (in_any _ _ _ _).mono ?_; rintro e w' ⟨rfl, rfl⟩)); refine bodyPost_ret (v := .agg #[.int .i64 _, .int .i64 _, .int .i64 _, .int .i64 _]) ?_ rfl ⟨rfl, by (repeat (with_reducible first | exact Kp.refl _ | assumption | refine Kp.drew ?_ | refine Kp.drewN ?_ _ | refine Kp.alloc ?_ _ | refine Kp.setCell ?_ (by first | (simp; done) | (simp; omega) | (dsimp only; omega)) _ | refine Kp.trans ?_ (by assumption)))⟩; simp [results, Try.results13, go_sem, c1_0, c1_1, c1_2, c1_3, y0, y1]; try simp [])
    · have hA : fA f s a b w' = a := by rw [fA, h1]; simp [h2]
      have hB : fB f s a b w' = b := by rw [fB, h1]; simp [h2]
      rw [hA, hB]
      clear hA hB
      (go_enter Try.func13, Try.ntmps13; go_wp2_with (first | (go_at_call 11; refine (implGlassesOk_any _ _ _ _ _).mono ?_; rintro e w1 ⟨rfl, hk⟩; obtain ⟨⟨c0_0, c0_1, c0_2, c0_3⟩, ⟨⟨c1_0, f1_0⟩, ⟨c1_1, f1_1⟩, ⟨c1_2, f1_2⟩, ⟨c1_3, f1_3⟩⟩, y0, y1⟩ := Kp.two44 hk; obtain ⟨f0_2, f0_3⟩ := Kp.two44f hk) | (go_at_call 29; refine (in_any _ _ _ _).mono ?_; rintro e w' ⟨rfl, rfl⟩)); refine bodyPost_ret (v := .agg #[.int .i64 _, .int .i64 _, .int .i64 _, .int .i64 _]) ?_ rfl ⟨rfl, by (repeat (with_reducible first | exact Kp.refl _ | assumption | refine Kp.drew ?_ | refine Kp.drewN ?_ _ | refine Kp.alloc ?_ _ | refine Kp.setCell ?_ (by first | (simp; done) | (simp; omega) | (dsimp only; omega)) _ | refine Kp.trans ?_ (by assumption)))⟩; simp [results, Try.results13, go_sem, c1_0, c1_1, c1_2, c1_3, y0, y1]; try simp [])
  · have hA : fA f s a b w' = a := by simp [fA, h1]
    have hB : fB f s a b w' = b := by simp [fB, h1]
    rw [hA, hB]
    clear hA hB
    (go_enter Try.func13, Try.ntmps13; go_wp2_with (first | (go_at_call 11; refine (implGlassesOk_any _ _ _ _ _).mono ?_; rintro e w1 ⟨rfl, hk⟩; obtain ⟨⟨c0_0, c0_1, c0_2, c0_3⟩, ⟨⟨c1_0, f1_0⟩, ⟨c1_1, f1_1⟩, ⟨c1_2, f1_2⟩, ⟨c1_3, f1_3⟩⟩, y0, y1⟩ := Kp.two44 hk; obtain ⟨f0_2, f0_3⟩ := Kp.two44f hk) | (go_at_call 29; refine (in_any _ _ _ _).mono ?_; rintro e w' ⟨rfl, rfl⟩)); refine bodyPost_ret (v := .agg #[.int .i64 _, .int .i64 _, .int .i64 _, .int .i64 _]) ?_ rfl ⟨rfl, by (repeat (with_reducible first | exact Kp.refl _ | assumption | refine Kp.drew ?_ | refine Kp.drewN ?_ _ | refine Kp.alloc ?_ _ | refine Kp.setCell ?_ (by first | (simp; done) | (simp; omega) | (dsimp only; omega)) _ | refine Kp.trans ?_ (by assumption)))⟩; simp [results, Try.results13, go_sem, c1_0, c1_1, c1_2, c1_3, y0, y1]; try simp [])
set_option maxHeartbeats 8000000 in
theorem implRunOut_any (f s a b : Int) (w : World) : Calls Try.prog 16 #[.agg #[.int .i64 f, .int .i64 s, .int .i64 a, .int .i64 b]] w fun e w1 => e = .returned (.tuple #[.agg #[.int .i64 f, .int .i64 s, .int .i64 (gA f s a b), .int .i64 (gB f s a b)], .int .i64 (gT f s a b)]) ∧ Kp w w1 := by
  by_cases h1 : glassB f s a b = true
  · obtain ⟨b1, b2, b3, b4⟩ := glassB_bd h1
    have hA : gA f s a b = if 0 < a ∧ 0 < b then a - min a b else 0 := by rw [gA, h1]; rfl
    have hB : gB f s a b = if 0 < a ∧ 0 < b then b - min a b else 0 := by rw [gB, h1]; rfl
    have hT : gT f s a b = if 0 < a ∧ 0 < b then min a b else max a b := by rw [gT, h1]; rfl
    by_cases ha : 0 < a
    · by_cases hb : 0 < b
      · by_cases hle : a ≤ b
        · have m1 : min a b = a := Int.min_eq_left hle
          have m2 : max a b = b := Int.max_eq_right hle
          have m3 : max (b - a) 0 = b - a := by omega
          have m4 : max 0 (b - a) = b - a := by omega
          have hA' : gA f s a b = 0 := by rw [hA, if_pos ⟨ha, hb⟩, m1]; omega
          have hB' : gB f s a b = b - a := by rw [hB, if_pos ⟨ha, hb⟩, m1]
          have hT' : gT f s a b = a := by rw [hT, if_pos ⟨ha, hb⟩, m1]
          rw [hA', hB', hT']
          clear hA hB hT hA' hB' hT'
          (go_enter Try.func16, Try.ntmps16; go_wp2_with (go_at_call 11; refine (implGlassesOk_any _ _ _ _ _).mono ?_; rintro e w1 ⟨rfl, hk⟩; obtain ⟨⟨c0_0, c0_1, c0_2, c0_3⟩, ⟨⟨c1_0, f1_0⟩, ⟨c1_1, f1_1⟩, ⟨c1_2, f1_2⟩, ⟨c1_3, f1_3⟩⟩, y0, y1⟩ := Kp.two44 hk; obtain ⟨f0_2, f0_3⟩ := Kp.two44f hk); all_goals (refine bodyPost_ret (v := .tuple #[.agg #[.int .i64 _, .int .i64 _, .int .i64 _, .int .i64 _], .int .i64 _]) ?_ rfl ⟨rfl, by (repeat (with_reducible first | exact Kp.refl _ | assumption | refine Kp.drew ?_ | refine Kp.drewN ?_ _ | refine Kp.alloc ?_ _ | refine Kp.setCell ?_ (by first | (simp; done) | (simp; omega) | (dsimp only; omega)) _ | refine Kp.trans ?_ (by assumption)))⟩; simp [results, Try.results16, go_sem, c1_0, c1_1, c1_2, c1_3, y0, y1]; try simp [m1, m2, m3, m4]) <;> omega)
        · have m1 : min a b = b := Int.min_eq_right (by omega)
          have m2 : max a b = a := Int.max_eq_left (by omega)
          have m3 : max (a - b) 0 = a - b := by omega
          have m4 : max 0 (a - b) = a - b := by omega
          have hA' : gA f s a b = a - b := by rw [hA, if_pos ⟨ha, hb⟩, m1]
          have hB' : gB f s a b = 0 := by rw [hB, if_pos ⟨ha, hb⟩, m1]; omega
          have hT' : gT f s a b = b := by rw [hT, if_pos ⟨ha, hb⟩, m1]
          rw [hA', hB', hT']
          clear hA hB hT hA' hB' hT'
          (go_enter Try.func16, Try.ntmps16; go_wp2_with (go_at_call 11; refine (implGlassesOk_any _ _ _ _ _).mono ?_; rintro e w1 ⟨rfl, hk⟩; obtain ⟨⟨c0_0, c0_1, c0_2, c0_3⟩, ⟨⟨c1_0, f1_0⟩, ⟨c1_1, f1_1⟩, ⟨c1_2, f1_2⟩, ⟨c1_3, f1_3⟩⟩, y0, y1⟩ := Kp.two44 hk; obtain ⟨f0_2, f0_3⟩ := Kp.two44f hk); all_goals (refine bodyPost_ret (v := .tuple #[.agg #[.int .i64 _, .int .i64 _, .int .i64 _, .int .i64 _], .int .i64 _]) ?_ rfl ⟨rfl, by (repeat (with_reducible first | exact Kp.refl _ | assumption | refine Kp.drew ?_ | refine Kp.drewN ?_ _ | refine Kp.alloc ?_ _ | refine Kp.setCell ?_ (by first | (simp; done) | (simp; omega) | (dsimp only; omega)) _ | refine Kp.trans ?_ (by assumption)))⟩; simp [results, Try.results16, go_sem, c1_0, c1_1, c1_2, c1_3, y0, y1]; try simp [m1, m2, m3, m4]) <;> omega)
      · have hb0 : b = 0 := by omega
        subst hb0
        have m2 : max a 0 = a := by omega
        have hA' : gA f s a 0 = 0 := by rw [hA, if_neg (by omega)]
        have hB' : gB f s a 0 = 0 := by rw [hB, if_neg (by omega)]
        have hT' : gT f s a 0 = a := by rw [hT, if_neg (by omega), m2]
        rw [hA', hB', hT']
        clear hA hB hT hA' hB' hT' hb
        have m3 : max (0 - a) 0 = 0 := by omega
        have m4 : max 0 (0 - a) = 0 := by omega
        have m5 : max (-a) 0 = 0 := by omega
        have m6 : max 0 (-a) = 0 := by omega
        (go_enter Try.func16, Try.ntmps16; go_wp2_with (go_at_call 11; refine (implGlassesOk_any _ _ _ _ _).mono ?_; rintro e w1 ⟨rfl, hk⟩; obtain ⟨⟨c0_0, c0_1, c0_2, c0_3⟩, ⟨⟨c1_0, f1_0⟩, ⟨c1_1, f1_1⟩, ⟨c1_2, f1_2⟩, ⟨c1_3, f1_3⟩⟩, y0, y1⟩ := Kp.two44 hk; obtain ⟨f0_2, f0_3⟩ := Kp.two44f hk); all_goals (refine bodyPost_ret (v := .tuple #[.agg #[.int .i64 _, .int .i64 _, .int .i64 _, .int .i64 _], .int .i64 _]) ?_ rfl ⟨rfl, by (repeat (with_reducible first | exact Kp.refl _ | assumption | refine Kp.drew ?_ | refine Kp.drewN ?_ _ | refine Kp.alloc ?_ _ | refine Kp.setCell ?_ (by first | (simp; done) | (simp; omega) | (dsimp only; omega)) _ | refine Kp.trans ?_ (by assumption)))⟩; simp [results, Try.results16, go_sem, c1_0, c1_1, c1_2, c1_3, y0, y1]; try simp [m2, m3, m4, m5, m6]))
    · have ha0 : a = 0 := by omega
      subst ha0
      by_cases hb : 0 < b
      · have m2 : max 0 b = b := by omega
        have hA' : gA f s 0 b = 0 := by rw [hA, if_neg (by omega)]
        have hB' : gB f s 0 b = 0 := by rw [hB, if_neg (by omega)]
        have hT' : gT f s 0 b = b := by rw [hT, if_neg (by omega), m2]
        rw [hA', hB', hT']
        clear hA hB hT hA' hB' hT' ha
        have m3 : max (0 - b) 0 = 0 := by omega
        have m4 : max 0 (0 - b) = 0 := by omega
        have m5 : max (-b) 0 = 0 := by omega
        have m6 : max 0 (-b) = 0 := by omega
        (go_enter Try.func16, Try.ntmps16; go_wp2_with (go_at_call 11; refine (implGlassesOk_any _ _ _ _ _).mono ?_; rintro e w1 ⟨rfl, hk⟩; obtain ⟨⟨c0_0, c0_1, c0_2, c0_3⟩, ⟨⟨c1_0, f1_0⟩, ⟨c1_1, f1_1⟩, ⟨c1_2, f1_2⟩, ⟨c1_3, f1_3⟩⟩, y0, y1⟩ := Kp.two44 hk; obtain ⟨f0_2, f0_3⟩ := Kp.two44f hk); all_goals (refine bodyPost_ret (v := .tuple #[.agg #[.int .i64 _, .int .i64 _, .int .i64 _, .int .i64 _], .int .i64 _]) ?_ rfl ⟨rfl, by (repeat (with_reducible first | exact Kp.refl _ | assumption | refine Kp.drew ?_ | refine Kp.drewN ?_ _ | refine Kp.alloc ?_ _ | refine Kp.setCell ?_ (by first | (simp; done) | (simp; omega) | (dsimp only; omega)) _ | refine Kp.trans ?_ (by assumption)))⟩; simp [results, Try.results16, go_sem, c1_0, c1_1, c1_2, c1_3, y0, y1]; try simp [m2, m3, m4, m5, m6]))
      · have hb0 : b = 0 := by omega
        subst hb0
        have hA' : gA f s 0 0 = 0 := by rw [hA, if_neg (by omega)]
        have hB' : gB f s 0 0 = 0 := by rw [hB, if_neg (by omega)]
        have hT' : gT f s 0 0 = 0 := by rw [hT, if_neg (by omega)]; rfl
        rw [hA', hB', hT']
        clear hA hB hT hA' hB' hT' ha hb
        (go_enter Try.func16, Try.ntmps16; go_wp2_with (go_at_call 11; refine (implGlassesOk_any _ _ _ _ _).mono ?_; rintro e w1 ⟨rfl, hk⟩; obtain ⟨⟨c0_0, c0_1, c0_2, c0_3⟩, ⟨⟨c1_0, f1_0⟩, ⟨c1_1, f1_1⟩, ⟨c1_2, f1_2⟩, ⟨c1_3, f1_3⟩⟩, y0, y1⟩ := Kp.two44 hk; obtain ⟨f0_2, f0_3⟩ := Kp.two44f hk); all_goals (refine bodyPost_ret (v := .tuple #[.agg #[.int .i64 _, .int .i64 _, .int .i64 _, .int .i64 _], .int .i64 _]) ?_ rfl ⟨rfl, by (repeat (with_reducible first | exact Kp.refl _ | assumption | refine Kp.drew ?_ | refine Kp.drewN ?_ _ | refine Kp.alloc ?_ _ | refine Kp.setCell ?_ (by first | (simp; done) | (simp; omega) | (dsimp only; omega)) _ | refine Kp.trans ?_ (by assumption)))⟩; simp [results, Try.results16, go_sem, c1_0, c1_1, c1_2, c1_3, y0, y1]; try simp []))
  · have hA : gA f s a b = a := by rw [gA, if_neg h1]
    have hB : gB f s a b = b := by rw [gB, if_neg h1]
    have hT : gT f s a b = 0 := by rw [gT, if_neg h1]
    rw [hA, hB, hT]
    clear hA hB hT
    (go_enter Try.func16, Try.ntmps16; go_wp2_with (go_at_call 11; refine (implGlassesOk_any _ _ _ _ _).mono ?_; rintro e w1 ⟨rfl, hk⟩; obtain ⟨⟨c0_0, c0_1, c0_2, c0_3⟩, ⟨⟨c1_0, f1_0⟩, ⟨c1_1, f1_1⟩, ⟨c1_2, f1_2⟩, ⟨c1_3, f1_3⟩⟩, y0, y1⟩ := Kp.two44 hk; obtain ⟨f0_2, f0_3⟩ := Kp.two44f hk); all_goals (refine bodyPost_ret (v := .tuple #[.agg #[.int .i64 _, .int .i64 _, .int .i64 _, .int .i64 _], .int .i64 _]) ?_ rfl ⟨rfl, by (repeat (with_reducible first | exact Kp.refl _ | assumption | refine Kp.drew ?_ | refine Kp.drewN ?_ _ | refine Kp.alloc ?_ _ | refine Kp.setCell ?_ (by first | (simp; done) | (simp; omega) | (dsimp only; omega)) _ | refine Kp.trans ?_ (by assumption)))⟩; simp [results, Try.results16, go_sem, c1_0, c1_1, c1_2, c1_3, y0, y1]; try simp []))
end Go.Proofs.Ytpafcambfmkmiaa
