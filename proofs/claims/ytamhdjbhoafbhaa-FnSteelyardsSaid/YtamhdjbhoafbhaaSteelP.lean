/- Plain laws for FnSteelyards: fractions in lowest terms. -/
import Derived.Test.YtamhdjbhoafbhaaMarksC
set_option linter.unusedVariables false
namespace Go.Proofs.Ytamhdjbhoafbhaa
theorem gcd_posr (X : Int) {Y : Int} (hY : 0 < Y) : 0 < (Int.gcd X Y : Int) := by
  have : 0 < Int.gcd X Y := Int.gcd_pos_of_ne_zero_right _ (by omega)
  omega
theorem mf_low {X Y : Int} (hY : 0 < Y) (hX : -1000000 ≤ X ∧ X ≤ 1000000) (hY2 : Y ≤ 1000000) : mfB X Y = true ∧ mfT X Y = X / (Int.gcd X Y : Int) ∧ mfU X Y = Y / (Int.gcd X Y : Int) := by
  have hg := gcd_posr X hY
  have d1 : (Int.gcd X Y : Int) ∣ X := Int.gcd_dvd_left ..
  have d2 : (Int.gcd X Y : Int) ∣ Y := Int.gcd_dvd_right ..
  have e1 : redT X Y = X / (Int.gcd X Y : Int) := by rw [redT, if_neg (by omega), Int.tdiv_eq_ediv_of_dvd d1]
  have e2 : redB X Y = Y / (Int.gcd X Y : Int) := by rw [redB, if_neg (by omega), Int.tdiv_eq_ediv_of_dvd d2]
  have b1 := tdiv_bd X (Int.gcd X Y : Int) (by omega) 1000000 hX
  rw [Int.tdiv_eq_ediv_of_dvd d1] at b1
  have b2 : 1 ≤ Y / (Int.gcd X Y : Int) ∧ Y / (Int.gcd X Y : Int) ≤ 1000000 := by
    have h1 := Int.ediv_le_self (Int.gcd X Y : Int) (by omega : 0 ≤ Y)
    have h2 : 0 < Y / (Int.gcd X Y : Int) := Int.ediv_pos_of_pos_of_dvd hY (by omega) d2
    omega
  have hgc : Int.gcd (X / (Int.gcd X Y : Int)) (Y / (Int.gcd X Y : Int)) = 1 := Int.gcd_ediv_gcd_ediv_gcd (by omega)
  have hm : mkB X Y = true := by
    rw [mkB, e1, e2, fracB, inB_true.2 b1, inB_true.2 b2, hgc]; rfl
  obtain ⟨f1, f2, f3⟩ := mf_of (a := X) (b := Y) (by omega) (by omega) (by omega)
  refine ⟨by rw [← f1]; exact hm, ?_, ?_⟩
  · rw [← f2, mkT, if_pos hm, e1]
  · rw [← f3, mkU, if_pos hm, e2]
theorem mf_frac {X Y : Int} (hY : 0 < Y) (hX : -1000000 ≤ X ∧ X ≤ 1000000) (hY2 : Y ≤ 1000000) : fracB (mfT X Y) (mfU X Y) = true := by
  obtain ⟨h1, h2, h3⟩ := mf_low hY hX hY2
  have h4 := h1
  simp only [mfB, Bool.and_eq_true] at h4
  have hm := h4.2
  rw [h2, h3]
  have d1 : (Int.gcd X Y : Int) ∣ X := Int.gcd_dvd_left ..
  have d2 : (Int.gcd X Y : Int) ∣ Y := Int.gcd_dvd_right ..
  rw [mkB, redT, redB, if_neg (by omega), if_neg (by omega), Int.tdiv_eq_ediv_of_dvd d1, Int.tdiv_eq_ediv_of_dvd d2] at hm
  exact hm
/-- The fraction times its divisor. -/
theorem mf_back {X Y : Int} (hY : 0 < Y) (hX : -1000000 ≤ X ∧ X ≤ 1000000) (hY2 : Y ≤ 1000000) : ∃ g : Int, 0 < g ∧ g ≤ Y ∧ X = mfT X Y * g ∧ Y = mfU X Y * g ∧ 0 < mfU X Y ∧ mfU X Y ≤ Y ∧ -(X.natAbs : Int) ≤ mfT X Y ∧ mfT X Y ≤ (X.natAbs : Int) := by
  obtain ⟨h1, h2, h3⟩ := mf_low hY hX hY2
  have hg := gcd_posr X hY
  have d1 : (Int.gcd X Y : Int) ∣ X := Int.gcd_dvd_left ..
  have d2 : (Int.gcd X Y : Int) ∣ Y := Int.gcd_dvd_right ..
  have b1 := tdiv_bd X (Int.gcd X Y : Int) (by omega) (X.natAbs : Int) (by omega)
  rw [Int.tdiv_eq_ediv_of_dvd d1] at b1
  refine ⟨(Int.gcd X Y : Int), hg, Int.le_of_dvd hY d2, ?_, ?_, ?_, ?_, by rw [h2]; exact b1.1, by rw [h2]; exact b1.2⟩
  · rw [h2, Int.ediv_mul_cancel d1]
  · rw [h3, Int.ediv_mul_cancel d2]
  · rw [h3]; exact Int.ediv_pos_of_pos_of_dvd hY (by omega) d2
  · rw [h3]; exact Int.ediv_le_self _ (by omega)
theorem mf_scale {X Y c : Int} (hY : 0 < Y) (hc : 0 < c) (hX : -1000000 ≤ X ∧ X ≤ 1000000) (hY2 : Y ≤ 1000000) (hXc : -1000000 ≤ X * c ∧ X * c ≤ 1000000) (hYc : Y * c ≤ 1000000) : mfT (X * c) (Y * c) = mfT X Y ∧ mfU (X * c) (Y * c) = mfU X Y := by
  have hYc0 : 0 < Y * c := Int.mul_pos hY hc
  obtain ⟨_, h2, h3⟩ := mf_low hY hX hY2
  obtain ⟨_, h5, h6⟩ := mf_low hYc0 hXc hYc
  have hg : (Int.gcd (X * c) (Y * c) : Int) = (Int.gcd X Y : Int) * c := by
    rw [Int.gcd_mul_right]
    rw [Int.natCast_mul, Int.natAbs_of_nonneg (by omega)]
  rw [h2, h3, h5, h6, hg, Int.mul_ediv_mul_of_pos_left _ _ hc, Int.mul_ediv_mul_of_pos_left _ _ hc]
  exact ⟨rfl, rfl⟩
theorem mf_whole {n Y : Int} (hY : 0 < Y) (hX : -1000000 ≤ n * Y ∧ n * Y ≤ 1000000) (hY2 : Y ≤ 1000000) (hn : -1000000 ≤ n ∧ n ≤ 1000000) : mfB (n * Y) Y = true ∧ mfT (n * Y) Y = n ∧ mfU (n * Y) Y = 1 := by
  obtain ⟨h1, h2, h3⟩ := mf_low hY hX hY2
  have hg : (Int.gcd (n * Y) Y : Int) = Y := by
    rw [Int.gcd_comm, Int.gcd_mul_left_right]
    omega
  refine ⟨h1, ?_, ?_⟩
  · rw [h2, hg, Int.mul_ediv_cancel _ (by omega)]
  · rw [h3, hg, Int.ediv_self (by omega)]
/-- A drawn steelyard. -/
def SmallS (p s e : Int) : Prop := (1 ≤ p ∧ p ≤ 12) ∧ (1 ≤ s ∧ s ≤ 20) ∧ (-10 ≤ e ∧ e ≤ 10)
theorem SmallS.ok {p s e : Int} (h : SmallS p s e) : steelB p s e = true := by
  obtain ⟨h1, h2, h3⟩ := h
  rw [steelB, inB_true.2 (by omega), inB_true.2 (by omega), inB_true.2 (by omega)]; rfl
theorem SmallS.top {p s e l : Int} (h : SmallS p s e) (hl : 0 ≤ l ∧ l ≤ 300) : -3800 ≤ e * s + l * p ∧ e * s + l * p ≤ 3800 := by
  obtain ⟨h1, h2, h3⟩ := h
  have a := mul_bd (a := e) (b := s) (A := 10) (B := 20) (by omega) (by omega)
  have b := mul_bd (a := l) (b := p) (A := 300) (B := 12) (by omega) (by omega)
  omega
theorem mark_small {p s e l : Int} (h : SmallS p s e) (hl : 0 ≤ l ∧ l ≤ 300) : markB p s e l = true ∧ markT p s e l = mfT (e * s + l * p) s ∧ markU p s e l = mfU (e * s + l * p) s := by
  have ht := h.top hl
  have hin : inB l 0 10000 = true := inB_true.2 (by omega)
  have := (mf_low (X := e * s + l * p) (Y := s) (by have := h.2.1; omega) (by omega) (by have := h.2.1; omega)).1
  refine ⟨by rw [markB, h.ok, hin, this]; rfl, ?_, ?_⟩
  · rw [markT, h.ok, hin]; rfl
  · rw [markU, h.ok, hin]; rfl
theorem load_small {p s e l : Int} (h : SmallS p s e) (hl : 0 ≤ l ∧ l ≤ 300) : loadB p s e (markT p s e l) (markU p s e l) = true ∧ loadT p s e (markT p s e l) (markU p s e l) = l ∧ loadU p s e (markT p s e l) (markU p s e l) = 1 := by
  obtain ⟨m1, m2, m3⟩ := mark_small h hl
  have ht := h.top hl
  have hs := h.2.1
  have hp := h.1
  obtain ⟨g, g0, g1, e1, e2, u0, u1, t0, t1⟩ := mf_back (X := e * s + l * p) (Y := s) (by omega) (by omega) (by omega)
  have hf := mf_frac (X := e * s + l * p) (Y := s) (by omega) (by omega) (by omega)
  rw [m2, m3]
  obtain ⟨T, hT⟩ : ∃ T, T = mfT (e * s + l * p) s := ⟨_, rfl⟩
  obtain ⟨U, hU⟩ : ∃ U, U = mfU (e * s + l * p) s := ⟨_, rfl⟩
  rw [← hT] at e1 t0 t1 hf ⊢
  rw [← hU] at e2 u0 u1 hf ⊢
  have hkey : (T - e * U) * s = l * (U * p) := by
    have h1 : (T - e * U) * g = l * p := by
      rw [Int.sub_mul, ← e1, Int.mul_assoc e U g, ← e2]; omega
    calc (T - e * U) * s = (T - e * U) * (U * g) := by rw [← e2]
      _ = ((T - e * U) * g) * U := by rw [Int.mul_comm U g, Int.mul_assoc]
      _ = l * (U * p) := by rw [h1, Int.mul_assoc, Int.mul_comm p U]
  have hY0 : 0 < U * p := Int.mul_pos u0 (by omega)
  have hYb := mul_bd (a := U) (b := p) (A := 20) (B := 12) (by omega) (by omega)
  have hXb := mul_bd (a := l) (b := U * p) (A := 300) (B := 240) (by omega) (by omega)
  obtain ⟨w1, w2, w3⟩ := mf_whole (n := l) (Y := U * p) hY0 (by omega) (by omega) (by omega)
  rw [← hkey] at w1 w2 w3
  have hok : (steelB p s e && fracB T U) = true := by rw [h.ok, hf]; rfl
  refine ⟨by rw [loadB, hok, w1]; rfl, ?_, ?_⟩
  · rw [loadT, if_pos hok, w2]
  · rw [loadU, if_pos hok, w3]
theorem level_small {p s e l : Int} (h : SmallS p s e) (hl : 0 ≤ l ∧ l ≤ 300) (hU : markU p s e l = 1) : levelB p s e l (markT p s e l) = true := by
  obtain ⟨m1, m2, m3⟩ := mark_small h hl
  have ht := h.top hl
  have hs := h.2.1
  obtain ⟨g, g0, g1, e1, e2, u0, u1, t0, t1⟩ := mf_back (X := e * s + l * p) (Y := s) (by omega) (by omega) (by omega)
  rw [m2]
  rw [m3] at hU
  rw [hU] at e2
  obtain ⟨T, hT⟩ : ∃ T, T = mfT (e * s + l * p) s := ⟨_, rfl⟩
  rw [← hT] at e1 t0 t1 ⊢
  have hgs : g = s := by omega
  rw [hgs] at e1
  rw [levelB, h.ok, inB_true.2 (by omega), inB_true.2 (by omega)]
  have : l * p = (T - e) * s := by rw [Int.sub_mul]; omega
  rw [this]; simp
theorem zero_small {p s e u : Int} (h : SmallS p s e) : markT p s e ((0 : Int) * u) = e ∧ markU p s e ((0 : Int) * u) = 1 := by
  rw [Int.zero_mul]
  obtain ⟨m1, m2, m3⟩ := mark_small h (l := 0) (by omega)
  rw [m2, m3, Int.zero_mul, Int.add_zero]
  have hs := h.2.1
  have he := h.2.2
  have hb := mul_bd (a := e) (b := s) (A := 10) (B := 20) (by omega) (by omega)
  obtain ⟨_, w2, w3⟩ := mf_whole (n := e) (Y := s) (by omega) (by omega) (by omega) (by omega)
  exact ⟨w2, w3⟩
/-- Two marks that lie d loads apart: their difference. -/
theorem gap_small {p s e l d : Int} (h : SmallS p s e) (hl : 0 ≤ l ∧ l ≤ 200) (hd : 0 ≤ d ∧ d ≤ 20) :
    (-4000000 ≤ markT p s e (l + d) * markU p s e l + -(markT p s e l) * markU p s e (l + d) ∧ markT p s e (l + d) * markU p s e l + -(markT p s e l) * markU p s e (l + d) ≤ 4000000) ∧
    mfB (markT p s e (l + d) * markU p s e l + -(markT p s e l) * markU p s e (l + d)) (markU p s e (l + d) * markU p s e l) = true ∧
    mfT (markT p s e (l + d) * markU p s e l + -(markT p s e l) * markU p s e (l + d)) (markU p s e (l + d) * markU p s e l) = mfT (d * p) s ∧
    mfU (markT p s e (l + d) * markU p s e l + -(markT p s e l) * markU p s e (l + d)) (markU p s e (l + d) * markU p s e l) = mfU (d * p) s := by
  obtain ⟨m1, m2, m3⟩ := mark_small h (l := l) (by omega)
  obtain ⟨k1, k2, k3⟩ := mark_small h (l := l + d) (by omega)
  have ht := h.top (l := l) (by omega)
  have ht2 := h.top (l := l + d) (by omega)
  have hs := h.2.1
  have hp := h.1
  obtain ⟨g, g0, g1, e1, e2, u0, u1, t0, t1⟩ := mf_back (X := e * s + l * p) (Y := s) (by omega) (by omega) (by omega)
  obtain ⟨f, f0, f1, e3, e4, v0, v1, r0, r1⟩ := mf_back (X := e * s + (l + d) * p) (Y := s) (by omega) (by omega) (by omega)
  rw [m2, m3, k2, k3]
  obtain ⟨T, hT⟩ : ∃ T, T = mfT (e * s + l * p) s := ⟨_, rfl⟩
  obtain ⟨U, hU⟩ : ∃ U, U = mfU (e * s + l * p) s := ⟨_, rfl⟩
  obtain ⟨R, hR⟩ : ∃ T, T = mfT (e * s + (l + d) * p) s := ⟨_, rfl⟩
  obtain ⟨V, hV⟩ : ∃ U, U = mfU (e * s + (l + d) * p) s := ⟨_, rfl⟩
  rw [← hT] at e1 t0 t1 ⊢
  rw [← hU] at e2 u0 u1 ⊢
  rw [← hR] at e3 r0 r1 ⊢
  rw [← hV] at e4 v0 v1 ⊢
  have b1 := mul_bd (a := R) (b := U) (A := 3800) (B := 20) (by omega) (by omega)
  have b2 := mul_bd (a := -T) (b := V) (A := 3800) (B := 20) (by omega) (by omega)
  have b3 := mul_bd (a := V) (b := U) (A := 20) (B := 20) (by omega) (by omega)
  have hY0 : 0 < V * U := Int.mul_pos v0 u0
  have c0 : 0 < f * g := Int.mul_pos f0 g0
  have cb := mul_bd (a := f) (b := g) (A := 20) (B := 20) (by omega) (by omega)
  have hdp := mul_bd (a := d) (b := p) (A := 20) (B := 12) (by omega) (by omega)
  have hX : (R * U + -T * V) * (f * g) = (d * p) * s := by
    have h1 : R * U * (f * g) = (e * s + (l + d) * p) * s := by
      calc R * U * (f * g) = (R * f) * (U * g) := by rw [Int.mul_assoc, Int.mul_assoc, ← Int.mul_assoc U f g, Int.mul_comm U f, Int.mul_assoc]
        _ = _ := by rw [← e3, ← e2]
    have h2 : T * V * (f * g) = (e * s + l * p) * s := by
      calc T * V * (f * g) = (T * g) * (V * f) := by rw [Int.mul_comm f g, Int.mul_assoc, Int.mul_assoc, ← Int.mul_assoc V g f, Int.mul_comm V g, Int.mul_assoc]
        _ = _ := by rw [← e1, ← e4]
    rw [Int.add_mul, h1, Int.neg_mul, Int.neg_mul, h2, Int.add_mul l d p, Int.add_mul, Int.add_mul, Int.add_mul]
    omega
  have hYs : (V * U) * (f * g) = s * s := by
    calc (V * U) * (f * g) = (V * f) * (U * g) := by rw [Int.mul_assoc, Int.mul_assoc, ← Int.mul_assoc U f g, Int.mul_comm U f, Int.mul_assoc]
      _ = s * s := by rw [← e4, ← e2]
  have hss := mul_bd (a := s) (b := s) (A := 20) (B := 20) (by omega) (by omega)
  have hds := mul_bd (a := d * p) (b := s) (A := 240) (B := 20) (by omega) (by omega)
  have q1 := mf_scale (X := R * U + -T * V) (Y := V * U) (c := f * g) hY0 c0 (by omega) (by omega) (by rw [hX]; omega) (by rw [hYs]; omega)
  have q2 := mf_scale (X := d * p) (Y := s) (c := s) (by omega) (by omega) (by omega) (by omega) (by omega) (by omega)
  rw [hX, hYs] at q1
  refine ⟨by omega, (mf_low hY0 (by omega) (by omega)).1, ?_, ?_⟩
  · rw [← q1.1, q2.1]
  · rw [← q1.2, q2.2]
end Go.Proofs.Ytamhdjbhoafbhaa
