/- Plain laws for FnCircles: the counts of the arcs, by pairs of marks. -/
import Derived.Test.YtoobpkcnmgjccaaTurnS
import Derived.Test.YtoobpkcnmgjccaaFindS
set_option linter.unusedVariables false
namespace Go.Proofs.Ytoobpkcnmgjccaa

/-- How many arcs from x are a, over the marks xs. -/
def cntR (N : Nat) (xs : List Int) (a : Nat) (x : Int) : Nat := xs.countP fun y => decide (y ≠ x) && (arcD N x y == a)
def cntP (N : Nat) (xs : List Int) (a : Nat) : Nat := (xs.map (cntR N xs a)).sum
theorem asc_inj {xs : List Int} (h : ascB xs = true) : ∀ i j, i < j → j < xs.length → xs.getD i 0 < xs.getD j 0 := by
  intro i j hij
  induction j with
  | zero => omega
  | succ j ih =>
    intro hj
    have h1 := ascB_iff.1 h j hj
    rcases Nat.lt_or_ge i j with h2 | h2
    · have := ih h2 (by omega); omega
    · obtain rfl : i = j := by omega
      exact h1
theorem addAt_getD {l : List Int} {d : Nat} (hd : d < l.length) (a : Nat) : (addAt l d).getD a 0 = l.getD a 0 + if d = a then 1 else 0 := by
  rw [addAt, List.getD_eq_getElem?_getD, List.getElem?_set]
  by_cases e : d = a
  · subst e; simp [hd]
  · simp [e]
theorem take_succ_getD {xs : List Int} {k : Nat} (hk : k < xs.length) : xs.take (k + 1) = xs.take k ++ [xs.getD k 0] := by
  rw [List.take_succ_eq_append_getElem hk, List.getD_eq_getElem?_getD, List.getElem?_eq_getElem hk]; rfl
theorem arcsIn_getD {N : Nat} (hN : 1 ≤ N) {xs : List Int} (hs : ascB xs = true) {i : Nat} (hi : i < xs.length) {l : List Int} (hl : l.length = N) (a : Nat) : ∀ k, k ≤ xs.length →
    (arcsIn N xs (xs.getD i 0) i l k).getD a 0 = l.getD a 0 + (((xs.take k).countP fun y => decide (y ≠ xs.getD i 0) && (arcD N (xs.getD i 0) y == a) : Nat) : Int) := by
  intro k
  induction k with
  | zero => intro _; simp [arcsIn]
  | succ k ih =>
    intro hk
    rw [arcsIn, take_succ_getD (by omega), List.countP_append, List.countP_cons, List.countP_nil]
    by_cases e : i = k
    · subst e
      rw [if_pos rfl, ih (by omega)]
      simp
    · rw [if_neg e, addAt_getD (by rw [arcsIn_length, hl]; exact arcD_lt hN _ _), ih (by omega)]
      have hne : xs.getD k 0 ≠ xs.getD i 0 := by
        rcases Nat.lt_or_ge i k with h | h
        · have := asc_inj hs i k h (by omega); omega
        · have := asc_inj hs k i (by omega) hi; omega
      generalize xs.getD k 0 = X at *
      generalize xs.getD i 0 = Y at *
      generalize List.countP (fun y => decide (y ≠ Y) && arcD N Y y == a) (List.take k xs) = C
      have hp : (decide (X ≠ Y) && (arcD N Y X == a)) = decide (arcD N Y X = a) := by
        rw [Bool.eq_iff_iff]; simp [hne]
      rw [hp]
      by_cases e2 : arcD N Y X = a
      · simp only [e2, decide_true, if_true]; omega
      · simp only [e2, decide_false, if_false, Bool.false_eq_true]; omega
theorem arcsOut_getD {N : Nat} (hN : 1 ≤ N) {xs : List Int} (hs : ascB xs = true) {a : Nat} (ha : a < N) : ∀ i, i ≤ xs.length → (arcsOut N xs i).getD a 0 = ((((xs.take i).map (cntR N xs a)).sum : Nat) : Int) := by
  intro i
  induction i with
  | zero => intro _; simp [arcsOut, List.getD_eq_getElem?_getD, ha]
  | succ i ih =>
    intro hi
    rw [arcsOut, arcsIn_getD hN hs (by omega) (arcsOut_length _ _ _) a _ (Nat.le_refl _), ih (by omega), take_succ_getD (by omega), List.map_append, List.sum_append, List.take_length]
    simp [cntR]
/-- The arcs, counted by pairs. -/
theorem arcs_cnt {N : Nat} {xs : List Int} (h : circB (N : Int) xs = true) {a : Nat} (ha : a < N) : (arcs (N : Int) xs).getD a 0 = ((cntP N xs a : Nat) : Int) := by
  have hb := circB_bd h
  rw [arcs, if_pos h, Int.toNat_natCast, arcsOut_getD (by omega) hb.2.2.1 ha _ (Nat.le_refl _), List.take_length]
  rfl
theorem cntP_perm {N : Nat} {xs ys : List Int} (h : xs.Perm ys) (a : Nat) : cntP N xs a = cntP N ys a := by
  have e : cntR N xs a = cntR N ys a := by funext x; exact h.countP_eq _
  rw [cntP, cntP, e]
  exact (h.map _).sum_nat
/-- Marks moved by f, arcs moved by g. -/
theorem cntP_map {N : Nat} {xs : List Int} {f : Int → Int} {g : Nat → Nat} (hf : ∀ x ∈ xs, ∀ y ∈ xs, f x = f y → x = y) (hg : ∀ x ∈ xs, ∀ y ∈ xs, arcD N (f x) (f y) = g (arcD N x y)) (hgi : ∀ b c, b < N → c < N → g b = g c → b = c) (hN : 1 ≤ N) {a : Nat} (ha : a < N) :
    cntP N (xs.map f) (g a) = cntP N xs a := by
  rw [cntP, cntP, List.map_map]
  congr 1
  refine List.map_congr_left fun x hx => ?_
  show (xs.map f).countP _ = _
  rw [List.countP_map]
  refine List.countP_congr fun y hy => ?_
  simp only [Function.comp, Bool.and_eq_true, decide_eq_true_eq, beq_iff_eq]
  constructor
  · rintro ⟨h1, h2⟩
    rw [hg x hx y hy] at h2
    exact ⟨fun e => h1 (by rw [e]), hgi _ _ (arcD_lt hN _ _) ha h2⟩
  · rintro ⟨h1, h2⟩
    exact ⟨fun e => h1 (hf y hy x hx e), by rw [hg x hx y hy, h2]⟩
end Go.Proofs.Ytoobpkcnmgjccaa
