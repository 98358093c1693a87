/- LeastWeights: the weights laid into a mobile's shape; both programs' words. -/
import Derived.Test.YtajdppfngnpklaaLwP
set_option linter.unusedVariables false
namespace Go.Proofs.Ytajdppfngnpklaa
def put (xs : List Pt) (u : Nat → Int) : List Pt := (List.range xs.length).map fun j => if (pt xs j).l = -1 then { pt xs j with x := u j } else pt xs j
theorem put_length (xs : List Pt) (u : Nat → Int) : (put xs u).length = xs.length := by simp [put]
theorem pt_put (xs : List Pt) (u : Nat → Int) (k : Nat) : pt (put xs u) k = if (pt xs k).l = -1 then { pt xs k with x := u k } else pt xs k := by
  by_cases hk : k < xs.length
  · rw [pt, put, List.getD_eq_getElem?_getD, List.getElem?_map, List.getElem?_range hk]; rfl
  · have e : pt xs k = ⟨0, 0, 0, 0, 0⟩ := by rw [pt, List.getD_eq_getElem?_getD, List.getElem?_eq_none (by omega)]; rfl
    rw [pt, List.getD_eq_getElem?_getD, List.getElem?_eq_none (by rw [put_length]; omega), e]; rfl
theorem put_l (xs : List Pt) (u : Nat → Int) (k : Nat) : (pt (put xs u) k).l = (pt xs k).l := by rw [pt_put]; split <;> rfl
theorem put_r (xs : List Pt) (u : Nat → Int) (k : Nat) : (pt (put xs u) k).r = (pt xs k).r := by rw [pt_put]; split <;> rfl
theorem put_p (xs : List Pt) (u : Nat → Int) (k : Nat) : (pt (put xs u) k).p = (pt xs k).p := by rw [pt_put]; split <;> rfl
theorem put_q (xs : List Pt) (u : Nat → Int) (k : Nat) : (pt (put xs u) k).q = (pt xs k).q := by rw [pt_put]; split <;> rfl
theorem put_x {xs : List Pt} (u : Nat → Int) {k : Nat} (hl : (pt xs k).l = -1) : (pt (put xs u) k).x = u k := by rw [pt_put, if_pos hl]
theorem put_kL (xs : List Pt) (u : Nat → Int) (k : Nat) : kL (put xs u) k = kL xs k := by unfold kL; rw [put_l]
theorem put_kR (xs : List Pt) (u : Nat → Int) (k : Nat) : kR (put xs u) k = kR xs k := by unfold kR; rw [put_r]
theorem ext_pt {xs ys : List Pt} (hl : xs.length = ys.length) (h : ∀ k, k < xs.length → pt xs k = pt ys k) : xs = ys := by
  refine List.ext_getElem hl fun i h1 h2 => ?_
  have := h i h1
  rwa [pt, pt, List.getD_eq_getElem?_getD, List.getD_eq_getElem?_getD, List.getElem?_eq_getElem h1, List.getElem?_eq_getElem h2] at this
theorem put_congr {xs : List Pt} {u v : Nat → Int} (h : ∀ j, j < xs.length → (pt xs j).l = -1 → u j = v j) : put xs u = put xs v := by
  refine ext_pt (by rw [put_length, put_length]) fun k hk => ?_
  rw [put_length] at hk
  rw [pt_put, pt_put]
  by_cases hl : (pt xs k).l = -1
  · rw [if_pos hl, if_pos hl, h k hk hl]
  · rw [if_neg hl, if_neg hl]
theorem put_self (xs : List Pt) : put xs (fun j => (pt xs j).x) = xs := by
  refine ext_pt (put_length _ _) fun k hk => ?_
  rw [pt_put]; split <;> rfl
theorem pt_set (xs : List Pt) {k : Nat} (hk : k < xs.length) (v : Pt) (j : Nat) : pt (xs.set k v) j = if k = j then v else pt xs j := by
  rw [pt, List.getD_eq_getElem?_getD, List.getElem?_set]
  by_cases e : k = j
  · subst e; simp [hk]
  · rw [if_neg e, if_neg e, ← List.getD_eq_getElem?_getD]; rfl
def sx (xs : List Pt) (k : Nat) (c : Int) : List Pt := xs.set k { pt xs k with x := c }
theorem sx_put {xs : List Pt} (u : Nat → Int) {k : Nat} (hk : k < xs.length) (hl : (pt xs k).l = -1) (c : Int) : sx (put xs u) k c = put xs (fun j => if k = j then c else u j) := by
  refine ext_pt (by rw [sx, List.length_set, put_length, put_length]) fun j hj => ?_
  rw [sx, pt_set _ (by rw [put_length]; exact hk), pt_put, pt_put, pt_put]
  by_cases e : k = j
  · subst e; rw [if_pos rfl, if_pos hl]; simp only [if_pos hl, if_true]
  · rw [if_neg e]; simp only [if_neg e]
/-! ### The programs' words -/
def moM (xs : List Pt) : Nat → Nat → Int
  | 0, _ => 0
  | f + 1, k => if (pt xs k).l = -1 then (pt xs k).x else max (moM xs f (kL xs k)) (moM xs f (kR xs k))
/-- Scaling, as the program does it: it stops at a weight over 1000. -/
def scO : Nat → List Pt → Nat → Int → Option (List Pt)
  | 0, _, _, _ => none
  | f + 1, xs, k, b => if (pt xs k).l = -1 then (if (pt xs k).x * b ≤ 1000 then some (sx xs k ((pt xs k).x * b)) else none)
      else match scO f xs (kL xs k) b with
        | none => none
        | some ys => scO f ys (kR xs k) b
/-- Two scalings, one after the other. -/
def prO (ys : List Pt) (l r : Nat) (b a : Int) : Option (List Pt) :=
  match scO 16 ys l b with
  | none => none
  | some us => scO 16 us r a
def fA (xs zs : List Pt) (k : Nat) : Int := wtM zs 16 (kL xs k) * (pt xs k).p
def fB (xs zs : List Pt) (k : Nat) : Int := wtM zs 16 (kR xs k) * (pt xs k).q
def leO : Nat → List Pt → Nat → Option (List Pt)
  | 0, _, _ => none
  | f + 1, xs, k => if (pt xs k).l = -1 then some (sx xs k 1)
      else match leO f xs (kL xs k) with
        | none => none
        | some ys => match leO f ys (kR xs k) with
          | none => none
          | some zs => prO zs (kL xs k) (kR xs k) (fB xs zs k / (Int.gcd (fA xs zs k) (fB xs zs k) : Int)) (fA xs zs k / (Int.gcd (fA xs zs k) (fB xs zs k) : Int))
def stO (ys : List Pt) (k : Nat) : Option (List Pt) :=
  if (pt ys k).l = -1 then some (sx ys k 1)
  else if moM ys 16 (kL ys k) * (fB ys ys k / (Int.gcd (fA ys ys k) (fB ys ys k) : Int)) ≤ 1000 ∧ moM ys 16 (kR ys k) * (fA ys ys k / (Int.gcd (fA ys ys k) (fB ys ys k) : Int)) ≤ 1000
    then prO ys (kL ys k) (kR ys k) (fB ys ys k / (Int.gcd (fA ys ys k) (fB ys ys k) : Int)) (fA ys ys k / (Int.gcd (fA ys ys k) (fB ys ys k) : Int))
    else none
def loO (xs : List Pt) : Nat → Option (List Pt)
  | 0 => some xs
  | m + 1 => match loO xs m with
    | none => none
    | some ys => stO ys (xs.length - 1 - m)
/-! ### The words on weights alone -/
def wtT (xs : List Pt) (u : Nat → Int) (k : Nat) : Int := fo xs 0 u (fun _ a b => a + b) 16 k
def moT (xs : List Pt) (u : Nat → Int) (k : Nat) : Int := fo xs 0 u (fun _ a b => max a b) 16 k
theorem wtM_put (xs : List Pt) (u : Nat → Int) : ∀ f k, wtM (put xs u) f k = fo xs 0 u (fun _ a b => a + b) f k := by
  intro f
  induction f with
  | zero => intro k; rfl
  | succ f ih =>
    intro k
    rw [wtM, fo, put_l]
    by_cases hl : (pt xs k).l = -1
    · rw [if_pos hl, if_pos hl, put_x u hl]
    · rw [if_neg hl, if_neg hl, put_r, ih, ih]; rfl
theorem moM_put (xs : List Pt) (u : Nat → Int) : ∀ f k, moM (put xs u) f k = fo xs 0 u (fun _ a b => max a b) f k := by
  intro f
  induction f with
  | zero => intro k; rfl
  | succ f ih =>
    intro k
    rw [moM, fo, put_l]
    by_cases hl : (pt xs k).l = -1
    · rw [if_pos hl, if_pos hl, put_x u hl]
    · rw [if_neg hl, if_neg hl, put_kL, put_kR, ih, ih]
theorem sb_l {xs : List Pt} (h : Tr xs) {k : Nat} (hk : k < xs.length) (hl : ¬ (pt xs k).l = -1) {j : Nat} (hs : sbT xs (kL xs k) j = true) : sbT xs k j = true := by rw [sb_node h hk hl, hs]; simp
theorem sb_r {xs : List Pt} (h : Tr xs) {k : Nat} (hk : k < xs.length) (hl : ¬ (pt xs k).l = -1) {j : Nat} (hs : sbT xs (kR xs k) j = true) : sbT xs k j = true := by rw [sb_node h hk hl, hs]; simp
theorem fo_congr {xs : List Pt} (h : Tr xs) (nd : Nat → Int → Int → Int) {u v : Nat → Int} : ∀ k, k < xs.length → (∀ j, (pt xs j).l = -1 → sbT xs k j = true → u j = v j) → fo xs 0 u nd 16 k = fo xs 0 v nd 16 k := by
  refine h.induct (fun k hk hl hs => ?_) (fun k hk hl i1 i2 hs => ?_)
  · rw [fo_eq h _ _ _ hk, fo_eq h _ _ _ hk, if_pos hl, if_pos hl]; exact hs k hl (sb_self h hk)
  · rw [fo_eq h _ _ _ hk, fo_eq h _ _ _ hk, if_neg hl, if_neg hl, i1 fun j a b => hs j a (sb_l h hk hl b), i2 fun j a b => hs j a (sb_r h hk hl b)]
theorem wtT_node {xs : List Pt} (h : Tr xs) (u : Nat → Int) {k : Nat} (hk : k < xs.length) (hl : ¬ (pt xs k).l = -1) : wtT xs u k = wtT xs u (kL xs k) + wtT xs u (kR xs k) := by
  rw [wtT, fo_eq h _ _ _ hk, if_neg hl]; rfl
theorem wtT_leaf {xs : List Pt} (h : Tr xs) (u : Nat → Int) {k : Nat} (hk : k < xs.length) (hl : (pt xs k).l = -1) : wtT xs u k = u k := by
  rw [wtT, fo_eq h _ _ _ hk, if_pos hl]
theorem moT_node {xs : List Pt} (h : Tr xs) (u : Nat → Int) {k : Nat} (hk : k < xs.length) (hl : ¬ (pt xs k).l = -1) : moT xs u k = max (moT xs u (kL xs k)) (moT xs u (kR xs k)) := by
  rw [moT, fo_eq h _ _ _ hk, if_neg hl]; rfl
theorem moT_leaf {xs : List Pt} (h : Tr xs) (u : Nat → Int) {k : Nat} (hk : k < xs.length) (hl : (pt xs k).l = -1) : moT xs u k = u k := by
  rw [moT, fo_eq h _ _ _ hk, if_pos hl]
theorem max_mul_le {a b c : Int} (hc : 0 ≤ c) : max a b * c ≤ 1000 ↔ a * c ≤ 1000 ∧ b * c ≤ 1000 := by
  rcases Int.le_total a b with e | e
  · rw [Int.max_eq_right e]
    have := Int.mul_le_mul_of_nonneg_right e hc
    omega
  · rw [Int.max_eq_left e]
    have := Int.mul_le_mul_of_nonneg_right e hc
    omega
def scW (xs : List Pt) (u : Nat → Int) (k : Nat) (b : Int) : Nat → Int := fun j => if sbT xs k j then u j * b else u j
theorem scO_put {xs : List Pt} (h : Tr xs) (b : Int) (hb : 0 ≤ b) : ∀ f k, k < xs.length → xs.length - k ≤ f → ∀ u, scO f (put xs u) k b = if moT xs u k * b ≤ 1000 then some (put xs (scW xs u k b)) else none := by
  intro f
  induction f with
  | zero => intro k hk hf; omega
  | succ f ih =>
    intro k hk hf u
    rw [scO, put_l]
    by_cases hl : (pt xs k).l = -1
    · rw [if_pos hl, put_x u hl, moT_leaf h u hk hl, sx_put u hk hl]
      have e : put xs (fun j => if k = j then u k * b else u j) = put xs (scW xs u k b) := put_congr fun j hj hjl => by
        simp only [scW, sb_leaf h hk hl, beq_iff_eq]
        by_cases e : k = j
        · subst e; simp
        · simp [e]
      rw [e]
    · have hc := h.kids hk hl
      rw [if_neg hl, put_kL, put_kR, ih _ hc.1.2 (by omega), moT_node h u hk hl]
      have hR : moT xs (scW xs u (kL xs k) b) (kR xs k) = moT xs u (kR xs k) := fo_congr h _ _ hc.2.2 fun j hj hs => by
        have : ¬ sbT xs (kL xs k) j = true := fun e => sb_apart h hk hl e hs
        simp only [scW, if_neg this]
      by_cases h1 : moT xs u (kL xs k) * b ≤ 1000
      · rw [if_pos h1]
        dsimp only
        rw [ih _ hc.2.2 (by omega), hR]
        by_cases h2 : moT xs u (kR xs k) * b ≤ 1000
        · rw [if_pos h2, if_pos ((max_mul_le hb).2 ⟨h1, h2⟩)]
          refine congrArg some (put_congr fun j hj hjl => ?_)
          have hkj : (k == j) = false := by
            rw [beq_eq_false_iff_ne]; intro e; subst e; exact hl hjl
          simp only [scW, sb_node h hk hl, hkj, Bool.false_or]
          cases e1 : sbT xs (kL xs k) j with
          | true =>
            have e2 : sbT xs (kR xs k) j = false := by
              rw [Bool.eq_false_iff]; exact fun e => sb_apart h hk hl e1 e
            simp [e2]
          | false => simp
        · rw [if_neg h2, if_neg (fun e => h2 ((max_mul_le hb).1 e).2)]
      · rw [if_neg h1, if_neg (fun e => h1 ((max_mul_le hb).1 e).1)]
/-! ### The least weights, by shape alone -/
def cA (xs : List Pt) (u : Nat → Int) (k : Nat) : Int := wtT xs u (kL xs k) * (pt xs k).p
def cB (xs : List Pt) (v : Nat → Int) (k : Nat) : Int := wtT xs v (kR xs k) * (pt xs k).q
def sA (xs : List Pt) (u v : Nat → Int) (k : Nat) : Int := cA xs u k / (Int.gcd (cA xs u k) (cB xs v k) : Int)
def sB (xs : List Pt) (u v : Nat → Int) (k : Nat) : Int := cB xs v k / (Int.gcd (cA xs u k) (cB xs v k) : Int)
def comb (xs : List Pt) (k : Nat) (a b : Option (Nat → Int)) : Option (Nat → Int) :=
  match a, b with
  | some u, some v => if moT xs u (kL xs k) * sB xs u v k ≤ 1000 ∧ moT xs v (kR xs k) * sA xs u v k ≤ 1000 then some (fun j => if sbT xs (kL xs k) j then u j * sB xs u v k else v j * sA xs u v k) else none
  | _, _ => none
def tT (xs : List Pt) (k : Nat) : Option (Nat → Int) := fo xs none (fun _ => some (fun _ => 1)) (comb xs) 16 k
theorem tT_leaf {xs : List Pt} (h : Tr xs) {k : Nat} (hk : k < xs.length) (hl : (pt xs k).l = -1) : tT xs k = some (fun _ => 1) := by
  rw [tT, fo_eq h _ _ _ hk, if_pos hl]
theorem tT_node {xs : List Pt} (h : Tr xs) {k : Nat} (hk : k < xs.length) (hl : ¬ (pt xs k).l = -1) : tT xs k = comb xs k (tT xs (kL xs k)) (tT xs (kR xs k)) := by
  rw [tT, fo_eq h _ _ _ hk, if_neg hl]; rfl
theorem sA_nonneg {xs : List Pt} {u v : Nat → Int} {k : Nat} (h1 : 0 ≤ cA xs u k) : 0 ≤ sA xs u v k := Int.ediv_nonneg h1 (Int.natCast_nonneg _)
theorem sB_nonneg {xs : List Pt} {u v : Nat → Int} {k : Nat} (h1 : 0 ≤ cB xs v k) : 0 ≤ sB xs u v k := Int.ediv_nonneg h1 (Int.natCast_nonneg _)
/-- The quotients by the common divisor are at least 1. -/
theorem quot_pos {a b : Int} (ha : 1 ≤ a) : 1 ≤ a / (Int.gcd a b : Int) := by
  have hd : (Int.gcd a b : Int) ∣ a := Int.gcd_dvd_left a b
  have hg : 0 < Int.gcd a b := Int.gcd_pos_of_ne_zero_left b (by omega)
  obtain ⟨c, hc⟩ := hd
  generalize hG : (Int.gcd a b : Int) = G at hc
  have hG0 : 0 < G := by omega
  rw [hc, Int.mul_ediv_cancel_left _ (by omega)]
  rcases Int.lt_or_le 0 c with h | h
  · omega
  · have := Int.mul_nonneg (show 0 ≤ G by omega) (show 0 ≤ -c by omega)
    rw [Int.mul_neg] at this
    omega
/-- The weights of 'tT' lie in 1 .. 1000. -/
theorem wtT_pos {xs : List Pt} (h : Tr xs) {u : Nat → Int} : ∀ k, k < xs.length → (∀ j, j < xs.length → (pt xs j).l = -1 → sbT xs k j = true → 1 ≤ u j) → 1 ≤ wtT xs u k := by
  refine h.induct (fun k hk hl hs => ?_) (fun k hk hl i1 i2 hs => ?_)
  · rw [wtT_leaf h u hk hl]; exact hs k hk hl (sb_self h hk)
  · have a := i1 fun j a b c => hs j a b (sb_l h hk hl c)
    have b := i2 fun j a b c => hs j a b (sb_r h hk hl c)
    rw [wtT_node h u hk hl]; omega
theorem le_moT {xs : List Pt} (h : Tr xs) {u : Nat → Int} : ∀ k, k < xs.length → ∀ j, (pt xs j).l = -1 → sbT xs k j = true → u j ≤ moT xs u k := by
  refine h.induct (fun k hk hl j hj hs => ?_) (fun k hk hl i1 i2 j hj hs => ?_)
  · rw [sb_leaf h hk hl, beq_iff_eq] at hs
    subst hs; rw [moT_leaf h u hk hl]; exact Int.le_refl _
  · rw [sb_node h hk hl, Bool.or_eq_true, Bool.or_eq_true, beq_iff_eq] at hs
    rw [moT_node h u hk hl]
    rcases hs with e | e | e
    · subst e; exact absurd hj hl
    · have := i1 j hj e; omega
    · have := i2 j hj e; omega
theorem tT_bd {xs : List Pt} (h : Tr xs) : ∀ k, k < xs.length → ∀ u, tT xs k = some u → ∀ j, j < xs.length → (pt xs j).l = -1 → sbT xs k j = true → 1 ≤ u j ∧ u j ≤ 1000 := by
  refine h.induct (fun k hk hl u hu j hj hjl hs => ?_) (fun k hk hl i1 i2 u hu j hj hjl hs => ?_)
  · rw [tT_leaf h hk hl] at hu
    cases hu
    exact ⟨Int.le_refl 1, (by decide : (1 : Int) ≤ 1000)⟩
  · have hc := h.kids hk hl
    rw [tT_node h hk hl] at hu
    unfold comb at hu
    split at hu
    · rename_i u1 u2 h1 h2
      split at hu
      · rename_i hm
        cases hu
        have p1 := wtT_pos h _ hc.1.2 fun j a b c => (i1 u1 h1 j a b c).1
        have p2 := wtT_pos h _ hc.2.2 fun j a b c => (i2 u2 h2 j a b c).1
        have ha := h.arm k hk hl
        have q1 : 1 ≤ cA xs u1 k := by
          unfold cA
          have := Int.mul_le_mul p1 ha.2.2.1.1 (by omega) (by omega)
          omega
        have q2 : 1 ≤ cB xs u2 k := by
          unfold cB
          have := Int.mul_le_mul p2 ha.2.2.2.1 (by omega) (by omega)
          omega
        have r1 : 1 ≤ sA xs u1 u2 k := quot_pos q1
        have r2 : 1 ≤ sB xs u1 u2 k := by
          unfold sB; rw [Int.gcd_comm]; exact quot_pos q2
        rw [sb_node h hk hl, Bool.or_eq_true, Bool.or_eq_true, beq_iff_eq] at hs
        show 1 ≤ (if sbT xs (kL xs k) j = true then u1 j * sB xs u1 u2 k else u2 j * sA xs u1 u2 k) ∧ (if sbT xs (kL xs k) j = true then u1 j * sB xs u1 u2 k else u2 j * sA xs u1 u2 k) ≤ 1000
        cases e1 : sbT xs (kL xs k) j with
        | true =>
          rw [if_pos rfl]
          have b1 := i1 u1 h1 j hj hjl e1
          have m1 := le_moT h (u := u1) _ hc.1.2 j hjl e1
          have := Int.mul_le_mul b1.1 r2 (by omega) (by omega)
          have := Int.mul_le_mul_of_nonneg_right m1 (show 0 ≤ sB xs u1 u2 k by omega)
          have := hm.1
          omega
        | false =>
          have e2 : sbT xs (kR xs k) j = true := by
            rcases hs with e | e | e
            · subst e; exact absurd hjl hl
            · rw [e] at e1; cases e1
            · exact e
          have b1 := i2 u2 h2 j hj hjl e2
          have m1 := le_moT h (u := u2) _ hc.2.2 j hjl e2
          have := Int.mul_le_mul b1.1 r1 (by omega) (by omega)
          have := Int.mul_le_mul_of_nonneg_right m1 (show 0 ≤ sA xs u1 u2 k by omega)
          have := hm.2
          rw [if_neg (by simp)]
          omega
      · cases hu
    · cases hu
end Go.Proofs.Ytajdppfngnpklaa
