/- DrawMobile: growing a mobile keeps it one. -/
import Derived.Test.YtajdppfngnpklaaMoP
set_option linter.unusedVariables false
namespace Go.Proofs.Ytajdppfngnpklaa
theorem cnt_succ {xs : List Pt} {n m j : Nat} (hj : j < n) : (cntL xs n (m + 1)).getD j 0 = (cntL xs n m).getD j 0 + if (pt xs m).l = -1 then 0 else ((if kL xs m = j then 1 else 0) + (if kR xs m = j then 1 else 0)) := by
  rw [cntL]
  by_cases hl : (pt xs m).l = -1
  · rw [if_pos hl, if_pos hl]; omega
  · rw [if_neg hl, if_neg hl]
    simp only [bump_getD, bump_length, cntL_length]
    unfold kL kR
    generalize (pt xs m).l.toNat = a
    generalize (pt xs m).r.toNat = b
    by_cases e1 : b = j <;> by_cases e2 : a = j
    · subst e1; subst e2; simp [hj]; omega
    · subst e1; simp [e2, hj]
    · subst e2; simp [e1, hj]
    · simp [e1, e2]
def grow (L : List Pt) (k : Nat) (p q x y : Int) : List Pt := L.set k ⟨(L.length : Int), (L.length : Int) + 1, p, q, 0⟩ ++ [⟨-1, -1, 0, 0, x⟩, ⟨-1, -1, 0, 0, y⟩]
theorem grow_length (L : List Pt) (k : Nat) (p q x y : Int) : (grow L k p q x y).length = L.length + 2 := by simp [grow]
theorem grow_pt (L : List Pt) {k : Nat} (hk : k < L.length) (p q x y : Int) (j : Nat) : pt (grow L k p q x y) j = if j < L.length then (if k = j then ⟨(L.length : Int), (L.length : Int) + 1, p, q, 0⟩ else pt L j) else if j = L.length then ⟨-1, -1, 0, 0, x⟩ else if j = L.length + 1 then ⟨-1, -1, 0, 0, y⟩ else pt [] 0 := by
  unfold grow
  by_cases h : j < L.length
  · rw [if_pos h, pt, List.getD_eq_getElem?_getD, List.getElem?_append_left (by simpa using h), ← List.getD_eq_getElem?_getD]
    exact pt_set L hk _ j
  · rw [if_neg h, pt, List.getD_eq_getElem?_getD, List.getElem?_append_right (by simpa using h), List.length_set]
    by_cases e : j = L.length
    · subst e; simp
    · rw [if_neg e]
      by_cases e2 : j = L.length + 1
      · subst e2; simp
      · rw [if_neg e2]
        obtain ⟨i, hi⟩ : ∃ i, j - L.length = i + 2 := ⟨j - L.length - 2, by omega⟩
        rw [hi]; simp [pt]
theorem grow_mob {L : List Pt} (h : mobB L = true) {k : Nat} (hk : k < L.length) (hl : (pt L k).l = -1) (h13 : L.length ≤ 13) {p q x y : Int} (hp : 1 ≤ p ∧ p ≤ 4) (hq : 1 ≤ q ∧ q ≤ 4) (hx : 1 ≤ x ∧ x ≤ 9) (hy : 1 ≤ y ∧ y ≤ 9) : mobB (grow L k p q x y) = true := by
  have ht := mobB_tr h
  have h3 := (mobB_bd h).2.2
  have h1 := ht.n1
  have hg := fun j => grow_pt L hk p q x y j
  obtain ⟨G, hG⟩ : ∃ G, G = grow L k p q x y := ⟨_, rfl⟩
  have hn : G.length = L.length + 2 := by rw [hG, grow_length]
  rw [← hG] at hg ⊢
  obtain ⟨n, hL⟩ : ∃ n, n = L.length := ⟨_, rfl⟩
  rw [← hL] at hg hn hk h13 h1 h3
  have hgk : pt G k = ⟨(n : Int), (n : Int) + 1, p, q, 0⟩ := by rw [hg, if_pos hk, if_pos rfl]
  have hgj : ∀ j, j < n → ¬ k = j → pt G j = pt L j := fun j hj e => by rw [hg, if_pos hj, if_neg e]
  have hg1 : pt G n = ⟨-1, -1, 0, 0, x⟩ := by rw [hg, if_neg (by omega), if_pos rfl]
  have hg2 : pt G (n + 1) = ⟨-1, -1, 0, 0, y⟩ := by rw [hg, if_neg (by omega), if_neg (by omega), if_pos rfl]
  have kk : kL G k = n ∧ kR G k = n + 1 := by unfold kL kR; rw [hgk]; dsimp only; omega
  have hlk : ¬ (pt G k).l = -1 := by rw [hgk]; dsimp only; omega
  have hkids : ∀ j, j < n → ¬ (pt L j).l = -1 → kL L j < n ∧ kR L j < n := fun j hj e => by
    have := ht.kids (k := j) (by omega) e; omega
  have hkj : ∀ j, j < n → ¬ k = j → kL G j = kL L j ∧ kR G j = kR L j := fun j hj e => by unfold kL kR; rw [hgj j hj e]; exact ⟨rfl, rfl⟩
  have A : ∀ j, j < n → ∀ m, m ≤ n → (cntL G (n + 2) m).getD j 0 = (cntL L n m).getD j 0 := by
    intro j hj m
    induction m with
    | zero => intro _; simp [cntL, List.getD_eq_getElem?_getD, hj, show j < n + 2 by omega]
    | succ m ih =>
      intro hm
      rw [cnt_succ (by omega), cnt_succ hj, ih (by omega)]
      by_cases e : k = m
      · subst e
        rw [if_neg hlk, if_pos hl, kk.1, kk.2, if_neg (by omega), if_neg (by omega)]; rfl
      · rw [hgj m (by omega) e, (hkj m (by omega) e).1, (hkj m (by omega) e).2]
  have B : ∀ j, (j = n ∨ j = n + 1) → ∀ m, m ≤ n → (cntL G (n + 2) m).getD j 0 = if k < m then 1 else 0 := by
    intro j hj m
    induction m with
    | zero => intro _; rcases hj with rfl | rfl <;> simp [cntL, List.getD_eq_getElem?_getD]
    | succ m ih =>
      intro hm
      rw [cnt_succ (by omega), ih (by omega)]
      by_cases e : k = m
      · subst e
        rw [if_neg hlk, kk.1, kk.2]
        rcases hj with rfl | rfl <;> simp
      · rw [hgj m (by omega) e, (hkj m (by omega) e).1, (hkj m (by omega) e).2]
        have : (if (pt L m).l = -1 then 0 else ((if kL L m = j then 1 else 0) + (if kR L m = j then 1 else 0)) : Int) = 0 := by
          by_cases hlm : (pt L m).l = -1
          · rw [if_pos hlm]
          · have := hkids m (by omega) hlm
            rw [if_neg hlm, if_neg (by omega), if_neg (by omega)]; rfl
        rw [this]
        by_cases c : k < m
        · rw [if_pos c, if_pos (by omega)]; rfl
        · rw [if_neg c, if_neg (by omega)]; rfl
  have C : ∀ j, j < n + 2 → (cntL G (n + 2) (n + 2)).getD j 0 = (cntL G (n + 2) n).getD j 0 := by
    intro j hj
    rw [cnt_succ hj, cnt_succ hj, hg1, hg2]
    simp
  simp only [mobB, Bool.and_eq_true, List.all_eq_true, List.mem_range, onesB, hn]
  refine ⟨⟨inB_true.2 (by omega), fun j hj => ?_⟩, fun j hj => ?_⟩
  · by_cases hjn : j < n
    · by_cases e : k = j
      · subst e
        rw [partB, if_neg hlk, armB, hgk]
        dsimp only
        simp only [inB, Bool.and_eq_true, decide_eq_true_eq, beq_iff_eq]
        (repeat' apply And.intro) <;> first | trivial | omega
      · rw [hgj j hjn e]
        have := h3 j hjn
        rw [partB] at this ⊢
        by_cases hjl : (pt L j).l = -1
        · rw [if_pos hjl] at this ⊢; exact this
        · rw [if_neg hjl] at this ⊢
          simp only [armB, inB, Bool.and_eq_true, decide_eq_true_eq, beq_iff_eq] at this ⊢
          omega
    · by_cases e : j = n
      · subst e
        rw [hg1, partB, if_pos rfl]
        simp only [leafB, inB, Bool.and_eq_true, decide_eq_true_eq, beq_iff_eq]
        (repeat' apply And.intro) <;> first | trivial | omega
      · obtain rfl : j = n + 1 := by omega
        rw [hg2, partB, if_pos rfl]
        simp only [leafB, inB, Bool.and_eq_true, decide_eq_true_eq, beq_iff_eq]
        (repeat' apply And.intro) <;> first | trivial | omega
  · rw [beq_iff_eq, C _ (by omega)]
    by_cases hjn : 1 + j < n
    · rw [A _ hjn n (Nat.le_refl _)]
      have := ht.ones (1 + j) (by omega) (by omega)
      rw [← hL] at this
      exact this
    · rw [B _ (by omega) n (Nat.le_refl _), if_pos hk]
theorem one_mob {x : Int} (hx : 1 ≤ x ∧ x ≤ 9) : mobB [⟨-1, -1, 0, 0, x⟩] = true := by
  simp [mobB, partB, leafB, pt, onesB, inB]
  omega
/-- The last part is a weight. -/
theorem last_leaf {L : List Pt} (h : mobB L = true) : (pt L (L.length - 1)).l = -1 := by
  have ht := mobB_tr h
  have h1 := ht.n1
  by_cases e : (pt L (L.length - 1)).l = -1
  · exact e
  · have := ht.kids (k := L.length - 1) (by omega) e; omega
end Go.Proofs.Ytajdppfngnpklaa
