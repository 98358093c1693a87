/- LeastWeights: the program's way and the reference's give the same. -/
import Derived.Test.YtajdppfngnpklaaLwQ
set_option linter.unusedVariables false
namespace Go.Proofs.Ytajdppfngnpklaa
theorem fA_eq {xs : List Pt} (h : Tr xs) {k : Nat} (hk : k < xs.length) (hl : ¬ (pt xs k).l = -1) (u : Nat → Int) {w v1 : Nat → Int} (g1 : ∀ j, (pt xs j).l = -1 → sbT xs (kL xs k) j = true → w j = v1 j) :
    fA (put xs u) (put xs w) k = cA xs v1 k := by
  have hc := h.kids hk hl
  unfold fA cA
  rw [put_kL, put_p, wtM_put]
  exact congrArg (· * (pt xs k).p) (fo_congr h _ _ hc.1.2 g1)
theorem fB_eq {xs : List Pt} (h : Tr xs) {k : Nat} (hk : k < xs.length) (hl : ¬ (pt xs k).l = -1) (u : Nat → Int) {w v2 : Nat → Int} (g2 : ∀ j, (pt xs j).l = -1 → sbT xs (kR xs k) j = true → w j = v2 j) :
    fB (put xs u) (put xs w) k = cB xs v2 k := by
  have hc := h.kids hk hl
  unfold fB cB
  rw [put_kR, put_q, wtM_put]
  exact congrArg (· * (pt xs k).q) (fo_congr h _ _ hc.2.2 g2)
theorem quots {xs : List Pt} (h : Tr xs) {k : Nat} (hk : k < xs.length) (hl : ¬ (pt xs k).l = -1) {v1 v2 : Nat → Int} (e1 : tT xs (kL xs k) = some v1) (e2 : tT xs (kR xs k) = some v2) :
    (1 ≤ cA xs v1 k ∧ 1 ≤ cB xs v2 k) ∧ 1 ≤ sA xs v1 v2 k ∧ 1 ≤ sB xs v1 v2 k := by
  have hc := h.kids hk hl
  have p1 := wtT_pos h _ hc.1.2 fun j a b c => (tT_bd h _ hc.1.2 v1 e1 j a b c).1
  have p2 := wtT_pos h _ hc.2.2 fun j a b c => (tT_bd h _ hc.2.2 v2 e2 j a b c).1
  have ha := h.arm k hk hl
  have q1 : 1 ≤ cA xs v1 k := by
    unfold cA
    have := Int.mul_le_mul p1 ha.2.2.1.1 (by omega) (by omega)
    omega
  have q2 : 1 ≤ cB xs v2 k := by
    unfold cB
    have := Int.mul_le_mul p2 ha.2.2.2.1 (by omega) (by omega)
    omega
  exact ⟨⟨q1, q2⟩, quot_pos q1, by unfold sB; rw [Int.gcd_comm]; exact quot_pos q2⟩
theorem pair_step {xs : List Pt} (h : Tr xs) {k : Nat} (hk : k < xs.length) (hl : ¬ (pt xs k).l = -1) {w v1 v2 : Nat → Int} (e1 : tT xs (kL xs k) = some v1) (e2 : tT xs (kR xs k) = some v2)
    (g1 : ∀ j, (pt xs j).l = -1 → sbT xs (kL xs k) j = true → w j = v1 j) (g2 : ∀ j, (pt xs j).l = -1 → sbT xs (kR xs k) j = true → w j = v2 j) :
    prO (put xs w) (kL xs k) (kR xs k) (sB xs v1 v2 k) (sA xs v1 v2 k) = (comb xs k (some v1) (some v2)).map fun v => put xs (fun j => if sbT xs k j then v j else w j) := by
  have hc := h.kids hk hl
  have h15 := h.n15
  obtain ⟨⟨q1, q2⟩, r1, r2⟩ := quots h hk hl e1 e2
  rw [prO, scO_put h _ (by omega) 16 _ hc.1.2 (by omega)]
  have m1 : moT xs w (kL xs k) = moT xs v1 (kL xs k) := fo_congr h _ _ hc.1.2 g1
  have m2 : moT xs (scW xs w (kL xs k) (sB xs v1 v2 k)) (kR xs k) = moT xs v2 (kR xs k) := fo_congr h _ _ hc.2.2 fun j hj hs => by
    have : ¬ sbT xs (kL xs k) j = true := fun e => sb_apart h hk hl e hs
    simp only [scW, if_neg this]
    exact g2 j hj hs
  rw [m1]
  unfold comb
  dsimp only
  by_cases c1 : moT xs v1 (kL xs k) * sB xs v1 v2 k ≤ 1000
  · rw [if_pos c1]
    dsimp only
    rw [scO_put h _ (by omega) 16 _ hc.2.2 (by omega), m2]
    by_cases c2 : moT xs v2 (kR xs k) * sA xs v1 v2 k ≤ 1000
    · rw [if_pos c2, if_pos ⟨c1, c2⟩]
      refine congrArg some (put_congr fun j hj hjl => ?_)
      have hkj : (k == j) = false := by
        rw [beq_eq_false_iff_ne]; intro e; subst e; exact hl hjl
      simp only [scW, sb_node h hk hl, hkj, Bool.false_or]
      cases s1 : sbT xs (kL xs k) j with
      | true =>
        have s2 : sbT xs (kR xs k) j = false := by
          rw [Bool.eq_false_iff]; exact fun e => sb_apart h hk hl s1 e
        simp [s2, g1 j hjl s1]
      | false =>
        cases s2 : sbT xs (kR xs k) j with
        | true => simp [g2 j hjl s2]
        | false => simp
    · rw [if_neg c2, if_neg (fun e => c2 e.2)]; rfl
  · rw [if_neg c1, if_neg (fun e => c1 e.1)]; rfl
theorem leO_put {xs : List Pt} (h : Tr xs) : ∀ f k, k < xs.length → xs.length - k ≤ f → ∀ u, leO f (put xs u) k = (tT xs k).map fun v => put xs (fun j => if sbT xs k j then v j else u j) := by
  intro f
  induction f with
  | zero => intro k hk hf; omega
  | succ f ih =>
    intro k hk hf u
    rw [leO, put_l]
    by_cases hl : (pt xs k).l = -1
    · rw [if_pos hl, sx_put u hk hl, tT_leaf h hk hl]
      refine congrArg some (put_congr fun j hj hjl => ?_)
      simp only [sb_leaf h hk hl, beq_iff_eq]
    · have hc := h.kids hk hl
      rw [if_neg hl, put_kL, put_kR, ih _ hc.1.2 (by omega), tT_node h hk hl]
      cases e1 : tT xs (kL xs k) with
      | none => rfl
      | some v1 =>
        dsimp only [Option.map]
        rw [ih _ hc.2.2 (by omega)]
        cases e2 : tT xs (kR xs k) with
        | none => rfl
        | some v2 =>
          dsimp only [Option.map]
          have g1 : ∀ j, (pt xs j).l = -1 → sbT xs (kL xs k) j = true → (fun j => if sbT xs (kR xs k) j = true then v2 j else if sbT xs (kL xs k) j = true then v1 j else u j) j = v1 j := fun j hj hs => by
            have : ¬ sbT xs (kR xs k) j = true := fun e => sb_apart h hk hl hs e
            simp only [if_neg this, if_pos hs]
          have g2 : ∀ j, (pt xs j).l = -1 → sbT xs (kR xs k) j = true → (fun j => if sbT xs (kR xs k) j = true then v2 j else if sbT xs (kL xs k) j = true then v1 j else u j) j = v2 j := fun j hj hs => by
            simp only [if_pos hs]
          rw [fA_eq h hk hl u g1, fB_eq h hk hl u g2]
          have := pair_step h hk hl e1 e2 g1 g2
          unfold sA sB at this
          rw [this]
          cases comb xs k (some v1) (some v2) with
          | none => rfl
          | some v =>
            refine congrArg some (put_congr fun j hj hjl => ?_)
            have hkj : (k == j) = false := by
              rw [beq_eq_false_iff_ne]; intro e; subst e; exact hl hjl
            simp only [sb_node h hk hl, hkj, Bool.false_or]
            cases sbT xs (kL xs k) j <;> cases sbT xs (kR xs k) j <;> simp
def top (xs : List Pt) (k m : Nat) : Prop := k ≤ m ∧ m < xs.length ∧ ∀ a, ch xs a m → a < k
def Inv (xs : List Pt) (k : Nat) (w : Nat → Int) : Prop := ∀ m, top xs k m → ∃ u, tT xs m = some u ∧ ∀ j, (pt xs j).l = -1 → sbT xs m j = true → w j = u j
theorem none_up {xs : List Pt} (h : Tr xs) : ∀ q, q < xs.length → tT xs q = none → tT xs 0 = none := by
  intro q
  induction q using Nat.strongRecOn with
  | _ q ih =>
    intro hq e
    by_cases h0 : q = 0
    · subst h0; exact e
    · obtain ⟨a, ca⟩ := h.par (by omega) hq
      have hlt := ch_lt h ca
      refine ih a hlt.1 ca.1 ?_
      rw [tT_node h ca.1 ca.2.1]
      rcases ca.2.2 with e1 | e1
      · rw [e1, e]; rfl
      · rw [e1, e]
        cases tT xs (kL xs a) <;> rfl
theorem moM_eq {xs : List Pt} (h : Tr xs) {m : Nat} (hm : m < xs.length) {w v : Nat → Int} (g : ∀ j, (pt xs j).l = -1 → sbT xs m j = true → w j = v j) : moM (put xs w) 16 m = moT xs v m := by
  rw [moM_put]; exact fo_congr h _ _ hm g
theorem stO_put {xs : List Pt} (h : Tr xs) {q : Nat} (hq : q < xs.length) {w : Nat → Int} (hi : Inv xs (q + 1) w) :
    (stO (put xs w) q = none ∧ tT xs q = none) ∨ ∃ w', stO (put xs w) q = some (put xs w') ∧ Inv xs q w' := by
  by_cases hl : (pt xs q).l = -1
  · refine .inr ⟨fun j => if q = j then 1 else w j, by rw [stO, put_l, if_pos hl, sx_put w hq hl], fun m hm => ?_⟩
    by_cases e : m = q
    · subst e
      refine ⟨_, tT_leaf h hq hl, fun j hj hs => ?_⟩
      rw [sb_leaf h hq hl, beq_iff_eq] at hs
      exact if_pos hs
    · obtain ⟨u, hu, hw⟩ := hi m ⟨by have := hm.1; omega, hm.2.1, fun a c => by have := hm.2.2 a c; omega⟩
      refine ⟨u, hu, fun j hj hs => ?_⟩
      have := sb_ge h m hm.2.1 j hs
      have := hm.1
      show (if q = j then 1 else w j) = u j
      rw [if_neg (by omega)]
      exact hw j hj hs
  · have hc := h.kids hq hl
    obtain ⟨v1, e1, g1⟩ := hi (kL xs q) ⟨by omega, hc.1.2, fun a c => by rw [h.uniq c ⟨hq, hl, .inl rfl⟩]; omega⟩
    obtain ⟨v2, e2, g2⟩ := hi (kR xs q) ⟨by omega, hc.2.2, fun a c => by rw [h.uniq c ⟨hq, hl, .inr rfl⟩]; omega⟩
    have hp := pair_step h hq hl e1 e2 g1 g2
    have hT := tT_node h hq hl
    rw [e1, e2] at hT
    rw [stO, put_l, if_neg hl, put_kL, put_kR, fA_eq h hq hl w g1, fB_eq h hq hl w g2, moM_eq h hc.1.2 g1, moM_eq h hc.2.2 g2]
    have hp' := hp
    unfold sA sB at hp'
    by_cases hcond : moT xs v1 (kL xs q) * sB xs v1 v2 q ≤ 1000 ∧ moT xs v2 (kR xs q) * sA xs v1 v2 q ≤ 1000
    · have hcomb : comb xs q (some v1) (some v2) = some (fun j => if sbT xs (kL xs q) j then v1 j * sB xs v1 v2 q else v2 j * sA xs v1 v2 q) := if_pos hcond
      have hcond' := hcond
      unfold sA sB at hcond'
      rw [if_pos hcond', hp']
      rw [hcomb] at hT ⊢
      refine .inr ⟨_, rfl, fun m hm => ?_⟩
      by_cases e : m = q
      · subst e
        exact ⟨_, hT, fun j hj hs => if_pos hs⟩
      · have hmq := hm.1
        obtain ⟨u, hu, hw⟩ := hi m ⟨by omega, hm.2.1, fun a c => by have := hm.2.2 a c; omega⟩
        refine ⟨u, hu, fun j hj hs => ?_⟩
        have : ¬ sbT xs q j = true := by
          intro hs'
          rcases sb_nest h hm.2.1 hq j hs hs' with a | a
          · have := sb_ge h m hm.2.1 q a; omega
          · obtain ⟨p, cp, sp⟩ := sb_par h q hq m a e
            have := hm.2.2 p cp
            have := sb_ge h q hq p sp
            omega
        exact (if_neg this).trans (hw j hj hs)
    · have hcond' := hcond
      unfold sA sB at hcond'
      rw [if_neg hcond']
      exact .inl ⟨rfl, hT.trans (if_neg hcond)⟩
theorem loO_put {xs : List Pt} (h : Tr xs) (u : Nat → Int) : ∀ m, m ≤ xs.length → (loO (put xs u) m = none ∧ tT xs 0 = none) ∨ ∃ w, loO (put xs u) m = some (put xs w) ∧ Inv xs (xs.length - m) w := by
  intro m
  induction m with
  | zero =>
    intro hm
    exact .inr ⟨u, rfl, fun m hm => by have := hm.1; have := hm.2.1; omega⟩
  | succ m ih =>
    intro hm
    rw [loO, put_length]
    rcases ih (by omega) with ⟨a, b⟩ | ⟨w, a, b⟩
    · rw [a]; exact .inl ⟨rfl, b⟩
    · rw [a]
      dsimp only
      have hq : xs.length - 1 - m + 1 = xs.length - m := by omega
      rcases stO_put h (q := xs.length - 1 - m) (by omega) (by rw [hq]; exact b) with ⟨c, d⟩ | ⟨w', c, d⟩
      · exact .inl ⟨c, none_up h _ (by omega) d⟩
      · exact .inr ⟨w', c, by rw [show xs.length - (m + 1) = xs.length - 1 - m by omega]; exact d⟩
/-- The root's way and the loop's. -/
theorem least_same {xs : List Pt} (h : Tr xs) : leO 16 xs 0 = loO xs xs.length := by
  have h1 := h.n1
  have h15 := h.n15
  have e := put_self xs
  have a := leO_put h 16 0 (by omega) (by omega) (fun j => (pt xs j).x)
  rw [e] at a
  rw [a]
  rcases loO_put h (fun j => (pt xs j).x) xs.length (Nat.le_refl _) with ⟨b, c⟩ | ⟨w, b, c⟩
  · rw [e] at b
    rw [b, c]; rfl
  · rw [e] at b
    rw [b]
    obtain ⟨u, hu, hw⟩ := c 0 ⟨by omega, by omega, fun a ca => by have := (ch_lt h ca).1; omega⟩
    rw [hu]
    refine congrArg some (put_congr fun j hj hjl => ?_)
    have hs := sb_root h j hj
    rw [hw j hjl hs]
    exact if_pos hs
end Go.Proofs.Ytajdppfngnpklaa
