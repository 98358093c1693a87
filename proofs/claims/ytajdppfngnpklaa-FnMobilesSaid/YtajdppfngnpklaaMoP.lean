/- FnMobiles: the plain law. The least weights balance, have no common divisor, and every balanced weighting is a multiple of them. -/
import Derived.Test.YtajdppfngnpklaaLwG
import Derived.Test.YtajdppfngnpklaaTilt2
set_option linter.unusedVariables false
namespace Go.Proofs.Ytajdppfngnpklaa
theorem co_dvd {A B d x : Int} (h : Int.gcd A B = 1) (h1 : d ∣ A * x) (h2 : d ∣ B * x) : d ∣ x := by
  have := Int.dvd_coe_gcd h1 h2
  rw [Int.gcd_mul_right, h, Nat.one_mul] at this
  exact Int.dvd_natAbs.1 this
theorem cross (a b : Int) : a * (b / (Int.gcd a b : Int)) = b * (a / (Int.gcd a b : Int)) := by
  rw [← Int.mul_ediv_assoc a (Int.gcd_dvd_right a b), ← Int.mul_ediv_assoc b (Int.gcd_dvd_left a b), Int.mul_comm]
theorem co_share {A B c1 c2 : Int} (h : Int.gcd A B = 1) (hB : B ≠ 0) (e : A * c1 = B * c2) : ∃ c, c1 = B * c ∧ c2 = A * c := by
  obtain ⟨c, rfl⟩ := co_dvd h (d := B) (x := c1) ⟨c2, e⟩ ⟨c1, rfl⟩
  refine ⟨c, rfl, ?_⟩
  refine (Int.eq_of_mul_eq_mul_left hB ?_).symm
  rw [← e, Int.mul_left_comm]
theorem sb_trans {xs : List Pt} (h : Tr xs) : ∀ a, a < xs.length → ∀ m i, sbT xs a m = true → sbT xs m i = true → sbT xs a i = true := by
  refine h.induct (fun k hk hl m i h1 h2 => ?_) (fun k hk hl i1 i2 m i h1 h2 => ?_)
  · rw [sb_leaf h hk hl, beq_iff_eq] at h1
    subst h1; exact h2
  · rw [sb_node h hk hl] at h1
    simp only [Bool.or_eq_true, beq_iff_eq] at h1
    rcases h1 with rfl | h1 | h1
    · exact h2
    · exact sb_l h hk hl (i1 m i h1 h2)
    · exact sb_r h hk hl (i2 m i h1 h2)
theorem wtT_scale {xs : List Pt} (h : Tr xs) (u : Nat → Int) (c : Int) : ∀ k, k < xs.length → wtT xs (fun j => u j * c) k = wtT xs u k * c := by
  refine h.induct (fun k hk hl => ?_) (fun k hk hl i1 i2 => ?_)
  · rw [wtT_leaf h _ hk hl, wtT_leaf h _ hk hl]
  · rw [wtT_node h _ hk hl, wtT_node h _ hk hl, i1, i2, Int.add_mul]
theorem wt_of {xs : List Pt} (h : Tr xs) {u v : Nat → Int} {c : Int} {k : Nat} (hk : k < xs.length) (g : ∀ j, (pt xs j).l = -1 → sbT xs k j = true → v j = u j * c) : wtT xs v k = wtT xs u k * c :=
  (fo_congr h _ k hk g).trans (wtT_scale h u c k hk)
def Bal (xs : List Pt) (u : Nat → Int) (k : Nat) : Prop := ∀ j, j < xs.length → ¬ (pt xs j).l = -1 → sbT xs k j = true → cA xs u j = cB xs u j
theorem Bal.l {xs : List Pt} (h : Tr xs) {u : Nat → Int} {k : Nat} (hk : k < xs.length) (hl : ¬ (pt xs k).l = -1) (b : Bal xs u k) : Bal xs u (kL xs k) := fun j hj hn hs => b j hj hn (sb_l h hk hl hs)
theorem Bal.r {xs : List Pt} (h : Tr xs) {u : Nat → Int} {k : Nat} (hk : k < xs.length) (hl : ¬ (pt xs k).l = -1) (b : Bal xs u k) : Bal xs u (kR xs k) := fun j hj hn hs => b j hj hn (sb_r h hk hl hs)
theorem bal_scale {xs : List Pt} (h : Tr xs) {u v : Nat → Int} {c : Int} {k : Nat} (hk : k < xs.length) (b : Bal xs u k) (g : ∀ j, (pt xs j).l = -1 → sbT xs k j = true → v j = u j * c) : Bal xs v k := by
  intro j hj hn hs
  have hc := h.kids hj hn
  have e1 : wtT xs v (kL xs j) = wtT xs u (kL xs j) * c := wt_of h hc.1.2 fun i hi hsi => g i hi (sb_trans h k hk _ i hs (sb_l h hj hn hsi))
  have e2 : wtT xs v (kR xs j) = wtT xs u (kR xs j) * c := wt_of h hc.2.2 fun i hi hsi => g i hi (sb_trans h k hk _ i hs (sb_r h hj hn hsi))
  have := b j hj hn hs
  unfold cA cB at this ⊢
  rw [e1, e2, Int.mul_right_comm, this, Int.mul_right_comm]
/-- What a beam's least weights are made of. -/
theorem tT_split {xs : List Pt} (h : Tr xs) {k : Nat} (hk : k < xs.length) (hl : ¬ (pt xs k).l = -1) {v : Nat → Int} (e : tT xs k = some v) :
    ∃ v1 v2, tT xs (kL xs k) = some v1 ∧ tT xs (kR xs k) = some v2 ∧ (∀ j, sbT xs (kL xs k) j = true → v j = v1 j * sB xs v1 v2 k) ∧ (∀ j, sbT xs (kR xs k) j = true → v j = v2 j * sA xs v1 v2 k) ∧ Int.gcd (sA xs v1 v2 k) (sB xs v1 v2 k) = 1 ∧ 1 ≤ sB xs v1 v2 k := by
  rw [tT_node h hk hl] at e
  cases e1 : tT xs (kL xs k) with
  | none => rw [e1] at e; cases e2 : tT xs (kR xs k) <;> rw [e2] at e <;> cases e
  | some v1 =>
    cases e2 : tT xs (kR xs k) with
    | none => rw [e1, e2] at e; cases e
    | some v2 =>
      rw [e1, e2] at e
      unfold comb at e
      dsimp only at e
      split at e
      · injection e with e
        subst e
        have hq := quots h hk hl e1 e2
        refine ⟨v1, v2, rfl, rfl, fun j hs => if_pos hs, fun j hs => ?_, ?_, hq.2.2⟩
        · exact if_neg fun e' => sb_apart h hk hl e' hs
        · unfold sA sB
          exact Int.gcd_ediv_gcd_ediv_gcd (Int.gcd_pos_of_ne_zero_left _ (by have := hq.1.1; omega))
      · cases e
theorem tT_bal {xs : List Pt} (h : Tr xs) : ∀ k, k < xs.length → ∀ v, tT xs k = some v → Bal xs v k := by
  refine h.induct (fun k hk hl v e j hj hn hs => ?_) (fun k hk hl i1 i2 v e => ?_)
  · rw [sb_leaf h hk hl, beq_iff_eq] at hs
    subst hs; exact absurd hl hn
  · obtain ⟨v1, v2, e1, e2, g1, g2, hco, hB⟩ := tT_split h hk hl e
    have hc := h.kids hk hl
    have b1 := bal_scale h hc.1.2 (i1 v1 e1) (fun j _ hs => g1 j hs)
    have b2 := bal_scale h hc.2.2 (i2 v2 e2) (fun j _ hs => g2 j hs)
    intro j hj hn hs
    rw [sb_node h hk hl] at hs
    simp only [Bool.or_eq_true, beq_iff_eq] at hs
    rcases hs with rfl | hs | hs
    · have w1 : wtT xs v (kL xs k) = wtT xs v1 (kL xs k) * sB xs v1 v2 k := wt_of h hc.1.2 fun i _ hsi => g1 i hsi
      have w2 : wtT xs v (kR xs k) = wtT xs v2 (kR xs k) * sA xs v1 v2 k := wt_of h hc.2.2 fun i _ hsi => g2 i hsi
      have x1 : cA xs v k = cA xs v1 k * sB xs v1 v2 k := by unfold cA; rw [w1, Int.mul_right_comm]
      have x2 : cB xs v k = cB xs v2 k * sA xs v1 v2 k := by unfold cB; rw [w2, Int.mul_right_comm]
      rw [x1, x2]
      exact cross _ _
    · exact b1 j hj hn hs
    · exact b2 j hj hn hs
theorem tT_prim {xs : List Pt} (h : Tr xs) : ∀ k, k < xs.length → ∀ v, tT xs k = some v → ∀ d x : Int, (∀ j, j < xs.length → (pt xs j).l = -1 → sbT xs k j = true → d ∣ v j * x) → d ∣ x := by
  refine h.induct (fun k hk hl v e d x g => ?_) (fun k hk hl i1 i2 v e d x g => ?_)
  · rw [tT_leaf h hk hl] at e
    injection e with e
    subst e
    have := g k hk hl (sb_self h hk)
    rwa [Int.one_mul] at this
  · obtain ⟨v1, v2, e1, e2, g1, g2, hco, hB⟩ := tT_split h hk hl e
    refine co_dvd hco (i2 v2 e2 d _ fun j hj hjl hs => ?_) (i1 v1 e1 d _ fun j hj hjl hs => ?_)
    · have := g j hj hjl (sb_r h hk hl hs)
      rwa [g2 j hs, Int.mul_assoc] at this
    · have := g j hj hjl (sb_l h hk hl hs)
      rwa [g1 j hs, Int.mul_assoc] at this
theorem tT_mult {xs : List Pt} (h : Tr xs) : ∀ k, k < xs.length → ∀ v, tT xs k = some v → ∀ u, Bal xs u k → ∃ c, ∀ j, (pt xs j).l = -1 → sbT xs k j = true → u j = v j * c := by
  refine h.induct (fun k hk hl v e u b => ?_) (fun k hk hl i1 i2 v e u b => ?_)
  · rw [tT_leaf h hk hl] at e
    injection e with e
    subst e
    refine ⟨u k, fun j hj hs => ?_⟩
    rw [sb_leaf h hk hl, beq_iff_eq] at hs
    subst hs
    exact (Int.one_mul _).symm
  · obtain ⟨v1, v2, e1, e2, g1, g2, hco, hB⟩ := tT_split h hk hl e
    have hc := h.kids hk hl
    obtain ⟨c1, h1⟩ := i1 v1 e1 u (b.l h hk hl)
    obtain ⟨c2, h2⟩ := i2 v2 e2 u (b.r h hk hl)
    have w1 : wtT xs u (kL xs k) = wtT xs v1 (kL xs k) * c1 := wt_of h hc.1.2 h1
    have w2 : wtT xs u (kR xs k) = wtT xs v2 (kR xs k) * c2 := wt_of h hc.2.2 h2
    have x1 : cA xs u k = cA xs v1 k * c1 := by unfold cA; rw [w1, Int.mul_right_comm]
    have x2 : cB xs u k = cB xs v2 k * c2 := by unfold cB; rw [w2, Int.mul_right_comm]
    have hb := b k hk hl (sb_self h hk)
    rw [x1, x2] at hb
    have hq := quots h hk hl e1 e2
    have hgp : 0 < Int.gcd (cA xs v1 k) (cB xs v2 k) := Int.gcd_pos_of_ne_zero_left _ (by have := hq.1.1; omega)
    have ha : cA xs v1 k = (Int.gcd (cA xs v1 k) (cB xs v2 k) : Int) * sA xs v1 v2 k := (Int.mul_ediv_cancel' (Int.gcd_dvd_left _ _)).symm
    have hbb : cB xs v2 k = (Int.gcd (cA xs v1 k) (cB xs v2 k) : Int) * sB xs v1 v2 k := (Int.mul_ediv_cancel' (Int.gcd_dvd_right _ _)).symm
    have hb2 : sA xs v1 v2 k * c1 = sB xs v1 v2 k * c2 := by
      refine Int.eq_of_mul_eq_mul_left (a := (Int.gcd (cA xs v1 k) (cB xs v2 k) : Int)) (by omega) ?_
      rw [← Int.mul_assoc, ← Int.mul_assoc, ← ha, ← hbb]
      exact hb
    obtain ⟨c, rfl, rfl⟩ := co_share hco (by omega) hb2
    refine ⟨c, fun j hj hs => ?_⟩
    rw [sb_node h hk hl] at hs
    simp only [Bool.or_eq_true, beq_iff_eq] at hs
    rcases hs with rfl | hs | hs
    · exact absurd hj hl
    · rw [h1 j hj hs, g1 j hs, Int.mul_assoc]
    · rw [h2 j hj hs, g2 j hs, Int.mul_assoc]
/-! ### Counting -/
def cnB (xs : List Pt) (g : Nat → Bool) : Nat → Nat
  | 0 => 0
  | m + 1 => cnB xs g m + if g m then 1 else 0
theorem cnB_congr {xs : List Pt} {g g' : Nat → Bool} : ∀ m, (∀ j, j < m → g j = g' j) → cnB xs g m = cnB xs g' m := by
  intro m
  induction m with
  | zero => intro _; rfl
  | succ m ih => intro h; rw [cnB, cnB, ih fun j hj => h j (by omega), h m (by omega)]
theorem cnB_add {xs : List Pt} {a b c : Nat → Bool} : ∀ m, (∀ j, j < m → a j = (b j || c j) ∧ ¬ (b j = true ∧ c j = true)) → cnB xs a m = cnB xs b m + cnB xs c m := by
  intro m
  induction m with
  | zero => intro _; rfl
  | succ m ih =>
    intro h
    rw [cnB, cnB, cnB, ih fun j hj => h j (by omega), (h m (by omega)).1]
    have := (h m (by omega)).2
    cases hb : b m <;> cases hc : c m <;> simp_all <;> omega
theorem cnB_one {xs : List Pt} (k : Nat) : ∀ m, cnB xs (fun j => k == j) m = if k < m then 1 else 0 := by
  intro m
  induction m with
  | zero => rfl
  | succ m ih =>
    rw [cnB, ih]
    by_cases h : k = m
    · subst h; simp
    · have : (k == m) = false := by rw [beq_eq_false_iff_ne]; exact h
      rw [this]
      by_cases h2 : k < m
      · have a : k < m + 1 := by omega
        simp [h2, a]
      · have a : ¬ k < m + 1 := by omega
        simp [h2, a]
theorem cnB_none {xs : List Pt} {g : Nat → Bool} : ∀ m, (∀ j, j < m → g j = false) → cnB xs g m = 0 := by
  intro m
  induction m with
  | zero => intro _; rfl
  | succ m ih => intro h; rw [cnB, ih fun j hj => h j (by omega), h m (by omega)]; rfl
def lfB (xs : List Pt) (k j : Nat) : Bool := (pt xs j).l == -1 && sbT xs k j
def bmB (xs : List Pt) (k j : Nat) : Bool := (pt xs j).l != -1 && sbT xs k j
theorem lf_node {xs : List Pt} (h : Tr xs) {k : Nat} (hk : k < xs.length) (hl : ¬ (pt xs k).l = -1) : cnB xs (lfB xs k) xs.length = cnB xs (lfB xs (kL xs k)) xs.length + cnB xs (lfB xs (kR xs k)) xs.length := by
  refine cnB_add _ fun j hj => ⟨?_, fun e => ?_⟩
  · simp only [lfB, sb_node h hk hl]
    by_cases hjl : (pt xs j).l = -1
    · have hkj : (k == j) = false := by rw [beq_eq_false_iff_ne]; intro e; subst e; exact hl hjl
      rw [hkj]; cases (pt xs j).l == -1 <;> simp
    · have : ((pt xs j).l == -1) = false := by rw [beq_eq_false_iff_ne]; exact hjl
      rw [this]; simp
  · simp only [lfB, Bool.and_eq_true] at e
    exact sb_apart h hk hl e.1.2 e.2.2
theorem bm_node {xs : List Pt} (h : Tr xs) {k : Nat} (hk : k < xs.length) (hl : ¬ (pt xs k).l = -1) : cnB xs (bmB xs k) xs.length = 1 + (cnB xs (bmB xs (kL xs k)) xs.length + cnB xs (bmB xs (kR xs k)) xs.length) := by
  have hc := h.kids hk hl
  have e1 : cnB xs (bmB xs k) xs.length = cnB xs (fun j => k == j) xs.length + cnB xs (fun j => bmB xs (kL xs k) j || bmB xs (kR xs k) j) xs.length := by
    refine cnB_add _ fun j hj => ⟨?_, fun e => ?_⟩
    · simp only [bmB, sb_node h hk hl]
      by_cases hkj : k = j
      · subst hkj
        have : ((pt xs k).l != -1) = true := by rw [bne_iff_ne]; exact hl
        rw [this]; simp
      · have : (k == j) = false := by rw [beq_eq_false_iff_ne]; exact hkj
        rw [this]; cases (pt xs j).l != -1 <;> simp
    · simp only [bmB, Bool.and_eq_true, Bool.or_eq_true, beq_iff_eq] at e
      obtain ⟨rfl, e | e⟩ := e
      · have := (sb_ge h _ hc.1.2 _ e.2).1; omega
      · have := (sb_ge h _ hc.2.2 _ e.2).1; omega
  have e2 : cnB xs (fun j => bmB xs (kL xs k) j || bmB xs (kR xs k) j) xs.length = cnB xs (bmB xs (kL xs k)) xs.length + cnB xs (bmB xs (kR xs k)) xs.length := by
    refine cnB_add _ fun j hj => ⟨rfl, fun e => ?_⟩
    simp only [bmB, Bool.and_eq_true] at e
    exact sb_apart h hk hl e.1.2 e.2.2
  rw [e1, e2, cnB_one, if_pos hk]
theorem lf_bm {xs : List Pt} (h : Tr xs) : ∀ k, k < xs.length → cnB xs (lfB xs k) xs.length = cnB xs (bmB xs k) xs.length + 1 := by
  refine h.induct (fun k hk hl => ?_) (fun k hk hl i1 i2 => ?_)
  · have e1 : cnB xs (lfB xs k) xs.length = 1 := by
      rw [cnB_congr (g' := fun j => k == j) _ fun j hj => ?_, cnB_one, if_pos hk]
      simp only [lfB, sb_leaf h hk hl]
      by_cases e : k = j
      · subst e; simp [hl]
      · have : (k == j) = false := by rw [beq_eq_false_iff_ne]; exact e
        rw [this]; simp
    have e2 : cnB xs (bmB xs k) xs.length = 0 := cnB_none _ fun j hj => by
      simp only [bmB, sb_leaf h hk hl]
      by_cases e : k = j
      · subst e; simp [hl]
      · have : (k == j) = false := by rw [beq_eq_false_iff_ne]; exact e
        rw [this]; simp
    omega
  · rw [lf_node h hk hl, bm_node h hk hl]; omega
theorem lf_wt {xs : List Pt} (h : Tr xs) {u : Nat → Int} : ∀ k, k < xs.length → (∀ j, j < xs.length → (pt xs j).l = -1 → sbT xs k j = true → 1 ≤ u j) → (cnB xs (lfB xs k) xs.length : Int) ≤ wtT xs u k := by
  refine h.induct (fun k hk hl g => ?_) (fun k hk hl i1 i2 g => ?_)
  · rw [wtT_leaf h _ hk hl]
    have e1 : cnB xs (lfB xs k) xs.length = 1 := by
      rw [cnB_congr (g' := fun j => k == j) _ fun j hj => ?_, cnB_one, if_pos hk]
      simp only [lfB, sb_leaf h hk hl]
      by_cases e : k = j
      · subst e; simp [hl]
      · have : (k == j) = false := by rw [beq_eq_false_iff_ne]; exact e
        rw [this]; simp
    have := g k hk hl (sb_self h hk)
    omega
  · rw [lf_node h hk hl, wtT_node h _ hk hl]
    have a := i1 fun j hj hjl hs => g j hj hjl (sb_l h hk hl hs)
    have b := i2 fun j hj hjl hs => g j hj hjl (sb_r h hk hl hs)
    omega
/-! ### In the words of the contracts -/
theorem lfK_cn {xs : List Pt} (h : Tr xs) : ∀ m, m ≤ xs.length → lfK xs m = (cnB xs (lfB xs 0) m : Int) := by
  intro m
  induction m with
  | zero => intro _; rfl
  | succ m ih =>
    intro hm
    rw [lfK, cnB, ih (by omega)]
    have hs := sb_root h m (by omega)
    unfold lfB
    rw [hs]
    by_cases e : (pt xs m).l = -1
    · simp [e]
    · simp [e]
theorem bmK_cn {xs : List Pt} (h : Tr xs) : ∀ m, m ≤ xs.length → (m : Int) = (cnB xs (lfB xs 0) m : Int) + (cnB xs (bmB xs 0) m : Int) := by
  intro m
  induction m with
  | zero => intro _; rfl
  | succ m ih =>
    intro hm
    have := ih (by omega)
    have hs := sb_root h m (by omega)
    rw [cnB, cnB]
    unfold lfB bmB at this ⊢
    rw [hs]
    by_cases e : (pt xs m).l = -1
    · simp [e]; omega
    · simp [e]; omega
/-- A weight more than beams. -/
theorem cp_law {xs : List Pt} (hm : mobB xs = true) : cpA xs = cpB xs + 1 ∧ cpA xs + cpB xs = xs.length := by
  have h := mobB_tr hm
  have h1 := h.n1
  rw [cpA, cpB, if_pos hm, if_pos hm, lfK_cn h _ (Nat.le_refl _)]
  have a := bmK_cn h _ (Nat.le_refl _)
  have b := lf_bm h 0 (by omega)
  omega
theorem tilt_none {xs : List Pt} (h : ∀ k, k < xs.length → tiltB xs k = false) : ∀ r, r ≤ xs.length → ftR xs xs.length r = -1 := by
  intro r
  induction r with
  | zero => intro _; rfl
  | succ r ih => intro hr; rw [ftR, h _ (by omega), if_neg (by simp), ih (by omega)]
theorem tilt_all {xs : List Pt} : ∀ r, r ≤ xs.length → ftR xs xs.length r = -1 → ∀ k, xs.length - r ≤ k → k < xs.length → tiltB xs k = false := by
  intro r
  induction r with
  | zero => intro _ _ k h1 h2; omega
  | succ r ih =>
    intro hr e k h1 h2
    rw [ftR] at e
    by_cases c : tiltB xs (xs.length - (r + 1)) = true
    · rw [if_pos c] at e; omega
    · rw [if_neg c] at e
      by_cases d : k = xs.length - (r + 1)
      · rw [d]; simpa using c
      · exact ih (by omega) e k (by omega) h2
theorem tilt_put {xs : List Pt} (h : Tr xs) (u : Nat → Int) {k : Nat} (hk : k < xs.length) : tiltB (put xs u) k = false ↔ (¬ (pt xs k).l = -1 → cA xs u k = cB xs u k) := by
  have e1 : (pt (put xs u) k).l.toNat = kL xs k := by rw [put_l]; rfl
  have e2 : (pt (put xs u) k).r.toNat = kR xs k := by rw [put_r]; rfl
  rw [tiltB, e1, e2, wtM_put, wtM_put, put_l, put_p, put_q]
  show ((pt xs k).l != -1 && (cA xs u k != cB xs u k)) = false ↔ _
  by_cases hl : (pt xs k).l = -1
  · simp [hl]
  · simp [hl]
/-- The weights of a mobile as they stand. -/
def ownW (xs : List Pt) : Nat → Int := fun j => (pt xs j).x
theorem bal_own {xs : List Pt} (h : balB xs = true) : mobB xs = true ∧ Bal xs (ownW xs) 0 := by
  simp only [balB, Bool.and_eq_true, beq_iff_eq] at h
  obtain ⟨hm, h⟩ := h
  refine ⟨hm, fun j hj hn _ => ?_⟩
  rw [ftM, if_pos hm] at h
  have := tilt_all xs.length (Nat.le_refl _) h j (by omega) hj
  have e := put_self xs
  rw [← e] at this
  exact (tilt_put (mobB_tr hm) _ hj).1 this hn
theorem wo_zero {xs : List Pt} (hm : mobB xs = true) : woM xs 0 = wtM xs 16 0 := by
  have := mob_n1 hm
  rw [woM, hm, inB_true.2 (by omega)]; rfl
def gg (xs : List Pt) : Nat → Nat
  | 0 => 0
  | k + 1 => Nat.gcd (gg xs k) (pt xs k).x.toNat
theorem gg_dvd {xs : List Pt} : ∀ m j, j < m → gg xs m ∣ (pt xs j).x.toNat := by
  intro m
  induction m with
  | zero => intro j hj; omega
  | succ m ih =>
    intro j hj
    rw [gg]
    by_cases e : j = m
    · rw [e]; exact Nat.gcd_dvd_right _ _
    · exact Nat.dvd_trans (Nat.gcd_dvd_left _ _) (ih j (by omega))
/-- P14. -/
theorem mobile_law {xs zs : List Pt} (hm : mobB xs = true) (e : leO 16 xs 0 = some zs) :
    mobB zs = true ∧ balB zs = true ∧ gg zs zs.length = 1 ∧ Like xs zs ∧ cpA xs ≤ woM zs 0 ∧ 1 ≤ woM zs 0 ∧ (balB xs = true → woM zs 0 ∣ woM xs 0) := by
  have h := mobB_tr hm
  have h1 := h.n1
  have h15 := h.n15
  have hz := leO_mob hm (by omega) (by omega) e
  have hlen := hz.2.len
  have hp := leO_put h 16 0 (by omega) (by omega) (ownW xs)
  rw [show put xs (ownW xs) = xs from put_self xs, e] at hp
  cases e1 : tT xs 0 with
  | none => rw [e1] at hp; cases hp
  | some v =>
    rw [e1] at hp
    injection hp with hp
    obtain ⟨u, hu⟩ : ∃ u : Nat → Int, u = fun j => if sbT xs 0 j = true then v j else ownW xs j := ⟨_, rfl⟩
    dsimp only at hp
    rw [← hu] at hp
    have huv : ∀ j, (pt xs j).l = -1 → sbT xs 0 j = true → u j = v j := fun j _ hs => by rw [hu]; exact if_pos hs
    have hw : ∀ k, k < xs.length → wtM zs 16 k = wtT xs u k := fun k _ => by rw [hp, wtM_put]; rfl
    have hbal : Bal xs u 0 := bal_scale h (by omega) (tT_bal h 0 (by omega) v e1) (c := 1) (fun j hj hs => by rw [Int.mul_one]; exact huv j hj hs)
    have hpos : ∀ j, j < xs.length → (pt xs j).l = -1 → sbT xs 0 j = true → 1 ≤ u j := fun j hj hjl hs => by rw [huv j hjl hs]; exact (tT_bd h 0 (by omega) v e1 j hj hjl hs).1
    have hbz : balB zs = true := by
      rw [balB, hz.1, ftM, if_pos hz.1, tilt_none (fun k hk => ?_) _ (Nat.le_refl _)]
      · rfl
      · rw [hp]
        rw [hlen] at hk
        exact (tilt_put h u hk).2 fun hn => hbal k hk hn (sb_root h k hk)
    have hwz : woM zs 0 = wtT xs u 0 := by rw [wo_zero hz.1, hw 0 (by omega)]
    refine ⟨hz.1, hbz, ?_, hz.2, ?_, ?_, fun hb => ?_⟩
    · have hd : ((gg zs zs.length : Nat) : Int) ∣ 1 := tT_prim h 0 (by omega) v e1 _ 1 fun j hj hjl hs => by
        rw [Int.mul_one, ← huv j hjl hs]
        have h2 := gg_dvd (xs := zs) zs.length j (by omega)
        have h3 : (pt zs j).x = u j := by rw [hp, pt_put, if_pos hjl]
        have h4 := hpos j hj hjl hs
        have h5 : (((pt zs j).x.toNat : Nat) : Int) = u j := by rw [h3]; omega
        rw [← h5]
        exact Int.natCast_dvd_natCast.2 h2
      have := Int.natCast_dvd_natCast.1 (show ((gg zs zs.length : Nat) : Int) ∣ ((1 : Nat) : Int) from hd)
      exact Nat.dvd_one.1 this
    · rw [hwz, cpA, if_pos hm, lfK_cn h _ (Nat.le_refl _)]
      exact lf_wt h 0 (by omega) hpos
    · rw [hwz]; exact wtT_pos h 0 (by omega) hpos
    · obtain ⟨_, hb⟩ := bal_own hb
      obtain ⟨c, hc⟩ := tT_mult h 0 (by omega) v e1 (ownW xs) hb
      have e2 : wtT xs (ownW xs) 0 = wtT xs u 0 * c := wt_of h (by omega) fun j hj hs => by rw [huv j hj hs]; exact hc j hj hs
      have e3 : woM xs 0 = wtT xs (ownW xs) 0 := by
        rw [wo_zero hm]
        have := wtM_put xs (ownW xs) 16 0
        rw [show put xs (ownW xs) = xs from put_self xs] at this
        rw [this]; rfl
      rw [hwz, e3, e2]
      exact ⟨c, rfl⟩
end Go.Proofs.Ytajdppfngnpklaa
