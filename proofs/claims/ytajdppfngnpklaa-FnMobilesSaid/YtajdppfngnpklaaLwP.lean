/- LeastWeights: the plain words; from the root down and from the last part down: the same weights. -/
import Derived.Test.YtajdppfngnpklaaPartM
set_option linter.unusedVariables false
namespace Go.Proofs.Ytajdppfngnpklaa
def kL (xs : List Pt) (k : Nat) : Nat := (pt xs k).l.toNat
def kR (xs : List Pt) (k : Nat) : Nat := (pt xs k).r.toNat
structure Tr (xs : List Pt) : Prop where
  n1 : 1 ≤ xs.length
  n15 : xs.length ≤ 15
  arm : ∀ k, k < xs.length → ¬ (pt xs k).l = -1 → ((k : Int) + 1 ≤ (pt xs k).l ∧ (pt xs k).l ≤ (xs.length : Int) - 1) ∧ ((k : Int) + 1 ≤ (pt xs k).r ∧ (pt xs k).r ≤ (xs.length : Int) - 1) ∧ (1 ≤ (pt xs k).p ∧ (pt xs k).p ≤ 20) ∧ (1 ≤ (pt xs k).q ∧ (pt xs k).q ≤ 20)
  ones : ∀ j, 1 ≤ j → j < xs.length → (cntL xs xs.length xs.length).getD j 0 = 1
theorem mobB_tr {xs : List Pt} (h : mobB xs = true) : Tr xs := by
  obtain ⟨h1, h2, h3⟩ := mobB_bd h
  refine ⟨h1, h2, fun k hk hl => ?_, fun j hj hn => ?_⟩
  · have := part_arm (h3 k hk) hl
    exact ⟨this.1, this.2.1, this.2.2.1, this.2.2.2.1⟩
  · simp only [mobB, Bool.and_eq_true] at h
    have h4 := h.2
    simp only [onesB, List.all_eq_true, List.mem_range, beq_iff_eq] at h4
    have := h4 (j - 1) (by omega)
    rwa [show 1 + (j - 1) = j by omega] at this
theorem Tr.kids {xs : List Pt} (h : Tr xs) {k : Nat} (hk : k < xs.length) (hl : ¬ (pt xs k).l = -1) : (k < kL xs k ∧ kL xs k < xs.length) ∧ (k < kR xs k ∧ kR xs k < xs.length) := by
  have := h.arm k hk hl
  unfold kL kR
  omega
/-! ### One parent -/
def ch (xs : List Pt) (k j : Nat) : Prop := k < xs.length ∧ ¬ (pt xs k).l = -1 ∧ (kL xs k = j ∨ kR xs k = j)
theorem ch_lt {xs : List Pt} (h : Tr xs) {k j : Nat} (hc : ch xs k j) : k < j ∧ j < xs.length := by
  have := h.kids hc.1 hc.2.1
  rcases hc.2.2 with e | e <;> omega
theorem bump_ge (L : List Int) (i j : Nat) : L.getD j 0 ≤ (bump L i).getD j 0 := by
  rw [bump_getD]
  split
  · rename_i e; rw [e.1]; omega
  · exact Int.le_refl _
theorem bump_hit (L : List Int) (j : Nat) (h : j < L.length) : (bump L j).getD j 0 = L.getD j 0 + 1 := by
  rw [bump_getD, if_pos ⟨rfl, h⟩]
theorem cnt_step (xs : List Pt) (n k j : Nat) : (cntL xs n k).getD j 0 ≤ (cntL xs n (k + 1)).getD j 0 := by
  rw [cntL]
  split
  · exact Int.le_refl _
  · exact Int.le_trans (bump_ge _ _ _) (bump_ge _ _ _)
theorem cnt_mono (xs : List Pt) (n j : Nat) {a b : Nat} (h : a ≤ b) : (cntL xs n a).getD j 0 ≤ (cntL xs n b).getD j 0 := by
  induction h with
  | refl => exact Int.le_refl _
  | step _ ih => exact Int.le_trans ih (cnt_step _ _ _ _)
theorem cnt_hit {xs : List Pt} {n k j : Nat} (hj : j < n) (hl : ¬ (pt xs k).l = -1) (hc : kL xs k = j ∨ kR xs k = j) : (cntL xs n k).getD j 0 + 1 ≤ (cntL xs n (k + 1)).getD j 0 := by
  rw [cntL, if_neg hl]
  show _ ≤ (bump (bump (cntL xs n k) (kL xs k)) (kR xs k)).getD j 0
  rcases hc with e | e
  · rw [e]
    have := bump_ge (bump (cntL xs n k) j) (kR xs k) j
    rw [bump_hit _ _ (by rw [cntL_length]; exact hj)] at this
    exact this
  · rw [e, bump_hit _ _ (by rw [bump_length, cntL_length]; exact hj)]
    have := bump_ge (cntL xs n k) (kL xs k) j
    omega
theorem cnt_hit2 {xs : List Pt} {n k j : Nat} (hj : j < n) (hl : ¬ (pt xs k).l = -1) (h1 : kL xs k = j) (h2 : kR xs k = j) : (cntL xs n k).getD j 0 + 2 ≤ (cntL xs n (k + 1)).getD j 0 := by
  rw [cntL, if_neg hl]
  show _ ≤ (bump (bump (cntL xs n k) (kL xs k)) (kR xs k)).getD j 0
  rw [h1, h2, bump_hit _ _ (by rw [bump_length, cntL_length]; exact hj), bump_hit _ _ (by rw [cntL_length]; exact hj)]
  omega
theorem cnt_pos {xs : List Pt} {n j : Nat} : ∀ m, 1 ≤ (cntL xs n m).getD j 0 → ∃ k, k < m ∧ ¬ (pt xs k).l = -1 ∧ (kL xs k = j ∨ kR xs k = j) := by
  intro m
  induction m with
  | zero =>
    intro h
    rw [cntL, List.getD_eq_getElem?_getD, List.getElem?_replicate] at h
    split at h <;> simp at h
  | succ m ih =>
    intro h
    rw [cntL] at h
    split at h
    · obtain ⟨k, a, b⟩ := ih h; exact ⟨k, by omega, b⟩
    · rename_i hl
      by_cases hc : kL xs m = j ∨ kR xs m = j
      · exact ⟨m, by omega, hl, hc⟩
      · have e1 : ¬ kL xs m = j := fun e => hc (.inl e)
        have e2 : ¬ kR xs m = j := fun e => hc (.inr e)
        rw [bump_getD, if_neg (fun e => e2 e.1), bump_getD, if_neg (fun e => e1 e.1)] at h
        obtain ⟨k, a, b⟩ := ih h; exact ⟨k, by omega, b⟩
theorem Tr.uniq {xs : List Pt} (h : Tr xs) {a b j : Nat} (ha : ch xs a j) (hb : ch xs b j) : a = b := by
  have key : ∀ {a b : Nat}, ch xs a j → ch xs b j → a < b → False := by
    intro a b ha hb hlt
    have hj := ch_lt h ha
    have h1 := cnt_hit (n := xs.length) hj.2 ha.2.1 ha.2.2
    have h2 := cnt_hit (n := xs.length) hj.2 hb.2.1 hb.2.2
    have h3 := cnt_mono xs xs.length j (show a + 1 ≤ b by omega)
    have h4 := cnt_mono xs xs.length j (show b + 1 ≤ xs.length from hb.1)
    have h5 := h.ones j (by omega) hj.2
    have h6 := (cntL_bd xs xs.length a j).1
    omega
  rcases Nat.lt_trichotomy a b with e | e | e
  · exact (key ha hb e).elim
  · exact e
  · exact (key hb ha e).elim
theorem Tr.two {xs : List Pt} (h : Tr xs) {k : Nat} (hk : k < xs.length) (hl : ¬ (pt xs k).l = -1) : kL xs k ≠ kR xs k := by
  intro e
  have hj := h.kids hk hl
  have h1 := cnt_hit2 (n := xs.length) (k := k) hj.1.2 hl rfl e.symm
  have h4 := cnt_mono xs xs.length (kL xs k) (show k + 1 ≤ xs.length from hk)
  have h5 := h.ones (kL xs k) (by omega) hj.1.2
  have h6 := (cntL_bd xs xs.length k (kL xs k)).1
  omega
theorem Tr.par {xs : List Pt} (h : Tr xs) {j : Nat} (h1 : 1 ≤ j) (hj : j < xs.length) : ∃ k, ch xs k j := by
  obtain ⟨k, a, b, c⟩ := cnt_pos (xs := xs) (n := xs.length) (j := j) xs.length (by rw [h.ones j h1 hj]; omega)
  exact ⟨k, a, b, c⟩
/-! ### A fold over what hangs from a part -/
def fo {α : Type} (xs : List Pt) (d : α) (lf : Nat → α) (nd : Nat → α → α → α) : Nat → Nat → α
  | 0, _ => d
  | f + 1, k => if (pt xs k).l = -1 then lf k else nd k (fo xs d lf nd f (kL xs k)) (fo xs d lf nd f (kR xs k))
theorem fo_irr {α : Type} {xs : List Pt} (h : Tr xs) (d : α) (lf : Nat → α) (nd : Nat → α → α → α) : ∀ f g k, k < xs.length → xs.length - k ≤ f → xs.length - k ≤ g → fo xs d lf nd f k = fo xs d lf nd g k := by
  intro f
  induction f with
  | zero => intro g k hk h1 h2; omega
  | succ f ih =>
    intro g k hk h1 h2
    cases g with
    | zero => omega
    | succ g =>
      rw [fo, fo]
      by_cases hl : (pt xs k).l = -1
      · rw [if_pos hl, if_pos hl]
      · have hc := h.kids hk hl
        rw [if_neg hl, if_neg hl, ih g _ hc.1.2 (by omega) (by omega), ih g _ hc.2.2 (by omega) (by omega)]
theorem fo_eq {α : Type} {xs : List Pt} (h : Tr xs) (d : α) (lf : Nat → α) (nd : Nat → α → α → α) {k : Nat} (hk : k < xs.length) :
    fo xs d lf nd 16 k = if (pt xs k).l = -1 then lf k else nd k (fo xs d lf nd 16 (kL xs k)) (fo xs d lf nd 16 (kR xs k)) := by
  have h15 := h.n15
  rw [fo]
  by_cases hl : (pt xs k).l = -1
  · rw [if_pos hl, if_pos hl]
  · have hc := h.kids hk hl
    rw [if_neg hl, if_neg hl, fo_irr h d lf nd 15 16 _ hc.1.2 (by omega) (by omega), fo_irr h d lf nd 15 16 _ hc.2.2 (by omega) (by omega)]
theorem Tr.induct {xs : List Pt} (h : Tr xs) {P : Nat → Prop} (leaf : ∀ k, k < xs.length → (pt xs k).l = -1 → P k)
    (node : ∀ k, k < xs.length → ¬ (pt xs k).l = -1 → P (kL xs k) → P (kR xs k) → P k) : ∀ k, k < xs.length → P k := by
  have : ∀ f k, k < xs.length → xs.length - k ≤ f → P k := by
    intro f
    induction f with
    | zero => intro k hk hf; omega
    | succ f ih =>
      intro k hk hf
      by_cases hl : (pt xs k).l = -1
      · exact leaf k hk hl
      · have hc := h.kids hk hl
        exact node k hk hl (ih _ hc.1.2 (by omega)) (ih _ hc.2.2 (by omega))
  exact fun k hk => this _ k hk (Nat.le_refl _)
/-! ### What hangs from a part -/
def sbT (xs : List Pt) (k : Nat) : Nat → Bool := fo xs (fun _ => false) (fun k j => k == j) (fun k a b j => k == j || (a j || b j)) 16 k
theorem sb_leaf {xs : List Pt} (h : Tr xs) {k : Nat} (hk : k < xs.length) (hl : (pt xs k).l = -1) (j : Nat) : sbT xs k j = (k == j) := by
  rw [sbT, fo_eq h _ _ _ hk, if_pos hl]
theorem sb_node {xs : List Pt} (h : Tr xs) {k : Nat} (hk : k < xs.length) (hl : ¬ (pt xs k).l = -1) (j : Nat) : sbT xs k j = (k == j || (sbT xs (kL xs k) j || sbT xs (kR xs k) j)) := by
  rw [sbT, fo_eq h _ _ _ hk, if_neg hl]; rfl
theorem sb_self {xs : List Pt} (h : Tr xs) {k : Nat} (hk : k < xs.length) : sbT xs k k = true := by
  by_cases hl : (pt xs k).l = -1
  · simp [sb_leaf h hk hl]
  · simp [sb_node h hk hl]
theorem sb_ge {xs : List Pt} (h : Tr xs) : ∀ k, k < xs.length → ∀ j, sbT xs k j = true → k ≤ j ∧ j < xs.length := by
  refine h.induct (fun k hk hl j hs => ?_) (fun k hk hl i1 i2 j hs => ?_)
  · rw [sb_leaf h hk hl, beq_iff_eq] at hs; omega
  · rw [sb_node h hk hl, Bool.or_eq_true, Bool.or_eq_true, beq_iff_eq] at hs
    have hc := h.kids hk hl
    rcases hs with e | e | e
    · omega
    · have := i1 j e; omega
    · have := i2 j e; omega
theorem sb_par {xs : List Pt} (h : Tr xs) : ∀ k, k < xs.length → ∀ j, sbT xs k j = true → j ≠ k → ∃ m, ch xs m j ∧ sbT xs k m = true := by
  refine h.induct (fun k hk hl j hs hne => ?_) (fun k hk hl i1 i2 j hs hne => ?_)
  · rw [sb_leaf h hk hl, beq_iff_eq] at hs; omega
  · rw [sb_node h hk hl, Bool.or_eq_true, Bool.or_eq_true, beq_iff_eq] at hs
    rcases hs with e | e | e
    · omega
    · by_cases hj : j = kL xs k
      · exact ⟨k, ⟨hk, hl, .inl hj.symm⟩, sb_self h hk⟩
      · obtain ⟨m, hm, hs⟩ := i1 j e hj
        exact ⟨m, hm, by rw [sb_node h hk hl, hs]; simp⟩
    · by_cases hj : j = kR xs k
      · exact ⟨k, ⟨hk, hl, .inr hj.symm⟩, sb_self h hk⟩
      · obtain ⟨m, hm, hs⟩ := i2 j e hj
        exact ⟨m, hm, by rw [sb_node h hk hl, hs]; simp⟩
theorem sb_nest {xs : List Pt} (h : Tr xs) {a b : Nat} (ha : a < xs.length) (hb : b < xs.length) : ∀ j, sbT xs a j = true → sbT xs b j = true → sbT xs a b = true ∨ sbT xs b a = true := by
  intro j
  induction j using Nat.strongRecOn with
  | _ j ih =>
    intro h1 h2
    by_cases e1 : j = a
    · subst e1; exact .inr h2
    · by_cases e2 : j = b
      · subst e2; exact .inl h1
      · obtain ⟨m, c1, s1⟩ := sb_par h a ha j h1 e1
        obtain ⟨m', c2, s2⟩ := sb_par h b hb j h2 e2
        have e := h.uniq c1 c2
        subst e
        exact ih m (ch_lt h c1).1 s1 s2
/-- Two children's parts are apart. -/
theorem sb_apart {xs : List Pt} (h : Tr xs) {k : Nat} (hk : k < xs.length) (hl : ¬ (pt xs k).l = -1) {j : Nat} (h1 : sbT xs (kL xs k) j = true) (h2 : sbT xs (kR xs k) j = true) : False := by
  have hc := h.kids hk hl
  have h2' := h.two hk hl
  rcases sb_nest h hc.1.2 hc.2.2 j h1 h2 with e | e
  · obtain ⟨m, c, s⟩ := sb_par h _ hc.1.2 _ e (Ne.symm h2')
    have := h.uniq c ⟨hk, hl, .inr rfl⟩
    subst this
    have := sb_ge h _ hc.1.2 _ s
    omega
  · obtain ⟨m, c, s⟩ := sb_par h _ hc.2.2 _ e h2'
    have := h.uniq c ⟨hk, hl, .inl rfl⟩
    subst this
    have := sb_ge h _ hc.2.2 _ s
    omega
theorem sb_root {xs : List Pt} (h : Tr xs) : ∀ j, j < xs.length → sbT xs 0 j = true := by
  intro j
  induction j using Nat.strongRecOn with
  | _ j ih =>
    intro hj
    by_cases e : j = 0
    · subst e; exact sb_self h hj
    · obtain ⟨k, c⟩ := h.par (by omega) hj
      have hk := ih k (ch_lt h c).1 c.1
      have : ∀ a, a < xs.length → sbT xs a k = true → sbT xs a j = true := by
        refine h.induct (fun a ha hl hs => ?_) (fun a ha hl i1 i2 hs => ?_)
        · rw [sb_leaf h ha hl, beq_iff_eq] at hs
          subst hs; exact absurd hl c.2.1
        · rw [sb_node h ha hl, Bool.or_eq_true, Bool.or_eq_true, beq_iff_eq] at hs
          rw [sb_node h ha hl]
          rcases hs with e | e | e
          · subst e
            have hcc := h.kids ha hl
            rcases c.2.2 with e | e
            · rw [← e, sb_self h hcc.1.2]; simp
            · rw [← e, sb_self h hcc.2.2]; simp
          · rw [i1 e]; simp
          · rw [i2 e]; simp
      exact this 0 (by omega) hk
end Go.Proofs.Ytajdppfngnpklaa
