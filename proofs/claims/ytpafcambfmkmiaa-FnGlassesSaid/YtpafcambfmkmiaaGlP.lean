/- TimesWith: the plain law. A state is a code: time * 169 + first glass * 13 + second glass. -/
import Derived.Test.YtpafcambfmkmiaaGlass
set_option linter.unusedVariables false
namespace Go.Proofs.Ytpafcambfmkmiaa
def uc (c : Nat) : Nat := c % 169 / 13
def vc (c : Nat) : Nat := c % 13
def tc (c : Nat) : Nat := c / 169
theorem code_eq (c : Nat) : c = tc c * 169 + uc c * 13 + vc c := by unfold tc uc vc; omega
theorem code_of {u v t : Nat} (hu : u ≤ 12) (hv : v ≤ 12) : uc (t * 169 + u * 13 + v) = u ∧ vc (t * 169 + u * 13 + v) = v ∧ tc (t * 169 + u * 13 + v) = t := by unfold tc uc vc; omega
theorem code_inj {c d : Nat} (h1 : uc c = uc d) (h2 : vc c = vc d) (h3 : tc c = tc d) : c = d := by rw [code_eq c, code_eq d, h1, h2, h3]
theorem uv_bd (c : Nat) : uc c ≤ 12 ∧ vc c ≤ 12 := by unfold uc vc; omega
/-- What a turn and a run give. -/
def sA (f s : Int) (c w : Nat) : Int := gA f s (fA f s (uc c) (vc c) w) (fB f s (uc c) (vc c) w)
def sB (f s : Int) (c w : Nat) : Int := gB f s (fA f s (uc c) (vc c) w) (fB f s (uc c) (vc c) w)
def sN (f s : Int) (c w : Nat) : Int := gT f s (fA f s (uc c) (vc c) w) (fB f s (uc c) (vc c) w)
/-- The states of the two glasses as they can be. -/
def okS (f s : Int) (c : Nat) : Prop := glassB f s (uc c) (vc c) = true
theorem ok_turn {f s : Int} {c w : Nat} (h : okS f s c) : glassB f s (fA f s (uc c) (vc c) w) (fB f s (uc c) (vc c) w) = true := by
  obtain ⟨h1, h2, h3, h4⟩ := glassB_bd h
  simp only [glassB, Bool.and_eq_true]
  unfold fA fB
  refine ⟨⟨⟨inB_true.2 h1, inB_true.2 h2⟩, inB_true.2 ?_⟩, inB_true.2 ?_⟩
  · split
    · split <;> omega
    · omega
  · split
    · split <;> omega
    · omega
theorem ok_run {f s a b : Int} (h : glassB f s a b = true) : (0 ≤ gA f s a b ∧ gA f s a b ≤ f) ∧ (0 ≤ gB f s a b ∧ gB f s a b ≤ s) ∧ 0 ≤ gT f s a b ∧ gT f s a b ≤ 12 := by
  obtain ⟨h1, h2, h3, h4⟩ := glassB_bd h
  unfold gA gB gT
  rw [if_pos h, if_pos h, if_pos h]
  by_cases c : 0 < a ∧ 0 < b
  · rw [if_pos c, if_pos c, if_pos c]; omega
  · rw [if_neg c, if_neg c, if_neg c]; omega
theorem step_bd {f s : Int} {c : Nat} (h : okS f s c) (w : Nat) : (0 ≤ sA f s c w ∧ sA f s c w ≤ f) ∧ (0 ≤ sB f s c w ∧ sB f s c w ≤ s) ∧ 0 ≤ sN f s c w ∧ sN f s c w ≤ 12 := ok_run (ok_turn h)
def Nx (f s : Int) (M : Nat) (c w d : Nat) : Prop := 0 < sN f s c w ∧ (tc c : Int) + sN f s c w ≤ M ∧ (uc d : Int) = sA f s c w ∧ (vc d : Int) = sB f s c w ∧ (tc d : Int) = (tc c : Int) + sN f s c w
theorem nx_lt {f s : Int} {M c w d : Nat} (h : Nx f s M c w d) : tc c < tc d ∧ tc d ≤ M ∧ c < d := by
  obtain ⟨h1, h2, h3, h4, h5⟩ := h
  have a := code_eq c
  have b := code_eq d
  have e := uv_bd c
  have : tc c < tc d := by omega
  exact ⟨this, by omega, by omega⟩
theorem nx_ok {f s : Int} {M c w d : Nat} (hc : okS f s c) (h : Nx f s M c w d) : okS f s d := by
  obtain ⟨h1, h2, h3, h4, h5⟩ := h
  obtain ⟨a, b, _⟩ := step_bd hc w
  have g := glassB_bd hc
  unfold okS
  simp only [glassB, Bool.and_eq_true]
  exact ⟨⟨⟨inB_true.2 g.1, inB_true.2 g.2.1⟩, inB_true.2 (by omega)⟩, inB_true.2 (by omega)⟩
theorem nx_fun {f s : Int} {M c w d d' : Nat} (h : Nx f s M c w d) (h' : Nx f s M c w d') : d = d' := by
  obtain ⟨h1, h2, h3, h4, h5⟩ := h
  obtain ⟨g1, g2, g3, g4, g5⟩ := h'
  exact code_inj (by omega) (by omega) (by omega)
/-- The state that a turn and a run lead to. -/
theorem nx_ex {f s : Int} {M c w : Nat} (hc : okS f s c) (h : 0 < sN f s c w ∧ (tc c : Int) + sN f s c w ≤ M) : ∃ d, Nx f s M c w d := by
  obtain ⟨a, b, n⟩ := step_bd hc w
  have g := glassB_bd hc
  refine ⟨(tc c + (sN f s c w).toNat) * 169 + (sA f s c w).toNat * 13 + (sB f s c w).toNat, h.1, h.2, ?_⟩
  obtain ⟨e1, e2, e3⟩ := code_of (u := (sA f s c w).toNat) (v := (sB f s c w).toNat) (t := tc c + (sN f s c w).toNat) (by omega) (by omega)
  rw [e1, e2, e3]
  omega
inductive Re (f s : Int) (M : Nat) : Nat → Prop
  | zero : Re f s M 0
  | step {c w d : Nat} : Re f s M c → w ≤ 3 → Nx f s M c w d → Re f s M d
theorem ok_zero {f s : Int} (hf : 1 ≤ f ∧ f ≤ 12) (hs : 1 ≤ s ∧ s ≤ 12) : okS f s 0 := by
  unfold okS
  simp only [glassB, Bool.and_eq_true]
  exact ⟨⟨⟨inB_true.2 hf, inB_true.2 hs⟩, inB_true.2 (by unfold uc; omega)⟩, inB_true.2 (by unfold vc; omega)⟩
theorem Re.ok {f s : Int} {M c : Nat} (hf : 1 ≤ f ∧ f ≤ 12) (hs : 1 ≤ s ∧ s ≤ 12) (h : Re f s M c) : okS f s c := by
  induction h with
  | zero => exact ok_zero hf hs
  | step _ _ h ih => exact nx_ok ih h
theorem Re.le {f s : Int} {M c : Nat} (h : Re f s M c) : tc c ≤ M := by
  cases h with
  | zero => exact Nat.zero_le _
  | step _ _ h => exact (nx_lt h).2.1
theorem Re.pos {f s : Int} {M c : Nat} (h : Re f s M c) (h0 : c ≠ 0) : 1 ≤ tc c := by
  cases h with
  | zero => exact absurd rfl h0
  | step _ _ h => have := (nx_lt h).1; omega
/-! ### The reference's table -/
/-- Reached from a state below p, or the start. -/
def Rb (f s : Int) (M p c : Nat) : Prop := c = 0 ∨ ∃ b, b < p ∧ Re f s M b ∧ ∃ w, w ≤ 3 ∧ Nx f s M b w c
theorem Rb.re {f s : Int} {M p c : Nat} (h : Rb f s M p c) : Re f s M c := by
  rcases h with rfl | ⟨b, _, hb, w, hw, hn⟩
  · exact .zero
  · exact .step hb hw hn
theorem re_rb {f s : Int} {M p c : Nat} (h : Re f s M c) (hc : c ≤ p) : Rb f s M p c := by
  cases h with
  | zero => exact .inl rfl
  | step hb hw hn => exact .inr ⟨_, by have := (nx_lt hn).2.2; omega, hb, _, hw, hn⟩
theorem rb_at {f s : Int} {M c : Nat} : Rb f s M c c ↔ Re f s M c := ⟨Rb.re, fun h => re_rb h (Nat.le_refl _)⟩
/-- A time at which a glass can run out. -/
def At (f s : Int) (M t : Nat) : Prop := ∃ c, tc c = t ∧ Re f s M c
/-- The program's set is the closure: what holds the start and is closed holds all. -/
theorem re_in {f s : Int} {M : Nat} {S : Nat → Prop} (h0 : S 0) (hc : ∀ c, S c → ∀ w, w ≤ 3 → ∀ d, Nx f s M c w d → S d) {c : Nat} (h : Re f s M c) : S c := by
  induction h with
  | zero => exact h0
  | step _ hw hn ih => exact hc _ ih _ hw _ hn
/-! ### How many are not yet seen -/
def unS (S : List Nat) : Nat → Nat
  | 0 => 0
  | c + 1 => unS S c + if c ∈ S then 0 else 1
theorem unS_le (S : List Nat) : ∀ m, unS S m ≤ m := by
  intro m
  induction m with
  | zero => exact Nat.le_refl _
  | succ m ih => rw [unS]; split <;> omega
theorem unS_add {S : List Nat} {d : Nat} (hd : d ∉ S) : ∀ m, unS (d :: S) m = unS S m - if d < m then 1 else 0 := by
  have hle : ∀ m, d < m → 1 ≤ unS S m := fun m => by
    induction m with
    | zero => intro h; omega
    | succ m ih =>
      intro h
      rw [unS]
      by_cases e : d = m
      · subst e; rw [if_neg hd]; omega
      · have := ih (by omega); omega
  intro m
  induction m with
  | zero => rw [if_neg (by omega)]; rfl
  | succ m ih =>
    rw [unS, unS, ih]
    by_cases e : d = m
    · subst e
      rw [if_neg (Nat.lt_irrefl _), if_pos (by simp), if_neg hd, if_pos (Nat.lt_succ_self _)]; omega
    · have hmd : ¬ m = d := fun h => e h.symm
      have h1 : (if m ∈ d :: S then 0 else 1) = (if m ∈ S then 0 else 1) := by simp [hmd]
      rw [h1]
      generalize (if m ∈ S then 0 else 1) = X
      by_cases c : d < m
      · have := hle m c
        rw [if_pos c, if_pos (show d < m + 1 by omega)]; omega
      · rw [if_neg c, if_neg (show ¬ d < m + 1 by omega)]; omega
end Go.Proofs.Ytpafcambfmkmiaa
