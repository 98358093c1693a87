/- FnGlasses: what the times are, the plain law. -/
import Derived.Test.YtpafcambfmkmiaaGlV
set_option linter.unusedVariables false
namespace Go.Proofs.Ytpafcambfmkmiaa
theorem dvd_flip {e f s : Int} {u v w : Int} (hf : e ∣ f) (hs : e ∣ s) (hu : e ∣ u) (hv : e ∣ v) : e ∣ fA f s u v w ∧ e ∣ fB f s u v w := by
  unfold fA fB
  constructor
  · repeat' split
    all_goals first | exact Int.dvd_sub hf hu | exact hu
  · repeat' split
    all_goals first | exact Int.dvd_sub hs hv | exact hv
theorem dvd_run {e f s a b : Int} (ha : e ∣ a) (hb : e ∣ b) (h : glassB f s a b = true) : e ∣ gA f s a b ∧ e ∣ gB f s a b ∧ e ∣ gT f s a b := by
  have hmin : e ∣ min a b := by rcases Int.le_total a b with h | h <;> simp [Int.min_def, *] <;> split <;> assumption
  have hmax : e ∣ max a b := by rcases Int.le_total a b with h | h <;> simp [Int.max_def, *] <;> split <;> assumption
  have h0 : ∀ x : Int, e ∣ x → e ∣ max x 0 := fun x hx => by
    rw [Int.max_def]; split
    · exact Int.dvd_zero e
    · exact hx
  unfold gA gB gT
  rw [if_pos h, if_pos h, if_pos h]
  by_cases c : 0 < a ∧ 0 < b
  · rw [if_pos c, if_pos c, if_pos c]
    refine ⟨?_, ?_, ?_⟩
    · first | exact h0 _ (Int.dvd_sub ha hmin) | exact Int.dvd_sub ha hmin
    · first | exact h0 _ (Int.dvd_sub hb hmin) | exact Int.dvd_sub hb hmin
    · exact hmin
  · rw [if_neg c, if_neg c, if_neg c]
    refine ⟨?_, ?_, ?_⟩
    · first | exact h0 _ (Int.dvd_sub ha hmax) | exact Int.dvd_sub ha hmax | exact Int.dvd_zero e
    · first | exact h0 _ (Int.dvd_sub hb hmax) | exact Int.dvd_sub hb hmax | exact Int.dvd_zero e
    · exact hmax
theorem re_dvd {e f s : Int} {M c : Nat} (hf1 : 1 ≤ f ∧ f ≤ 12) (hs1 : 1 ≤ s ∧ s ≤ 12) (hf : e ∣ f) (hs : e ∣ s) (h : Re f s M c) : e ∣ ((uc c : Nat) : Int) ∧ e ∣ ((vc c : Nat) : Int) ∧ e ∣ ((tc c : Nat) : Int) := by
  induction h with
  | zero => simp [uc, vc, tc]
  | @step c w d hc hw hn ih =>
    have hok := hc.ok hf1 hs1
    obtain ⟨h1, h2, h3, h4, h5⟩ := hn
    obtain ⟨i1, i2, i3⟩ := ih
    obtain ⟨f1, f2⟩ := dvd_flip (w := (w : Int)) hf hs i1 i2
    obtain ⟨r1, r2, r3⟩ := dvd_run f1 f2 (ok_turn hok)
    exact ⟨by rw [h3]; exact r1, by rw [h4]; exact r2, by rw [h5]; exact Int.dvd_add i3 r3⟩
theorem re_less {f s : Int} {M M' c : Nat} (h : Re f s M c) (hc : tc c ≤ M') : Re f s M' c := by
  induction h with
  | zero => exact .zero
  | @step c w d hcr hw hn ih =>
    have hlt := (nx_lt hn).1
    obtain ⟨h1, h2, h3, h4, h5⟩ := hn
    exact .step (ih (by omega)) hw ⟨h1, by omega, h3, h4, h5⟩
theorem re_mult {f s : Int} {M : Nat} (hf : 1 ≤ f ∧ f ≤ 12) (hs : 1 ≤ s ∧ s ≤ 12) {w : Nat} {p : Nat} (hw : (w = 1 ∧ (p : Int) = f) ∨ (w = 2 ∧ (p : Int) = s)) : ∀ k : Nat, k * p ≤ M → Re f s M (k * p * 169) := by
  intro k
  induction k with
  | zero => intro _; rw [Nat.zero_mul, Nat.zero_mul]; exact .zero
  | succ k ih =>
    intro h
    have e1 : (k + 1) * p = k * p + p := Nat.succ_mul k p
    have hp := ih (by omega)
    obtain ⟨x, hx⟩ : ∃ x, x = k * p := ⟨_, rfl⟩
    rw [← hx] at hp e1
    rw [e1] at h ⊢
    have u0 : uc (x * 169) = 0 := by unfold uc; omega
    have v0 : vc (x * 169) = 0 := by unfold vc; omega
    have t0 : tc (x * 169) = x := by unfold tc; omega
    have u1 : uc ((x + p) * 169) = 0 := by unfold uc; omega
    have v1 : vc ((x + p) * 169) = 0 := by unfold vc; omega
    have t1 : tc ((x + p) * 169) = x + p := by unfold tc; omega
    have g0 : glassB f s 0 0 = true := by
      simp only [glassB, Bool.and_eq_true]
      exact ⟨⟨⟨inB_true.2 hf, inB_true.2 hs⟩, inB_true.2 (by omega)⟩, inB_true.2 (by omega)⟩
    have gf : glassB f s f 0 = true := by
      simp only [glassB, Bool.and_eq_true]
      exact ⟨⟨⟨inB_true.2 hf, inB_true.2 hs⟩, inB_true.2 (by omega)⟩, inB_true.2 (by omega)⟩
    have gs : glassB f s 0 s = true := by
      simp only [glassB, Bool.and_eq_true]
      exact ⟨⟨⟨inB_true.2 hf, inB_true.2 hs⟩, inB_true.2 (by omega)⟩, inB_true.2 (by omega)⟩
    have hN : sN f s (x * 169) w = (p : Int) ∧ sA f s (x * 169) w = 0 ∧ sB f s (x * 169) w = 0 := by
      unfold sN sA sB
      rw [u0, v0]
      rcases hw with ⟨rfl, e⟩ | ⟨rfl, e⟩
      · have a1 : fA f s ((0 : Nat) : Int) ((0 : Nat) : Int) ((1 : Nat) : Int) = f := by simp [fA, g0, inB]
        have a2 : fB f s ((0 : Nat) : Int) ((0 : Nat) : Int) ((1 : Nat) : Int) = 0 := by simp [fB, g0, inB]
        rw [a1, a2]
        unfold gT gA gB
        rw [if_pos gf, if_pos gf, if_pos gf, if_neg (by omega), if_neg (by omega), if_neg (by omega)]
        omega
      · have a1 : fA f s ((0 : Nat) : Int) ((0 : Nat) : Int) ((2 : Nat) : Int) = 0 := by simp [fA, g0, inB]
        have a2 : fB f s ((0 : Nat) : Int) ((0 : Nat) : Int) ((2 : Nat) : Int) = s := by simp [fB, g0, inB]
        rw [a1, a2]
        unfold gT gA gB
        rw [if_pos gs, if_pos gs, if_pos gs, if_neg (by omega), if_neg (by omega), if_neg (by omega)]
        omega
    refine .step (w := w) hp (by omega) ⟨by rw [hN.1]; omega, by rw [hN.1, t0]; omega, by rw [u1, hN.2.1]; rfl, by rw [v1, hN.2.2]; rfl, by rw [t1, t0, hN.1]; omega⟩
theorem tim_has {f s : Int} {M : Nat} {x : Int} (hok : (inB f 1 12 && inB s 1 12 && inB (M : Int) 1 60) = true) : x ∈ timM f s (M : Int) ↔ ∃ k, k ≤ M ∧ 1 ≤ k ∧ At f s M k ∧ (k : Int) = x := by
  rw [timM, if_pos hok, Int.toNat_natCast, mem_tmL]
  exact ⟨fun ⟨k, h1, h2⟩ => ⟨k, by omega, h2⟩, fun ⟨k, h1, h2⟩ => ⟨k, by omega, h2⟩⟩
theorem glasses_law1 {f s : Int} {M : Nat} {x : Int} (hf : 1 ≤ f ∧ f ≤ 12) (hs : 1 ≤ s ∧ s ≤ 12) (hM : 1 ≤ M ∧ M ≤ 60) (h : x ∈ timM f s (M : Int)) : (1 ≤ x ∧ x ≤ (M : Int)) ∧ (∀ e : Int, e ∣ f → e ∣ s → e ∣ x) ∧ x ∈ timM f s x := by
  have i1 := inB_true.2 hf
  have i2 := inB_true.2 hs
  obtain ⟨k, h1, h2, ⟨c, hc, hr⟩, rfl⟩ := (tim_has (by rw [i1, i2, inB_true.2 (by omega)]; rfl)).1 h
  refine ⟨by omega, fun e he1 he2 => ?_, ?_⟩
  · have h3 := (re_dvd hf hs he1 he2 hr).2.2
    rw [hc] at h3; exact h3
  · exact (tim_has (by rw [i1, i2, inB_true.2 (by omega)]; rfl)).2 ⟨k, Nat.le_refl _, h2, ⟨c, hc, re_less hr (by omega)⟩, rfl⟩
theorem glasses_law2 {f s : Int} {M : Nat} {t : Nat} (hf : 1 ≤ f ∧ f ≤ 12) (hs : 1 ≤ s ∧ s ≤ 12) (hM : 1 ≤ M ∧ M ≤ 60) (ht : 1 ≤ t ∧ t ≤ M) (h : f ∣ (t : Int) ∨ s ∣ (t : Int)) : (t : Int) ∈ timM f s (M : Int) := by
  have i1 := inB_true.2 hf
  have i2 := inB_true.2 hs
  refine (tim_has (by rw [i1, i2, inB_true.2 (by omega)]; rfl)).2 ⟨t, ht.2, ht.1, ?_, rfl⟩
  have key : ∀ (w p : Nat), ((w = 1 ∧ (p : Int) = f) ∨ (w = 2 ∧ (p : Int) = s)) → (p : Int) ∣ (t : Int) → At f s M t := by
    intro w p hw hd
    obtain ⟨k, hk⟩ := Int.natCast_dvd_natCast.1 hd
    have hk' : k * p = t := by rw [hk]; exact Nat.mul_comm k p
    refine ⟨k * p * 169, by rw [hk']; unfold tc; omega, re_mult hf hs hw k (by omega)⟩
  rcases h with h | h
  · exact key 1 f.toNat (.inl ⟨rfl, by omega⟩) (by rw [Int.toNat_of_nonneg (by omega)]; exact h)
  · exact key 2 s.toNat (.inr ⟨rfl, by omega⟩) (by rw [Int.toNat_of_nonneg (by omega)]; exact h)
end Go.Proofs.Ytpafcambfmkmiaa
