/- FewestPours: how long the way is at most. -/
import Derived.Test.YtgkjckhjmphoaaaJgT
set_option linter.unusedVariables false
namespace Go.Proofs.Ytgkjckhjmphoaaa
theorem best_dm {f s goal : Int} {l : List Int} (h : Best f s goal l) : Dm f s goal 0 l.length := by
  obtain ⟨⟨d, h1, h2⟩, h3⟩ := h
  refine ⟨⟨l, d, rfl, h1, h2⟩, ?_⟩
  rintro m hm ⟨q, d', hq, hw, hg⟩
  rcases h3 q d' hw hg with e | e | ⟨e, _⟩
  · rw [e] at hm; omega
  · omega
  · omega
theorem dm_states {f s goal : Int} : ∀ (n c : Nat), okJ f s c → Dm f s goal c n → ∃ S : List Nat, S.length = n + 1 ∧ (∀ x ∈ S, ∃ k, k ≤ n ∧ Dm f s goal x k) ∧ S.length + unS S 441 ≤ 441 := by
  intro n
  induction n with
  | zero =>
    intro c ho hd
    have hl := (okJ_lt ho).1
    obtain ⟨h1, h2⟩ := unS_add (S := []) (d := c) (by simp) 441
    have h1 := h1 hl
    have h3 := unS_le [] 441
    rw [if_pos hl] at h2
    refine ⟨[] ++ [c], by simp, fun x hx => ⟨0, Nat.le_refl _, by simp at hx; subst hx; exact hd⟩, ?_⟩
    rw [h2]; simp; omega
  | succ n ih =>
    intro c ho hd
    have hl := (okJ_lt ho).1
    obtain ⟨a, x, hp, hx⟩ := dm_step hd
    obtain ⟨S, h1, h2, h3⟩ := ih x (px_ok hp).2 hx
    have hc : c ∉ S := fun h => by
      obtain ⟨k, hk, hdk⟩ := h2 c h
      have := dm_fun hdk hd; omega
    obtain ⟨h4, h5⟩ := unS_add hc 441
    have h4 := h4 hl
    rw [if_pos hl] at h5
    refine ⟨S ++ [c], by simp [h1], fun y hy => ?_, ?_⟩
    · rcases List.mem_append.1 hy with h | h
      · obtain ⟨k, hk, hdk⟩ := h2 y h; exact ⟨k, by omega, hdk⟩
      · rw [List.mem_singleton] at h; subst h; exact ⟨n + 1, Nat.le_refl _, hd⟩
    · rw [h5, List.length_append, List.length_singleton]; omega
theorem few_len (f s goal : Int) : (few f s goal).length ≤ 441 := by
  by_cases h : fewIn f s goal = true ∧ ∃ l, Best f s goal l
  · obtain ⟨h1, l, hb⟩ := h
    rw [(few_best h1 hb).1]
    have ho : okJ f s 0 := by
      unfold fewIn at h1
      exact (Bool.and_eq_true_iff.1 h1).1
    obtain ⟨S, h2, _, h3⟩ := dm_states _ _ ho (best_dm hb)
    omega
  · rw [(few_none h).1]; simp
end Go.Proofs.Ytgkjckhjmphoaaa
