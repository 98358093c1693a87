/- Plain laws for FnChange: bounds of the sums, the ways with and without the last coin. -/
import Derived.Test.YtjioijpanohgoaaKzMore
import Derived.Test.YtjioijpanohgoaaWaysC
set_option linter.unusedVariables false
namespace Go.Proofs.Ytjioijpanohgoaa
theorem dot_bd {g xs : List Int} (hg : allB 0 1000 g = true) (hx : allB 1 100 xs = true) : ∀ k, k ≤ g.length → k ≤ xs.length → 0 ≤ dotK g xs k ∧ dotK g xs k ≤ 100000 * (k : Int) := by
  intro k
  induction k with
  | zero => intro _ _; simp [dotK]
  | succ k ih =>
    intro h1 h2
    have h3 := ih (by omega) (by omega)
    have h4 := allB_iff.1 hg k (by omega)
    have h5 := allB_iff.1 hx k (by omega)
    have h6 := mul_bd (a := g.getD k 0) (b := xs.getD k 0) (A := 1000) (B := 100) (by omega) (by omega)
    have h7 := Int.mul_nonneg h4.1 (show 0 ≤ xs.getD k 0 by omega)
    rw [dotK]
    omega
theorem take_getD {xs : List Int} {l i : Nat} (h : i < l) : (xs.take l).getD i 0 = xs.getD i 0 := by
  rw [List.getD_eq_getElem?_getD, List.getD_eq_getElem?_getD, List.getElem?_take_of_lt h]
theorem sys_take {xs : List Int} (h : sysB xs = true) {l : Nat} (h1 : 1 ≤ l) (h2 : l ≤ xs.length) : sysB (xs.take l) = true := by
  obtain ⟨ha, hs, hl, h3⟩ := sysB_bd h
  have hlen : (xs.take l).length = l := by simp; omega
  simp only [sysB, Bool.and_eq_true, beq_iff_eq]
  refine ⟨⟨⟨allB_iff.2 fun j hj => ?_, ascB_iff.2 fun j hj => ?_⟩, inB_true.2 (by rw [hlen]; omega)⟩, by rw [take_getD (by omega)]; exact h3⟩
  · rw [take_getD (by omega)]; exact allB_iff.1 ha j (by omega)
  · rw [take_getD (by omega), take_getD (by omega)]; exact ascB_iff.1 hs j (by omega)
theorem ways_take (xs : List Int) (l a : Nat) : wF (xs.take l) l a = wF xs l a := by
  rw [wF_congr l (fun i hi => take_getD hi)]
theorem few_sys {xs : List Int} (h : sysB xs = true) {n : Nat} (hn : n ≤ 1000) : fewI xs (n : Int) = fw xs n := by
  have h2 : inB (n : Int) 0 1000 = true := inB_true.2 (by omega)
  rw [fewI, h, h2]; rfl
theorem good_bad {xs : List Int} (h : sysB xs = true) (n : Nat) : ∃ (gd : Bool) (bd : Int), goodB xs = gd ∧ fgb xs = bd ∧ ((gd = true ∧ bd < 0 ∧ fw xs n = gcost xs n) ∨ (gd = false ∧ ∃ b : Nat, bd = (b : Int) ∧ b ≤ 200 ∧ 2 ≤ fw xs b)) := by
  obtain ⟨h1, h2, h3, h4⟩ := change_law h n
  refine ⟨_, _, rfl, rfl, ?_⟩
  rcases (by omega : fgb xs < 0 ∨ 0 ≤ fgb xs) with hb | hb
  · exact .inl ⟨by simp [goodB, h, hb], hb, h3 hb⟩
  · exact .inr ⟨by simp [goodB, h]; omega, h4 hb⟩
end Go.Proofs.Ytjioijpanohgoaa
