/- TimesWith: the contract of the reference. -/
import Derived.Test.YtpafcambfmkmiaaGlP
import Derived.Test.YtpafcambfmkmiaaApp
import Derived.Deep.RegionHeld3
import Derived.Deep.DeepCutAuto
set_option linter.unusedVariables false
namespace Go.Proofs.Ytpafcambfmkmiaa
open Go.RowKit
open Classical in
noncomputable def tmL (f s : Int) (M : Nat) : Nat → List Int
  | 0 => []
  | t + 1 => tmL f s M t ++ (if 1 ≤ t ∧ At f s M t then [(t : Int)] else [])
noncomputable def timM (f s m : Int) : List Int := if (inB f 1 12 && inB s 1 12 && inB m 1 60) = true then tmL f s m.toNat (m.toNat + 1) else []
theorem tmL_len (f s : Int) (M : Nat) : ∀ t, (tmL f s M t).length ≤ t := by
  intro t
  induction t with
  | zero => exact Nat.le_refl _
  | succ t ih => rw [tmL, List.length_append]; split <;> simp <;> omega
theorem timM_len (f s m : Int) : (timM f s m).length ≤ 61 := by
  rw [timM]
  split
  · rename_i h
    simp only [Bool.and_eq_true] at h
    have := inB_true.1 h.2
    have := tmL_len f s m.toNat (m.toNat + 1)
    omega
  · simp
def TB (f s : Int) (M p : Nat) (LB : List Bool) : Prop := LB.length = (M + 1) * 169 ∧ ∀ c, c < (M + 1) * 169 → (LB.getD c false = true ↔ Rb f s M p c)
def TBw (f s : Int) (M p w : Nat) (LB : List Bool) : Prop := LB.length = (M + 1) * 169 ∧ ∀ c, c < (M + 1) * 169 → (LB.getD c false = true ↔ Rb f s M p c ∨ ∃ w', w' < w ∧ Nx f s M p w' c)
theorem TB.skip {f s : Int} {M p : Nat} {LB : List Bool} (h : TB f s M p LB) (hn : ¬ Re f s M p) : TB f s M (p + 1) LB := by
  refine ⟨h.1, fun c hc => (h.2 c hc).trans ⟨fun h => ?_, fun h => ?_⟩⟩
  · rcases h with h | ⟨b, hb, r⟩
    · exact .inl h
    · exact .inr ⟨b, by omega, r⟩
  · rcases h with h | ⟨b, hb, r⟩
    · exact .inl h
    · by_cases e : b = p
      · subst e; exact absurd r.1 hn
      · exact .inr ⟨b, by omega, r⟩
theorem TB.start {f s : Int} {M p : Nat} {LB : List Bool} (h : TB f s M p LB) : TBw f s M p 0 LB :=
  ⟨h.1, fun c hc => (h.2 c hc).trans ⟨.inl, fun h => h.elim id fun ⟨w, hw, _⟩ => by omega⟩⟩
theorem TBw.done {f s : Int} {M p : Nat} {LB : List Bool} (h : TBw f s M p 4 LB) (hr : Re f s M p) : TB f s M (p + 1) LB := by
  refine ⟨h.1, fun c hc => (h.2 c hc).trans ⟨fun h => ?_, fun h => ?_⟩⟩
  · rcases h with (h | ⟨b, hb, r⟩) | ⟨w, hw, hn⟩
    · exact .inl h
    · exact .inr ⟨b, by omega, r⟩
    · exact .inr ⟨p, by omega, hr, w, by omega, hn⟩
  · rcases h with h | ⟨b, hb, r⟩
    · exact .inl (.inl h)
    · by_cases e : b = p
      · subst e
        obtain ⟨_, w, hw, hn⟩ := r
        exact .inr ⟨w, by omega, hn⟩
      · exact .inl (.inr ⟨b, by omega, r⟩)
theorem TBw.skip {f s : Int} {M p w : Nat} {LB : List Bool} (h : TBw f s M p w LB) (hn : ∀ d, ¬ Nx f s M p w d) : TBw f s M p (w + 1) LB := by
  refine ⟨h.1, fun c hc => (h.2 c hc).trans ⟨fun h => h.imp id fun ⟨w', hw, r⟩ => ⟨w', by omega, r⟩, fun h => h.imp id fun ⟨w', hw, r⟩ => ?_⟩⟩
  by_cases e : w' = w
  · subst e; exact absurd r (hn c)
  · exact ⟨w', by omega, r⟩
theorem TBw.set {f s : Int} {M p w d : Nat} {LB : List Bool} (h : TBw f s M p w LB) (hn : Nx f s M p w d) (hd : d < (M + 1) * 169) : TBw f s M p (w + 1) (LB.set d true) := by
  refine ⟨by rw [List.length_set]; exact h.1, fun c hc => ?_⟩
  rw [List.getD_eq_getElem?_getD, List.getElem?_set]
  by_cases e : d = c
  · subst e
    rw [if_pos rfl, if_pos (by rw [h.1]; exact hd)]
    exact ⟨fun _ => .inr ⟨w, by omega, hn⟩, fun _ => rfl⟩
  · rw [if_neg e, ← List.getD_eq_getElem?_getD]
    refine (h.2 c hc).trans ⟨fun h => h.imp id fun ⟨w', hw, r⟩ => ⟨w', by omega, r⟩, fun h => h.imp id fun ⟨w', hw, r⟩ => ?_⟩
    by_cases x : w' = w
    · subst x; exact absurd (nx_fun hn r) e
    · exact ⟨w', by omega, r⟩
theorem tb_zero {f s : Int} {M : Nat} : TB f s M 0 ((List.replicate ((M + 1) * 169) false).set 0 true) := by
  refine ⟨by simp, fun c hc => ?_⟩
  rw [List.getD_eq_getElem?_getD, List.getElem?_set]
  by_cases e : 0 = c
  · subst e
    rw [if_pos rfl, if_pos (by rw [List.length_replicate]; exact hc)]
    exact ⟨fun _ => .inl rfl, fun _ => rfl⟩
  · rw [if_neg e, List.getElem?_replicate, if_pos hc]
    refine ⟨fun h => by simp at h, fun h => ?_⟩
    rcases h with h | ⟨b, hb, _⟩
    · exact absurd h.symm e
    · omega
theorem nx_size {f s : Int} {M p w d : Nat} (h : Nx f s M p w d) : d < (M + 1) * 169 := by
  have := (nx_lt h).2.1
  have := code_eq d
  have := uv_bd d
  omega
open Classical in
/-- Is a state of time t, below the k-th, reached? -/
noncomputable def fnd (f s : Int) (M t k : Nat) : Bool := decide (∃ j, j < k ∧ Re f s M (t * 169 + j))
open Classical in
theorem fnd_zero (f s : Int) (M t : Nat) : fnd f s M t 0 = false := by
  rw [fnd, decide_eq_false]; rintro ⟨j, hj, _⟩; omega
open Classical in
theorem fnd_yes {f s : Int} {M t k : Nat} (h : Re f s M (t * 169 + k)) : fnd f s M t (k + 1) = true := by
  rw [fnd, decide_eq_true]; exact ⟨k, by omega, h⟩
open Classical in
theorem fnd_no {f s : Int} {M t k : Nat} (h : ¬ Re f s M (t * 169 + k)) : fnd f s M t (k + 1) = fnd f s M t k := by
  rw [fnd, fnd]
  refine decide_eq_decide.2 ?_
  refine ⟨fun ⟨j, hj, r⟩ => ?_, fun ⟨j, hj, r⟩ => ⟨j, by omega, r⟩⟩
  by_cases e : j = k
  · subst e; exact absurd r h
  · exact ⟨j, by omega, r⟩
open Classical in
theorem fnd_at {f s : Int} {M t : Nat} : fnd f s M t 169 = true ↔ At f s M t := by
  rw [fnd, decide_eq_true_iff]
  constructor
  · rintro ⟨j, hj, r⟩
    exact ⟨_, by unfold tc; omega, r⟩
  · rintro ⟨c, hc, r⟩
    refine ⟨c % 169, by omega, ?_⟩
    have : t * 169 + c % 169 = c := by unfold tc at hc; omega
    rw [this]; exact r
theorem bool_info : (Try.prog.info? 4).map (fun i => (i.zero, i.size, i.bytes)) = some (some (.bool false), 1, 1) := by kernel_rfl
open Classical in
theorem tm_step {f s : Int} {M t : Nat} : tmL f s M (t + 1) = tmL f s M t ++ (if (fnd f s M t 169 && decide (0 < t)) = true then [(t : Int)] else []) := by
  rw [tmL]
  refine congrArg (tmL f s M t ++ ·) ?_
  by_cases h : 1 ≤ t ∧ At f s M t
  · rw [if_pos h, if_pos (by rw [fnd_at.2 h.2, decide_eq_true (by omega)]; rfl)]
  · rw [if_neg h, if_neg]
    intro h2
    rw [Bool.and_eq_true] at h2
    exact h ⟨by have := of_decide_eq_true h2.2; omega, fnd_at.1 h2.1⟩
theorem boolrow_at {B : Nat} {w : World} {g n cap : Nat} {LB : List Bool} (h : w.ownsRow B 4 1 (.slice (some ⟨g, 0, none⟩) n cap) n (LB.map Value.bool)) (hl : LB.length = n) {c : Nat} (hc : c < n) :
    w.cell? ⟨g, c, none⟩ = some (.bool (LB.getD c false)) ∧ w.frozen? ⟨g, c, none⟩ = false ∧ (w.setCell ⟨g, c, none⟩ (.bool true)).ownsRow B 4 1 (.slice (some ⟨g, 0, none⟩) n cap) n ((LB.set c true).map Value.bool) ∧ w.grownBy (w.setCell ⟨g, c, none⟩ (.bool true)) (some g) := by
  have hs := World.ownsRow.stored h c (.bool true)
  refine ⟨?_, World.ownsRow.frozenAt h c, ?_, hs.2⟩
  · rw [World.ownsRow.cellAt h c (by omega), List.getElem?_map, List.getElem?_eq_getElem (by omega), List.getD_eq_getElem?_getD, List.getElem?_eq_getElem (by omega)]; rfl
  · rw [List.map_set]; exact hs.1
end Go.Proofs.Ytpafcambfmkmiaa
