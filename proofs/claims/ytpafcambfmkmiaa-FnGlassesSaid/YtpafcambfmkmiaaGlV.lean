/- TimesWith: what is gathered from the times met, and its sorting. -/
import Derived.Test.YtpafcambfmkmiaaGlW
set_option linter.unusedVariables false
namespace Go.Proofs.Ytpafcambfmkmiaa
open Go.RowKit Go.Maps
def srtG (l : List Int) : List Int := l.mergeSort fun x y => decide (x ≤ y)
theorem srtG_length (l : List Int) : (srtG l).length = l.length := (List.mergeSort_perm l _).length_eq
theorem srtG_mem (l : List Int) (x : Int) : x ∈ srtG l ↔ x ∈ l := (List.mergeSort_perm l _).mem_iff
theorem srtG_strict {l : List Int} (h : l.Nodup) : (srtG l).Pairwise (fun a b => a < b) := by
  have h1 : (srtG l).Pairwise (fun a b => decide (a ≤ b) = true) := List.pairwise_mergeSort (fun a b c h1 h2 => by simp at *; omega) (fun a b => by simp; omega) l
  have h2 : (srtG l).Nodup := (List.mergeSort_perm l _).nodup_iff.2 h
  have h3 := h1.and h2
  exact h3.imp (fun {a b} h => by have := h.1; have := h.2; simp at *; omega)
theorem strict_eq : ∀ (l m : List Int), l.Pairwise (fun a b => a < b) → m.Pairwise (fun a b => a < b) → (∀ x, x ∈ l ↔ x ∈ m) → l = m := by
  intro l
  induction l with
  | nil =>
    intro m _ _ h
    cases m with
    | nil => rfl
    | cons b m => have := (h b).2 (by simp); cases this
  | cons a l ih =>
    intro m h1 h2 h
    cases m with
    | nil => have := (h a).1 (by simp); cases this
    | cons b m =>
      obtain ⟨p1, p2⟩ := List.pairwise_cons.1 h1
      obtain ⟨q1, q2⟩ := List.pairwise_cons.1 h2
      have e : a = b := by
        rcases List.mem_cons.1 ((h a).1 (by simp)) with e | hm
        · exact e
        · rcases List.mem_cons.1 ((h b).2 (by simp)) with e | hm'
          · exact e.symm
          · have := q1 a hm; have := p1 b hm'; omega
      subst e
      rw [ih m p2 q2 fun x => ?_]
      constructor
      · intro hx
        rcases List.mem_cons.1 ((h x).1 (List.mem_cons_of_mem _ hx)) with e | hm
        · have := p1 x hx; omega
        · exact hm
      · intro hx
        rcases List.mem_cons.1 ((h x).2 (List.mem_cons_of_mem _ hx)) with e | hm
        · have := q1 x hx; omega
        · exact hm
theorem mem_tmL {f s : Int} {M : Nat} {x : Int} : ∀ t, x ∈ tmL f s M t ↔ ∃ k, k < t ∧ 1 ≤ k ∧ At f s M k ∧ (k : Int) = x := by
  intro t
  induction t with
  | zero => simp [tmL]
  | succ t ih =>
    rw [tmL, List.mem_append, ih]
    constructor
    · rintro (⟨k, h1, h2⟩ | h)
      · exact ⟨k, by omega, h2⟩
      · split at h
        · rename_i hc
          rw [List.mem_singleton] at h
          exact ⟨t, by omega, hc.1, hc.2, h.symm⟩
        · cases h
    · rintro ⟨k, h1, h2, h3, h4⟩
      by_cases e : k = t
      · subst e
        right
        rw [if_pos ⟨h2, h3⟩, List.mem_singleton]; exact h4.symm
      · exact .inl ⟨k, by omega, h2, h3, h4⟩
theorem tmL_strict (f s : Int) (M : Nat) : ∀ t, (tmL f s M t).Pairwise (fun a b => a < b) := by
  intro t
  induction t with
  | zero => exact List.Pairwise.nil
  | succ t ih =>
    rw [tmL, List.pairwise_append]
    refine ⟨ih, by split <;> simp, fun a ha b hb => ?_⟩
    obtain ⟨k, h1, _, _, h4⟩ := (mem_tmL t).1 ha
    split at hb
    · rw [List.mem_singleton] at hb; omega
    · cases hb
/-- What has been gathered while the range is under way. -/
structure GI (T : List Nat) (left : Lit → Bool) (Ls : List Int) : Prop where
  mem : ∀ x ∈ Ls, (∃ t ∈ T, (t : Int) = x) ∧ left (ikey x) = false
  nd : Ls.Nodup
  all : ∀ p, (∃ t ∈ T, (t : Int) = p) → left (ikey p) = false → p ∈ Ls
theorem gi_start (T : List Nat) : GI T (Maps.has (DT T)) [] :=
  { mem := fun x hx => absurd hx (by simp)
    nd := List.nodup_nil
    all := fun p h1 h2 => by rw [dt_has, decide_eq_true h1] at h2; cases h2 }
theorem GI.step {T : List Nat} {left : Lit → Bool} {Ls : List Int} (h : GI T left Ls) {p : Int} (hl : left (ikey p) = true) (ht : ∃ t ∈ T, (t : Int) = p) :
    GI T (fun z => left z && !z.sameKey (ikey p)) (Ls ++ [p]) := by
  have hs : ∀ q : Int, (ikey q).sameKey (ikey p) = decide (q = p) := fun q => by
    by_cases e : q = p
    · subst e; rw [decide_eq_true rfl]; exact WideAt.sameKey_self (ikey_lit q)
    · rw [decide_eq_false e]; exact sameKey_ne (by unfold ikey; intro h; injection h with _ h; exact e h)
  refine ⟨fun x hx => ?_, ?_, fun q h2 h3 => ?_⟩
  · rcases List.mem_append.1 hx with hx | hx
    · obtain ⟨a, b⟩ := h.mem x hx
      exact ⟨a, by rw [b]; rfl⟩
    · rw [List.mem_singleton] at hx
      subst hx
      exact ⟨ht, by rw [hs, decide_eq_true rfl]; simp⟩
  · rw [List.nodup_append]
    refine ⟨h.nd, by simp, fun a ha b hb => ?_⟩
    rw [List.mem_singleton] at hb
    subst hb
    rintro rfl
    have := (h.mem a ha).2
    rw [hl] at this; cases this
  · simp only [Bool.and_eq_false_iff] at h3
    rw [hs] at h3
    by_cases e : q = p
    · subst e; simp
    · rw [decide_eq_false e] at h3
      exact List.mem_append_left _ (h.all q h2 (by simpa using h3))
theorem GI.done {f s : Int} {M : Nat} {T : List Nat} {left : Lit → Bool} {Ls : List Int} (h : GI T left Ls) (hl : ∀ k, left k = false) (hT : ∀ t, t ∈ T ↔ 1 ≤ t ∧ At f s M t) : tmL f s M (M + 1) = srtG Ls := by
  refine strict_eq _ _ (tmL_strict _ _ _ _) (srtG_strict h.nd) fun x => ?_
  rw [srtG_mem, mem_tmL]
  constructor
  · rintro ⟨k, h1, h2, h3, h4⟩
    exact h.all x ⟨k, (hT k).2 ⟨h2, h3⟩, h4⟩ (hl _)
  · intro hx
    obtain ⟨⟨t, ht, e⟩, _⟩ := h.mem x hx
    obtain ⟨h1, h2⟩ := (hT t).1 ht
    refine ⟨t, ?_, h1, h2, e⟩
    obtain ⟨c, hc, hr⟩ := h2
    have := hr.le
    omega
open Go.Sort in
theorem sortG_any (w : World) (B : Nat) (v : Value) (L : List Int) (h : OwI B w v L) (hs : L.length ≤ 1048576) :
    Calls Try.prog 30 #[v] w fun e w' => e = .returned (.tuple #[]) ∧ OwI B w' v (srtG L) ∧ w.grownBy w' v.ownBlock := by
  rcases id h.2 with ⟨rfl, h0⟩ | ⟨g', cap', cur, rfl, hg, hb, h1, h2, h3, h4⟩
  · have hL : L = [] := by simpa using h0
    subst hL
    refine (Try.sort_Ints_none none 0 w).mono ?_
    rintro e w' ⟨rfl, rfl⟩
    exact ⟨rfl, by simpa [srtG] using h, World.grownBy.refl _ _⟩
  · have hlt : g' < w.heap.size := (Array.getElem?_eq_some_iff.1 hb).1
    have hH : Holds (Value.int .i64) w g' 0 L.toArray := Go.holds_of_blockI hb (by simpa using h4)
    refine (Try.sort_Ints g' 0 cap' L w hH hlt (by omega)).mono ?_
    rintro e w' ⟨rfl, n, os, rfl⟩
    refine ⟨rfl, ?_, Go.grownBy_sortedI _⟩
    have := Go.ownsRow_sortedI (n := n) (os := os) (ts := srtG L) (ss := L) (base := B) (e := 3) (srtG_length L) hg hb h1 h2 (by simpa using h3)
    unfold OwI
    rw [srtG_length]
    exact this
end Go.Proofs.Ytpafcambfmkmiaa
