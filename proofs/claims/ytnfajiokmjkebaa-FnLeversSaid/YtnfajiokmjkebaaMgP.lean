/- MergeHangs: the plain law. -/
import Derived.Test.YtnfajiokmjkebaaBeam
import Derived.Maps.RangeWalk
import Derived.Maps.Views
import Derived.Maps.OwnOps
set_option linter.unusedVariables false
namespace Go.Proofs.Ytnfajiokmjkebaa
open Go.RowKit Go.Maps
/-- The weight at a place among the first hangs. -/
def wtK (xs : List (Int × Int)) (p : Int) : Nat → Int
  | 0 => 0
  | k + 1 => if pA xs k = p then wtK xs p k + pB xs k else wtK xs p k
def thK (xs : List (Int × Int)) (p : Int) : Nat → Bool
  | 0 => false
  | k + 1 => thK xs p k || pA xs k == p
theorem beam_at {xs : List (Int × Int)} (h : beamB xs = true) {k : Nat} (hk : k < xs.length) : (-100 ≤ pA xs k ∧ pA xs k ≤ 100) ∧ 0 ≤ pB xs k ∧ pB xs k ≤ 1000 := by
  have := (beamB_iff.1 h).1 k hk
  obtain ⟨a, b⟩ := Bool.and_eq_true_iff.1 this
  exact ⟨inB_true.1 a, inB_true.1 b⟩
theorem wtK_bd {xs : List (Int × Int)} (h : beamB xs = true) (p : Int) : ∀ k, k ≤ xs.length → 0 ≤ wtK xs p k ∧ wtK xs p k ≤ 1000 * (k : Int) := by
  intro k
  induction k with
  | zero => intro _; simp [wtK]
  | succ k ih =>
    intro hk
    have a := ih (by omega)
    have b := beam_at h (k := k) (by omega)
    rw [wtK]; split <;> omega
theorem thK_place {xs : List (Int × Int)} (h : beamB xs = true) {p : Int} : ∀ k, k ≤ xs.length → thK xs p k = true → -100 ≤ p ∧ p ≤ 100 := by
  intro k
  induction k with
  | zero => intro _ e; cases e
  | succ k ih =>
    intro hk e
    simp only [thK, Bool.or_eq_true, beq_iff_eq] at e
    rcases e with e | e
    · exact ih (by omega) e
    · rw [← e]; exact (beam_at h (by omega)).1
theorem wtK_none {xs : List (Int × Int)} {p : Int} : ∀ k, thK xs p k = false → wtK xs p k = 0 := by
  intro k
  induction k with
  | zero => intro _; rfl
  | succ k ih =>
    intro e
    simp only [thK, Bool.or_eq_false_iff, beq_eq_false_iff_ne] at e
    rw [wtK, if_neg e.2, ih e.1]
/-- The reference: the places in order. -/
def mgL (xs : List (Int × Int)) (n : Nat) : Nat → List (Int × Int)
  | 0 => []
  | i + 1 => mgL xs n i ++ (if thK xs ((i : Int) - 100) n then [((i : Int) - 100, wtK xs ((i : Int) - 100) n)] else [])
def okK (xs : List (Int × Int)) (n i : Nat) : Prop := ∀ j, j < i → wtK xs ((j : Int) - 100) n ≤ 1000
instance (xs : List (Int × Int)) (n i : Nat) : Decidable (okK xs n i) := by unfold okK; exact inferInstance
def mgM (xs : List (Int × Int)) : List (Int × Int) := if beamB xs = true ∧ okK xs xs.length 201 then mgL xs xs.length 201 else []
theorem mgL_len (xs : List (Int × Int)) (n : Nat) : ∀ i, (mgL xs n i).length ≤ i := by
  intro i
  induction i with
  | zero => exact Nat.le_refl _
  | succ i ih => rw [mgL, List.length_append]; split <;> simp <;> omega
theorem mgM_length (xs : List (Int × Int)) : (mgM xs).length ≤ 201 := by
  rw [mgM]; split
  · exact mgL_len _ _ _
  · simp
theorem mem_mgL {xs : List (Int × Int)} {n : Nat} {x : Int × Int} : ∀ i, x ∈ mgL xs n i ↔ (-100 ≤ x.1 ∧ x.1 < (i : Int) - 100) ∧ thK xs x.1 n = true ∧ x.2 = wtK xs x.1 n := by
  intro i
  induction i with
  | zero => simp [mgL]; omega
  | succ i ih =>
    rw [mgL, List.mem_append, ih]
    constructor
    · rintro (⟨h1, h2, h3⟩ | h)
      · exact ⟨by omega, h2, h3⟩
      · split at h
        · rename_i ht
          rw [List.mem_singleton] at h
          subst h
          exact ⟨by dsimp only; omega, ht, rfl⟩
        · cases h
    · rintro ⟨h1, h2, h3⟩
      by_cases e : x.1 = (i : Int) - 100
      · refine .inr ?_
        rw [← e, if_pos h2, List.mem_singleton, ← h3]
      · exact .inl ⟨by omega, h2, h3⟩
theorem mgL_sorted (xs : List (Int × Int)) (n : Nat) : ∀ i, (mgL xs n i).Pairwise (fun a b => a.1 < b.1) := by
  intro i
  induction i with
  | zero => exact List.Pairwise.nil
  | succ i ih =>
    rw [mgL, List.pairwise_append]
    refine ⟨ih, ?_, fun a ha b hb => ?_⟩
    · split
      · exact List.pairwise_singleton _ _
      · exact List.Pairwise.nil
    · have := ((mem_mgL i).1 ha).1
      split at hb
      · rw [List.mem_singleton] at hb
        subst hb
        dsimp only; omega
      · cases hb
theorem sorted_eq : ∀ (l m : List (Int × Int)), l.Pairwise (fun a b => a.1 < b.1) → m.Pairwise (fun a b => a.1 < b.1) → (∀ x, x ∈ l ↔ x ∈ m) → l = m := by
  intro l
  induction l with
  | nil =>
    intro m _ _ h
    cases m with
    | nil => rfl
    | cons b m => have := (h b).2 (by simp); cases this
  | cons a l ih =>
    intro m h1 h2 h
    cases m with
    | nil => have := (h a).1 (by simp); cases this
    | cons b m =>
      rw [List.pairwise_cons] at h1 h2
      have e : a = b := by
        rcases List.mem_cons.1 ((h a).1 (by simp)) with e | e
        · exact e
        · rcases List.mem_cons.1 ((h b).2 (by simp)) with e' | e'
          · exact e'.symm
          · have := h2.1 a e
            have := h1.1 b e'
            omega
      subst e
      refine congrArg _ (ih m h1.2 h2.2 fun x => ⟨fun hx => ?_, fun hx => ?_⟩)
      · rcases List.mem_cons.1 ((h x).1 (List.mem_cons_of_mem _ hx)) with e | e
        · subst e; have := h1.1 x hx; omega
        · exact e
      · rcases List.mem_cons.1 ((h x).2 (List.mem_cons_of_mem _ hx)) with e | e
        · subst e; have := h2.1 x hx; omega
        · exact e
/-! ### The map as read -/
def ikey (p : Int) : Lit := .int .i64 p
theorem ikey_lit (p : Int) : WideAt.IsKeyLit (ikey p) := trivial
def Ds (xs : List (Int × Int)) : Nat → DataW Unit
  | 0 => .map []
  | k + 1 => (Ds xs k).put (ikey (pA xs k)) (.lit (.int .i64 (wtK xs (pA xs k) (k + 1))))
theorem ds_map (xs : List (Int × Int)) (k : Nat) : IsMap (Ds xs k) := by
  induction k with
  | zero => exact isMap_empty
  | succ k ih => exact ih.put _ _
theorem ds_has (xs : List (Int × Int)) (p : Int) : ∀ k, Maps.has (Ds xs k) (ikey p) = thK xs p k := by
  intro k
  induction k with
  | zero => rfl
  | succ k ih =>
    rw [Ds, thK]
    by_cases e : pA xs k = p
    · rw [e, has_put_same (ds_map xs k) (ikey_lit p)]; simp
    · rw [has_put_other (by unfold ikey; intro h; injection h with _ h; exact e h.symm), ih, beq_eq_false_iff_ne.2 e, Bool.or_false]
theorem ds_at (xs : List (Int × Int)) (p : Int) : ∀ k, (Ds xs k).atKey (ikey p) (.lit (.int .i64 0)) = .lit (.int .i64 (wtK xs p k)) := by
  intro k
  induction k with
  | zero => rfl
  | succ k ih =>
    rw [Ds]
    by_cases e : pA xs k = p
    · rw [e, atKey_put_same (ds_map xs k) (ikey_lit p)]
    · rw [atKey_put_other (by unfold ikey; intro h; injection h with _ h; exact e h.symm), ih, wtK, if_neg e]
/-- What has been gathered while the range is under way. -/
structure MgI (xs : List (Int × Int)) (left : Lit → Bool) (Ls : List (Int × Int)) : Prop where
  mem : ∀ x ∈ Ls, thK xs x.1 xs.length = true ∧ left (ikey x.1) = false ∧ x.2 = wtK xs x.1 xs.length ∧ x.2 ≤ 1000
  nd : (Ls.map (·.1)).Nodup
  all : ∀ p, thK xs p xs.length = true → left (ikey p) = false → ∃ x ∈ Ls, x.1 = p
theorem mgi_start (xs : List (Int × Int)) : MgI xs (Maps.has (Ds xs xs.length)) [] :=
  { mem := fun x hx => absurd hx (by simp)
    nd := List.nodup_nil
    all := fun p h1 h2 => by rw [ds_has, h1] at h2; cases h2 }
theorem MgI.step {xs : List (Int × Int)} {left : Lit → Bool} {Ls : List (Int × Int)} (h : MgI xs left Ls) {p c : Int} (hl : left (ikey p) = true) (ht : thK xs p xs.length = true) (hc : c = wtK xs p xs.length) (h1 : c ≤ 1000) :
    MgI xs (fun z => left z && !z.sameKey (ikey p)) (Ls ++ [(p, c)]) := by
  have hs : ∀ q : Int, (ikey q).sameKey (ikey p) = decide (q = p) := fun q => by
    by_cases e : q = p
    · subst e; rw [decide_eq_true rfl]; exact WideAt.sameKey_self (ikey_lit q)
    · rw [decide_eq_false e]; exact sameKey_ne (by unfold ikey; intro h; injection h with _ h; exact e h)
  refine ⟨fun x hx => ?_, ?_, fun q h2 h3 => ?_⟩
  · rcases List.mem_append.1 hx with hx | hx
    · obtain ⟨a, b, c', d⟩ := h.mem x hx
      exact ⟨a, by rw [b]; rfl, c', d⟩
    · rw [List.mem_singleton] at hx
      subst hx
      exact ⟨ht, by rw [hs, decide_eq_true rfl]; simp, hc, h1⟩
  · rw [List.map_append, List.nodup_append]
    refine ⟨h.nd, by simp, fun a ha b hb => ?_⟩
    simp only [List.map_cons, List.map_nil, List.mem_singleton] at hb
    subst hb
    intro e
    subst e
    obtain ⟨x, hx, e⟩ := List.mem_map.1 ha
    have := (h.mem x hx).2.1
    rw [e, hl] at this
    cases this
  · rw [hs] at h3
    by_cases e : q = p
    · exact ⟨(p, c), by simp, e.symm⟩
    · rw [decide_eq_false e] at h3
      obtain ⟨x, hx, e2⟩ := h.all q h2 (by simpa using h3)
      exact ⟨x, List.mem_append_left _ hx, e2⟩
theorem MgI.done {xs : List (Int × Int)} {left : Lit → Bool} {Ls Ms : List (Int × Int)} (hb : beamB xs = true) (h : MgI xs left Ls) (hl : ∀ k, left k = false) (hp : ∀ x, x ∈ Ms ↔ x ∈ Ls) (hs : Ms.Pairwise (fun a b => a.1 < b.1)) : mgM xs = Ms := by
  have hok : okK xs xs.length 201 := fun j hj => by
    cases ht : thK xs ((j : Int) - 100) xs.length with
    | false => rw [wtK_none _ ht]; omega
    | true =>
      obtain ⟨x, hx, e⟩ := h.all _ ht (hl _)
      have := h.mem x hx
      rw [← e, ← this.2.2.1]; exact this.2.2.2
  rw [mgM, if_pos ⟨hb, hok⟩]
  refine sorted_eq _ _ (mgL_sorted _ _ _) hs fun x => ?_
  rw [hp, mem_mgL]
  constructor
  · rintro ⟨h1, h2, h3⟩
    obtain ⟨y, hy, e⟩ := h.all _ h2 (hl _)
    have := (h.mem y hy).2.2.1
    rw [e, ← h3] at this
    have : y = x := Prod.ext e this
    rw [← this]; exact hy
  · intro hx
    obtain ⟨a, b, c, d⟩ := h.mem x hx
    have := thK_place hb _ (Nat.le_refl _) a
    exact ⟨by omega, a, c⟩
theorem mg_over {xs : List (Int × Int)} (hb : beamB xs = true) {p : Int} (ht : thK xs p xs.length = true) (h : 1000 < wtK xs p xs.length) : mgM xs = [] := by
  have := thK_place hb _ (Nat.le_refl _) ht
  rw [mgM, if_neg]
  rintro ⟨_, hok⟩
  have h2 := hok (p + 100).toNat (by omega)
  rw [show (((p + 100).toNat : Nat) : Int) - 100 = p by omega] at h2
  omega
/-- Rising by places without two at one place: strictly. -/
theorem strict_of {Ms : List (Int × Int)} (hs : Ms.Pairwise (fun a b => ¬ b.1 < a.1)) (hn : (Ms.map (·.1)).Nodup) : Ms.Pairwise (fun a b => a.1 < b.1) := by
  rw [List.Nodup, List.pairwise_map] at hn
  exact (hs.and hn).imp fun ⟨a, b⟩ => by omega
end Go.Proofs.Ytnfajiokmjkebaa
