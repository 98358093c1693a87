/- Plain laws for FnCircles: turning, stretching, the sum of the arcs. -/
import Derived.Test.YtoobpkcnmgjccaaCircP
set_option linter.unusedVariables false
namespace Go.Proofs.Ytoobpkcnmgjccaa

theorem asc_pw {xs : List Int} (h : ascB xs = true) : xs.Pairwise (fun a b => a < b) := by
  rw [List.pairwise_iff_getElem]
  intro i j hi hj hij
  have := asc_inj h i j hij hj
  rw [List.getD_eq_getElem?_getD, List.getElem?_eq_getElem hi, List.getD_eq_getElem?_getD, List.getElem?_eq_getElem hj] at this
  exact this
theorem lt_asc {xs : List Int} (h : xs.Pairwise (fun a b => a < b)) : ascB xs = true := by
  rw [ascB_iff]
  intro j hj
  rw [List.pairwise_iff_getElem] at h
  have := h j (j + 1) (by omega) hj (by omega)
  rw [List.getD_eq_getElem?_getD, List.getElem?_eq_getElem (by omega), List.getD_eq_getElem?_getD, List.getElem?_eq_getElem hj]
  exact this
theorem allB_mem {lo hi : Int} {xs : List Int} : allB lo hi xs = true ↔ ∀ x ∈ xs, lo ≤ x ∧ x ≤ hi := by
  rw [allB_iff]
  constructor
  · intro h x hx
    obtain ⟨j, hj, rfl⟩ := List.mem_iff_getElem.1 hx
    have := h j hj
    rw [List.getD_eq_getElem?_getD, List.getElem?_eq_getElem hj] at this
    exact this
  · intro h j hj
    rw [List.getD_eq_getElem?_getD, List.getElem?_eq_getElem hj]
    exact h _ (List.getElem_mem _)
theorem srt_perm (l : List Int) : (srt l).Perm l := List.mergeSort_perm _ _
theorem circ_move {N : Int} {xs : List Int} (h : circB N xs = true) {f : Int → Int} (hf : ∀ x ∈ xs, ∀ y ∈ xs, f x = f y → x = y) (hr : ∀ x ∈ xs, 0 ≤ f x ∧ f x ≤ N - 1) : circB N (srt (xs.map f)) = true := by
  obtain ⟨h1, h2, h3, h4⟩ := circB_bd h
  have hp : (srt (xs.map f)).Perm (xs.map f) := List.mergeSort_perm _ _
  have hne : (xs.map f).Pairwise (fun a b => a ≠ b) := by
    rw [List.pairwise_map]
    refine (asc_pw h3).imp_of_mem fun {a b} ha hb hlt e => ?_
    have := hf a ha b hb e
    omega
  have hne2 : (srt (xs.map f)).Pairwise (fun a b => a ≠ b) := (hp.pairwise_iff (fun h e => h e.symm)).2 hne
  have hle : (srt (xs.map f)).Pairwise (fun a b => leI a b = true) := List.pairwise_mergeSort leI_tr leI_to _
  have hlt : (srt (xs.map f)).Pairwise (fun a b => a < b) := (hle.and hne2).imp fun {a b} h => by
    have h5 := h.1; have h6 := h.2
    simp [leI] at h5; omega
  simp only [circB, Bool.and_eq_true]
  refine ⟨⟨⟨inB_true.2 h1, inB_true.2 (by rw [srt_length, List.length_map]; omega)⟩, lt_asc hlt⟩, allB_mem.2 fun x hx => ?_⟩
  obtain ⟨y, hy, rfl⟩ := List.mem_map.1 (hp.mem_iff.1 hx)
  exact hr y hy
theorem arcD_turn {N : Nat} (hN : 1 ≤ N) (q x y : Int) : arcD N ((x + q) % N) ((y + q) % N) = arcD N x y := by
  unfold arcD
  congr 1
  rw [← Int.sub_emod]
  congr 1
  omega
theorem mod_inj {N : Nat} {x y : Int} (hx : 0 ≤ x ∧ x ≤ (N : Int) - 1) (hy : 0 ≤ y ∧ y ≤ (N : Int) - 1) {q : Int} (h : (x + q) % (N : Int) = (y + q) % N) : x = y := by
  have h1 : ((x + q) - (y + q)) % (N : Int) = 0 := Int.emod_eq_emod_iff_emod_sub_eq_zero.1 h
  rw [show (x + q) - (y + q) = x - y by omega] at h1
  obtain ⟨k, hk⟩ := Int.dvd_of_emod_eq_zero h1
  have hN : (0 : Int) < N := by omega
  rcases (by omega : k ≤ -1 ∨ k = 0 ∨ 1 ≤ k) with h2 | h2 | h2
  · have : (N : Int) * k ≤ (N : Int) * (-1) := Int.mul_le_mul_of_nonneg_left h2 (by omega)
    omega
  · subst h2; omega
  · have : (N : Int) * 1 ≤ (N : Int) * k := Int.mul_le_mul_of_nonneg_left h2 (by omega)
    omega
theorem turn_circ {N : Nat} {q : Int} {xs : List Int} (h : circB (N : Int) xs = true) (hq : inB q 0 ((N : Int) - 1) = true) : tmL N q xs = srt (xs.map fun m => (m + q) % N) ∧ circB (N : Int) (tmL N q xs) = true := by
  have hb := circB_bd h
  have hm := allB_mem.1 hb.2.2.2
  have e : tmL N q xs = srt (xs.map fun m => (m + q) % N) := by rw [tmL, if_pos (by rw [tmOk, h, hq]; rfl)]
  refine ⟨e, ?_⟩
  rw [e]
  refine circ_move h (fun x hx y hy he => mod_inj (hm x hx) (hm y hy) he) fun x hx => ?_
  have h1 := Int.emod_nonneg (x + q) (show (N : Int) ≠ 0 by omega)
  have h2 := Int.emod_lt_of_pos (x + q) (show (0 : Int) < N by omega)
  omega
theorem list_ext {l m : List Int} (hl : l.length = m.length) (h : ∀ a, a < l.length → l.getD a 0 = m.getD a 0) : l = m := by
  refine List.ext_getElem hl fun i h1 h2 => ?_
  have := h i h1
  rw [List.getD_eq_getElem?_getD, List.getElem?_eq_getElem h1, List.getD_eq_getElem?_getD, List.getElem?_eq_getElem h2] at this
  exact this
/-- A turned circle has the same arcs. -/
theorem turn_arcs {N : Nat} {q : Int} {xs : List Int} (h : circB (N : Int) xs = true) (hq : inB q 0 ((N : Int) - 1) = true) : arcs (N : Int) (tmL N q xs) = arcs (N : Int) xs := by
  obtain ⟨e, ht⟩ := turn_circ h hq
  have hb := circB_bd h
  have hm := allB_mem.1 hb.2.2.2
  refine list_ext (by rw [arcs_length ht, arcs_length h]) fun a ha => ?_
  rw [arcs_length ht] at ha
  rw [arcs_cnt ht ha, arcs_cnt h ha, e, cntP_perm (srt_perm _)]
  have := cntP_map (N := N) (xs := xs) (f := fun m => (m + q) % N) (g := fun a => a) (fun x hx y hy he => mod_inj (hm x hx) (hm y hy) he) (fun x _ y _ => arcD_turn (by omega) q x y) (fun b c _ _ h => h) (by omega) ha
  rw [this]
theorem dsB_turn {N : Nat} {q : Int} {xs : List Int} (h : circB (N : Int) xs = true) (hq : inB q 0 ((N : Int) - 1) = true) : dsB (N : Int) (tmL N q xs) = dsB (N : Int) xs := by
  rw [dsB, dsB, turn_arcs h hq]
theorem dsB_iff {N : Nat} {xs : List Int} (h : circB (N : Int) xs = true) : dsB (N : Int) xs = true ↔ 1 < N ∧ ∀ a, 1 ≤ a → a < N → cntP N xs a = 1 := by
  rw [dsB, Bool.and_eq_true, restB_iff, arcs_length h, decide_eq_true_eq]
  constructor
  · rintro ⟨h1, h2⟩
    refine ⟨h1, fun a h3 h4 => ?_⟩
    obtain ⟨j, rfl⟩ : ∃ j, a = j + 1 := ⟨a - 1, by omega⟩
    have := h2 j h4
    rw [arcs_cnt h h4] at this
    have h5 := eq_of_beq this
    omega
  · rintro ⟨h1, h2⟩
    refine ⟨h1, fun j hj => ?_⟩
    rw [arcs_cnt h hj, h2 (j + 1) (by omega) hj]; rfl
/-- The sum of what stands at the first k places. -/
def smK (l : List Int) : Nat → Int
  | 0 => 0
  | k + 1 => smK l k + l.getD k 0
theorem sum_add (l : List Int) (f g : Int → Nat) : (l.map fun x => f x + g x).sum = (l.map f).sum + (l.map g).sum := by
  induction l with
  | nil => rfl
  | cons x l ih => simp only [List.map_cons, List.sum_cons, ih]; omega
theorem countP_split (l : List Int) (p : Int → Bool) (d : Int → Nat) (n : Nat) : (l.countP fun y => p y && decide (d y < n + 1)) = (l.countP fun y => p y && decide (d y < n)) + (l.countP fun y => p y && (d y == n)) := by
  induction l with
  | nil => rfl
  | cons y l ih =>
    rw [List.countP_cons, List.countP_cons, List.countP_cons, ih]
    cases p y with
    | false => simp
    | true =>
      rcases Nat.lt_trichotomy (d y) n with h | h | h
      · have e1 : decide (d y < n + 1) = true := by simp; omega
        have e2 : decide (d y < n) = true := by simpa using h
        have e3 : (d y == n) = false := by simp; omega
        simp [e1, e2, e3]; omega
      · have e1 : decide (d y < n + 1) = true := by simp; omega
        have e2 : decide (d y < n) = false := by simp; omega
        have e3 : (d y == n) = true := by simpa using h
        simp [e1, e2, e3]; omega
      · have e1 : decide (d y < n + 1) = false := by simp; omega
        have e2 : decide (d y < n) = false := by simp; omega
        have e3 : (d y == n) = false := by simp; omega
        simp [e1, e2, e3]
theorem smK_arcs {N : Nat} {xs : List Int} (h : circB (N : Int) xs = true) : ∀ n, n ≤ N → smK (arcs (N : Int) xs) n = (((xs.map fun x => xs.countP fun y => decide (y ≠ x) && decide (arcD N x y < n)).sum : Nat) : Int) := by
  intro n
  induction n with
  | zero =>
    intro _
    have : (xs.map fun x => xs.countP fun y => decide (y ≠ x) && decide (arcD N x y < 0)) = xs.map fun _ => 0 := List.map_congr_left fun x _ => by
      rw [List.countP_eq_zero]; intro y _; simp
    rw [this]
    have h0 : ∀ l : List Int, (l.map fun _ => 0).sum = 0 := fun l => by induction l with
      | nil => rfl
      | cons x l ih => simp [ih]
    rw [h0]; rfl
  | succ n ih =>
    intro hn
    rw [smK, ih (by omega), arcs_cnt h (by omega)]
    have : (xs.map fun x => xs.countP fun y => decide (y ≠ x) && decide (arcD N x y < n + 1)) = xs.map fun x => (xs.countP fun y => decide (y ≠ x) && decide (arcD N x y < n)) + cntR N xs n x := List.map_congr_left fun x _ => countP_split xs (fun y => decide (y ≠ x)) (fun y => arcD N x y) n
    rw [this, sum_add]
    rw [cntP]; omega
theorem countP_others {xs : List Int} (hs : xs.Pairwise (fun a b => a < b)) : ∀ x ∈ xs, (xs.countP fun y => decide (y ≠ x)) + 1 = xs.length := by
  induction xs with
  | nil => intro x hx; simp at hx
  | cons z l ih =>
    rw [List.pairwise_cons] at hs
    intro x hx
    rw [List.countP_cons, List.length_cons]
    rcases List.mem_cons.1 hx with rfl | hx
    · have : (l.countP fun y => decide (y ≠ x)) = l.length := List.countP_eq_length.2 fun y hy => by
        have := hs.1 y hy; simp; omega
      rw [this]; simp
    · have h1 := ih hs.2 x hx
      have h2 := hs.1 x hx
      have : decide (z ≠ x) = true := by simp; omega
      rw [this]; simp; simp at h1; omega
/-- All arcs together: one for each pair of marks. -/
theorem arcs_sum {N : Nat} {xs : List Int} (h : circB (N : Int) xs = true) : smK (arcs (N : Int) xs) N = (xs.length : Int) * ((xs.length : Int) - 1) := by
  have hb := circB_bd h
  have hlt := asc_pw hb.2.2.1
  rw [smK_arcs h N (Nat.le_refl _)]
  have : (xs.map fun x => xs.countP fun y => decide (y ≠ x) && decide (arcD N x y < N)) = xs.map fun _ => xs.length - 1 := List.map_congr_left fun x hx => by
    have h1 := countP_others hlt x hx
    have : (xs.countP fun y => decide (y ≠ x) && decide (arcD N x y < N)) = xs.countP fun y => decide (y ≠ x) := List.countP_congr fun y _ => by
      simp [arcD_lt (show 1 ≤ N by omega) x y]
    rw [this]; omega
  rw [this]
  have hc : ∀ (l : List Int) (c : Nat), (l.map fun _ => c).sum = l.length * c := fun l c => by
    induction l with
    | nil => simp
    | cons x l ih => rw [List.map_cons, List.sum_cons, ih, List.length_cons, Nat.succ_mul]; omega
  rw [hc, Int.natCast_mul, Int.natCast_sub (by omega)]
  rfl
end Go.Proofs.Ytoobpkcnmgjccaa
