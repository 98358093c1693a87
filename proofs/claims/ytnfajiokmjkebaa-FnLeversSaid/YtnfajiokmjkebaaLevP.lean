/- FnLevers: the plain law. -/
import Derived.Test.YtnfajiokmjkebaaMgP
import Derived.Test.YtnfajiokmjkebaaCenter
import Derived.Test.YtnfajiokmjkebaaShiftC
set_option linter.unusedVariables false
namespace Go.Proofs.Ytnfajiokmjkebaa
theorem gcd_posr (X : Int) {Y : Int} (hY : 0 < Y) : 0 < (Int.gcd X Y : Int) := by
  have : 0 < Int.gcd X Y := Int.gcd_pos_of_ne_zero_right _ (by omega)
  omega
theorem mf_low {X Y : Int} (hY : 0 < Y) (hX : -1000000 ≤ X ∧ X ≤ 1000000) (hY2 : Y ≤ 1000000) : mfB X Y = true ∧ mfT X Y = X / (Int.gcd X Y : Int) ∧ mfU X Y = Y / (Int.gcd X Y : Int) := by
  have hg := gcd_posr X hY
  have d1 : (Int.gcd X Y : Int) ∣ X := Int.gcd_dvd_left ..
  have d2 : (Int.gcd X Y : Int) ∣ Y := Int.gcd_dvd_right ..
  have e1 : redT X Y = X / (Int.gcd X Y : Int) := by rw [redT, if_neg (by omega), Int.tdiv_eq_ediv_of_dvd d1]
  have e2 : redB X Y = Y / (Int.gcd X Y : Int) := by rw [redB, if_neg (by omega), Int.tdiv_eq_ediv_of_dvd d2]
  have b1 := tdiv_bd X (Int.gcd X Y : Int) (by omega) 1000000 hX
  rw [Int.tdiv_eq_ediv_of_dvd d1] at b1
  have b2 : 1 ≤ Y / (Int.gcd X Y : Int) ∧ Y / (Int.gcd X Y : Int) ≤ 1000000 := by
    have h1 := Int.ediv_le_self (Int.gcd X Y : Int) (by omega : 0 ≤ Y)
    have h2 : 0 < Y / (Int.gcd X Y : Int) := Int.ediv_pos_of_pos_of_dvd hY (by omega) d2
    omega
  have hgc : Int.gcd (X / (Int.gcd X Y : Int)) (Y / (Int.gcd X Y : Int)) = 1 := Int.gcd_ediv_gcd_ediv_gcd (by omega)
  have hm : mkB X Y = true := by
    rw [mkB, e1, e2, fracB, inB_true.2 b1, inB_true.2 b2, hgc]; rfl
  obtain ⟨f1, f2, f3⟩ := mf_of (a := X) (b := Y) (by omega) (by omega) (by omega)
  refine ⟨by rw [← f1]; exact hm, ?_, ?_⟩
  · rw [← f2, mkT, if_pos hm, e1]
  · rw [← f3, mkU, if_pos hm, e2]
/-- The fraction crosswise, and how great its parts are. -/
theorem mf_cross {X Y : Int} (hY : 0 < Y) (hX : -1000000 ≤ X ∧ X ≤ 1000000) (hY2 : Y ≤ 1000000) : mfB X Y = true ∧ mfT X Y * Y = X * mfU X Y ∧ (-1000000 ≤ mfT X Y ∧ mfT X Y ≤ 1000000) ∧ 1 ≤ mfU X Y ∧ mfU X Y ≤ 1000000 := by
  obtain ⟨h1, h2, h3⟩ := mf_low hY hX hY2
  have hg := gcd_posr X hY
  have d1 : (Int.gcd X Y : Int) ∣ X := Int.gcd_dvd_left ..
  have d2 : (Int.gcd X Y : Int) ∣ Y := Int.gcd_dvd_right ..
  have b1 := tdiv_bd X (Int.gcd X Y : Int) (by omega) 1000000 hX
  rw [Int.tdiv_eq_ediv_of_dvd d1] at b1
  have h4 := Int.ediv_le_self (Int.gcd X Y : Int) (by omega : 0 ≤ Y)
  have h5 : 0 < Y / (Int.gcd X Y : Int) := Int.ediv_pos_of_pos_of_dvd hY (by omega) d2
  refine ⟨h1, ?_, by rw [h2]; exact b1, by rw [h3]; omega, by rw [h3]; omega⟩
  rw [h2, h3, ← Int.mul_ediv_assoc X d2, Int.mul_comm (X / _) Y, ← Int.mul_ediv_assoc Y d1, Int.mul_comm Y X]
/-- What DrawBeam draws. -/
def DrB (L : List (Int × Int)) : Prop := L.length ≤ 6 ∧ ∀ k, k < L.length → (-10 ≤ pA L k ∧ pA L k ≤ 10) ∧ 0 ≤ pB L k ∧ pB L k ≤ 39
theorem DrB.beam {L : List (Int × Int)} (h : DrB L) : beamB L = true :=
  beamB_iff.2 ⟨fun k hk => by
    have := h.2 k hk
    rw [hangB, inB_true.2 (by omega), inB_true.2 (by omega)]; rfl, by have := h.1; omega⟩
theorem torqK_small {L : List (Int × Int)} (h : DrB L) : ∀ k, k ≤ L.length → -390 * (k : Int) ≤ torqK L k ∧ torqK L k ≤ 390 * (k : Int) := by
  intro k
  induction k with
  | zero => intro _; simp [torqK]
  | succ k ih =>
    intro hk
    have a := ih (by omega)
    have b := h.2 k (by omega)
    have c := mul_bd (a := pA L k) (b := pB L k) (A := 10) (B := 39) b.1 (by omega)
    rw [torqK]; omega
theorem loadK_small {L : List (Int × Int)} (h : DrB L) : ∀ k, k ≤ L.length → 0 ≤ loadK L k ∧ loadK L k ≤ 39 * (k : Int) := by
  intro k
  induction k with
  | zero => intro _; simp [loadK]
  | succ k ih =>
    intro hk
    have a := ih (by omega)
    have b := h.2 k (by omega)
    rw [loadK]; omega
/-! ### The shift -/
theorem shK_at (xs : List (Int × Int)) (q : Int) : ∀ k j, j < xs.length → (shK xs q k).getD j (0, 0) = if j < k then (pA xs j + q, pB xs j) else xs.getD j (0, 0) := by
  intro k
  induction k with
  | zero => intro j _; rfl
  | succ k ih =>
    intro j hj
    rw [shK, List.getD_eq_getElem?_getD, List.getElem?_set]
    by_cases e : k = j
    · subst e
      rw [if_pos rfl, if_pos (by rw [shK_length]; exact hj), if_pos (by omega)]; rfl
    · rw [if_neg e, ← List.getD_eq_getElem?_getD, ih j hj]
      by_cases c : j < k
      · rw [if_pos c, if_pos (by omega)]
      · rw [if_neg c, if_neg (by omega)]
theorem shK_all {xs : List (Int × Int)} {q : Int} {j : Nat} (hj : j < xs.length) : pA (shK xs q xs.length) j = pA xs j + q ∧ pB (shK xs q xs.length) j = pB xs j := by
  unfold pA pB
  rw [shK_at xs q xs.length j hj, if_pos hj]
  exact ⟨rfl, rfl⟩
theorem shift_ok {L : List (Int × Int)} (h : DrB L) {q : Int} (hq : -20 ≤ q ∧ q ≤ 20) : okShift L q = true ∧ shiftL L q = shK L q L.length ∧ beamB (shK L q L.length) = true := by
  have hb : beamB (shK L q L.length) = true := beamB_iff.2 ⟨fun k hk => by
    rw [shK_length] at hk
    have a := h.2 k hk
    have b := shK_all (q := q) hk
    rw [hangB, b.1, b.2, inB_true.2 (by omega), inB_true.2 (by omega)]; rfl, by rw [shK_length]; have := h.1; omega⟩
  have ho : okShift L q = true := by rw [okShift, h.beam, inB_true.2 (by omega), hb]; rfl
  exact ⟨ho, by rw [shiftL, if_pos ho], hb⟩
theorem torqK_shift (xs : List (Int × Int)) (q : Int) : ∀ k, k ≤ xs.length → torqK (shK xs q xs.length) k = torqK xs k + q * loadK xs k := by
  intro k
  induction k with
  | zero => intro _; simp [torqK, loadK]
  | succ k ih =>
    intro hk
    have b := shK_all (xs := xs) (q := q) (j := k) (by omega)
    rw [torqK, torqK, loadK, ih (by omega), b.1, b.2, Int.add_mul, Int.mul_add]
    omega
theorem torq_shift {L : List (Int × Int)} (h : DrB L) {q : Int} (hq : -20 ≤ q ∧ q ≤ 20) : torq (shiftL L q) = torq L + q * loadK L L.length := by
  obtain ⟨a, b, c⟩ := shift_ok h hq
  rw [b, torq, if_pos c, shK_length, torqK_shift _ _ _ (Nat.le_refl _), torq, if_pos h.beam]
/-! ### The merge -/
def plS (xs : List (Int × Int)) (k : Nat) : Nat → Int
  | 0 => 0
  | i + 1 => plS xs k i + ((i : Int) - 100) * wtK xs ((i : Int) - 100) k
theorem plS_step (xs : List (Int × Int)) (k : Nat) : ∀ i, plS xs (k + 1) i = plS xs k i + if (-100 ≤ pA xs k ∧ pA xs k < (i : Int) - 100) then pA xs k * pB xs k else 0 := by
  intro i
  induction i with
  | zero => rw [if_neg (by omega)]; rfl
  | succ i ih =>
    rw [plS, plS, ih, wtK]
    by_cases e : pA xs k = (i : Int) - 100
    · rw [if_pos e, if_neg (by omega), if_pos (by omega), e, Int.mul_add]; omega
    · rw [if_neg e]
      by_cases c : -100 ≤ pA xs k ∧ pA xs k < (i : Int) - 100
      · rw [if_pos c, if_pos (by omega)]; omega
      · rw [if_neg c, if_neg (by omega)]; omega
theorem plS_torq {xs : List (Int × Int)} (hb : beamB xs = true) : ∀ k, k ≤ xs.length → plS xs k 201 = torqK xs k := by
  intro k
  induction k with
  | zero =>
    intro _
    have : ∀ i, plS xs 0 i = 0 := fun i => by
      induction i with
      | zero => rfl
      | succ i ih => rw [plS, ih, wtK]; omega
    rw [this, torqK]
  | succ k ih =>
    intro hk
    have := beam_at hb (k := k) (by omega)
    rw [plS_step, ih (by omega), torqK, if_pos (by omega)]
theorem torqK_app (l : List (Int × Int)) (p : Int × Int) : ∀ k, k ≤ l.length → torqK (l ++ [p]) k = torqK l k := by
  intro k
  induction k with
  | zero => intro _; rfl
  | succ k ih =>
    intro hk
    have e : (l ++ [p]).getD k (0, 0) = l.getD k (0, 0) := by
      rw [List.getD_eq_getElem?_getD, List.getElem?_append_left (by omega), ← List.getD_eq_getElem?_getD]
    rw [torqK, torqK, ih (by omega), pA, pB, e]; rfl
theorem torqK_snoc (l : List (Int × Int)) (p : Int × Int) : torqK (l ++ [p]) (l ++ [p]).length = torqK l l.length + p.1 * p.2 := by
  have e : (l ++ [p]).getD l.length (0, 0) = p := by
    rw [List.getD_eq_getElem?_getD, List.getElem?_append_right (Nat.le_refl _), Nat.sub_self]; rfl
  rw [List.length_append, List.length_singleton, torqK, torqK_app _ _ _ (Nat.le_refl _), pA, pB, e]
theorem torq_mgL (xs : List (Int × Int)) (n : Nat) : ∀ i, torqK (mgL xs n i) (mgL xs n i).length = plS xs n i := by
  intro i
  induction i with
  | zero => rfl
  | succ i ih =>
    rw [mgL, plS]
    cases ht : thK xs ((i : Int) - 100) n with
    | true => rw [if_pos rfl, torqK_snoc, ih]
    | false => rw [if_neg (by simp), List.append_nil, ih, wtK_none _ ht]; omega
def plC (xs : List (Int × Int)) (k : Nat) : Nat → Nat
  | 0 => 0
  | i + 1 => plC xs k i + if thK xs ((i : Int) - 100) k then 1 else 0
theorem plC_step (xs : List (Int × Int)) (k : Nat) : ∀ i, plC xs (k + 1) i ≤ plC xs k i + if (-100 ≤ pA xs k ∧ pA xs k < (i : Int) - 100) then 1 else 0 := by
  intro i
  induction i with
  | zero => exact Nat.zero_le _
  | succ i ih =>
    rw [plC, plC, thK]
    by_cases e : pA xs k = (i : Int) - 100
    · rw [if_neg (show ¬ (-100 ≤ pA xs k ∧ pA xs k < (i : Int) - 100) by omega)] at ih
      rw [if_pos (show -100 ≤ pA xs k ∧ pA xs k < ((i + 1 : Nat) : Int) - 100 by omega)]
      cases thK xs ((i : Int) - 100) k <;> simp [e] <;> omega
    · rw [beq_eq_false_iff_ne.2 e, Bool.or_false]
      by_cases c : -100 ≤ pA xs k ∧ pA xs k < (i : Int) - 100
      · rw [if_pos c] at ih; rw [if_pos (show -100 ≤ pA xs k ∧ pA xs k < ((i + 1 : Nat) : Int) - 100 by omega)]; omega
      · rw [if_neg c] at ih; rw [if_neg (show ¬ (-100 ≤ pA xs k ∧ pA xs k < ((i + 1 : Nat) : Int) - 100) by omega)]; omega
theorem plC_le (xs : List (Int × Int)) : ∀ k, plC xs k 201 ≤ k := by
  intro k
  induction k with
  | zero =>
    have : ∀ i, plC xs 0 i = 0 := fun i => by
      induction i with
      | zero => rfl
      | succ i ih => rw [plC, ih, thK]; rfl
    rw [this]; exact Nat.le_refl _
  | succ k ih =>
    have := plC_step xs k 201
    split at this <;> omega
theorem mgL_plC (xs : List (Int × Int)) (n : Nat) : ∀ i, (mgL xs n i).length = plC xs n i := by
  intro i
  induction i with
  | zero => rfl
  | succ i ih => rw [mgL, plC, List.length_append, ih]; split <;> rfl
theorem wtK_small {L : List (Int × Int)} (h : DrB L) (p : Int) : ∀ k, k ≤ L.length → 0 ≤ wtK L p k ∧ wtK L p k ≤ 39 * (k : Int) := by
  intro k
  induction k with
  | zero => intro _; simp [wtK]
  | succ k ih =>
    intro hk
    have a := ih (by omega)
    have b := h.2 k (by omega)
    rw [wtK]; split <;> omega
theorem mg_torq {L : List (Int × Int)} (h : DrB L) : (mgM L).length ≤ 6 ∧ torq (mgM L) = torq L := by
  have hok : okK L L.length 201 := fun j _ => by have := wtK_small h ((j : Int) - 100) _ (Nat.le_refl _); have := h.1; omega
  have e : mgM L = mgL L L.length 201 := by rw [mgM, if_pos ⟨h.beam, hok⟩]
  have hlen : (mgM L).length ≤ 6 := by rw [e, mgL_plC]; have := plC_le L L.length; have := h.1; omega
  have hb : beamB (mgM L) = true := beamB_iff.2 ⟨fun k hk => by
    have hm : (mgM L)[k] ∈ mgL L L.length 201 := by rw [← e]; exact List.getElem_mem hk
    obtain ⟨a, b, c⟩ := (mem_mgL 201).1 hm
    have ea : pA (mgM L) k = ((mgM L)[k]).1 := by rw [pA, List.getD_eq_getElem?_getD, List.getElem?_eq_getElem hk]; rfl
    have eb : pB (mgM L) k = ((mgM L)[k]).2 := by rw [pB, List.getD_eq_getElem?_getD, List.getElem?_eq_getElem hk]; rfl
    have d := wtK_small h ((mgM L)[k]).1 _ (Nat.le_refl L.length)
    have := h.1
    rw [hangB, ea, eb, c, inB_true.2 (by omega), inB_true.2 (by omega)]; rfl, by omega⟩
  refine ⟨hlen, ?_⟩
  rw [torq, if_pos hb, e, torq_mgL, plS_torq h.beam _ (Nat.le_refl _), torq, if_pos h.beam]
/-! ### The place -/
theorem torq_small {L : List (Int × Int)} (h : DrB L) : -2340 ≤ torq L ∧ torq L ≤ 2340 := by
  rw [torq, if_pos h.beam]
  have := torqK_small h _ (Nat.le_refl L.length)
  have := h.1
  omega
theorem load_small {L : List (Int × Int)} (h : DrB L) : 0 ≤ loadK L L.length ∧ loadK L L.length ≤ 234 := by
  have := loadK_small h _ (Nat.le_refl L.length)
  have := h.1
  omega
theorem place_law {L : List (Int × Int)} (h : DrB L) {q : Int} (hq : 1 ≤ q ∧ q ≤ 30) : plB L q = true ∧ plT L q * q = -torq L * plU L q ∧ (-1000000 ≤ plT L q ∧ plT L q ≤ 1000000) ∧ 1 ≤ plU L q ∧ plU L q ≤ 1000000 := by
  have ht := torq_small h
  obtain ⟨a, b, c, d⟩ := mf_cross (X := -torq L) (Y := q) (by omega) (by omega) (by omega)
  have e : (beamB L && inB q 1 1000) = true := by rw [h.beam, inB_true.2 (by omega)]; rfl
  rw [plB, plT, plU, if_pos e, if_pos e, e, Bool.true_and]
  exact ⟨a, b, c, d⟩
theorem center_law {L : List (Int × Int)} (h : DrB L) : ctB L = decide (0 < loadK L L.length) ∧ (0 < loadK L L.length → ctT L * loadK L L.length = torq L * ctU L ∧ (-1000000 ≤ ctT L ∧ ctT L ≤ 1000000) ∧ 1 ≤ ctU L ∧ ctU L ≤ 1000000) := by
  have ht := torq_small h
  have hd := load_small h
  rw [ctB, ctT, ctU, if_pos h.beam, if_pos h.beam, h.beam, Bool.true_and]
  by_cases c : 0 < loadK L L.length
  · obtain ⟨a, b, d, e⟩ := mf_cross (X := torq L) c (by omega) (by omega)
    exact ⟨by rw [a, decide_eq_true c], fun _ => ⟨b, d, e⟩⟩
  · have e : loadK L L.length = 0 := by omega
    rw [e]
    exact ⟨(mf_zero _).1, fun h => by omega⟩
theorem level_law {L : List (Int × Int)} (h : DrB L) {q T : Int} (hq : 1 ≤ q ∧ q ≤ 30) (hT : -100 ≤ T ∧ T ≤ 100) (e : T * q = -torq L) : (beamB (L ++ [(T, q)]) && (torq (L ++ [(T, q)]) == 0)) = true := by
  have hb : beamB (L ++ [(T, q)]) = true := beamB_iff.2 ⟨fun k hk => by
    rw [List.length_append, List.length_singleton] at hk
    by_cases c : k < L.length
    · have e1 : (L ++ [(T, q)]).getD k (0, 0) = L.getD k (0, 0) := by
        rw [List.getD_eq_getElem?_getD, List.getElem?_append_left c, ← List.getD_eq_getElem?_getD]
      have := (beamB_iff.1 h.beam).1 k c
      rw [hangB, pA, pB] at this ⊢
      rw [e1]; exact this
    · obtain rfl : k = L.length := by omega
      have e1 : (L ++ [(T, q)]).getD L.length (0, 0) = (T, q) := by
        rw [List.getD_eq_getElem?_getD, List.getElem?_append_right (Nat.le_refl _), Nat.sub_self]; rfl
      rw [hangB, pA, pB, e1, inB_true.2 hT, inB_true.2 (by dsimp only; omega)]; rfl, by rw [List.length_append, List.length_singleton]; have := h.1; omega⟩
  have ht : torq (L ++ [(T, q)]) = 0 := by
    rw [torq, if_pos hb, torqK_snoc]
    have := h.beam
    rw [torq, if_pos this] at e
    dsimp only
    omega
  rw [hb, ht]; rfl
theorem isl_law {L : List (Int × Int)} (h : DrB L) : (beamB L && (torq L == 0)) = (torq L == 0) := by rw [h.beam, Bool.true_and]
end Go.Proofs.Ytnfajiokmjkebaa
