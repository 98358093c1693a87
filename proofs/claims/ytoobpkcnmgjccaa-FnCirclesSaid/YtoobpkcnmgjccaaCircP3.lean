/- Plain laws for FnCircles: stretching; difference sets; the sets that are found. -/
import Derived.Test.YtoobpkcnmgjccaaCircP2
set_option linter.unusedVariables false
namespace Go.Proofs.Ytoobpkcnmgjccaa
def strG (N : Nat) (q : Int) (d : Nat) : Nat := (((d : Int) * q) % N).toNat
theorem strG_eq {N : Nat} (hN : 1 ≤ N) (q : Int) (d : Nat) : ((strG N q d : Nat) : Int) = ((d : Int) * q) % N := by
  have := Int.emod_nonneg ((d : Int) * q) (show (N : Int) ≠ 0 by omega)
  unfold strG; omega
theorem cop_zero {N : Nat} {q z : Int} (hg : Int.gcd q N = 1) (h : (z * q) % (N : Int) = 0) : (N : Int) ∣ z := by
  have h1 : (N : Int) ∣ z * q := Int.dvd_of_emod_eq_zero h
  have h2 : N ∣ z.natAbs * q.natAbs := by rw [← Int.natAbs_mul]; have := Int.natAbs_dvd_natAbs.2 h1; simpa using this
  have h3 : Nat.Coprime N q.natAbs := by
    have : Nat.gcd q.natAbs N = 1 := by simpa [Int.gcd] using hg
    rw [Nat.Coprime, Nat.gcd_comm]; exact this
  exact Int.natAbs_dvd_natAbs.1 (by simpa using h3.dvd_of_dvd_mul_right h2)
theorem small_dvd {N : Nat} {z : Int} (h : (N : Int) ∣ z) (hz : -(N : Int) < z ∧ z < N) : z = 0 := by
  obtain ⟨k, hk⟩ := h
  rcases (by omega : k ≤ -1 ∨ k = 0 ∨ 1 ≤ k) with h2 | h2 | h2
  · have : (N : Int) * k ≤ (N : Int) * (-1) := Int.mul_le_mul_of_nonneg_left h2 (by omega)
    omega
  · subst h2; omega
  · have : (N : Int) * 1 ≤ (N : Int) * k := Int.mul_le_mul_of_nonneg_left h2 (by omega)
    omega
theorem mul_inj {N : Nat} {q x y : Int} (hg : Int.gcd q N = 1) (hx : 0 ≤ x ∧ x ≤ (N : Int) - 1) (hy : 0 ≤ y ∧ y ≤ (N : Int) - 1) (h : (x * q) % (N : Int) = (y * q) % N) : x = y := by
  have h1 : (x * q - y * q) % (N : Int) = 0 := Int.emod_eq_emod_iff_emod_sub_eq_zero.1 h
  rw [← Int.sub_mul] at h1
  have := small_dvd (cop_zero hg h1) (by omega)
  omega
theorem arcD_stretch {N : Nat} (hN : 1 ≤ N) (q x y : Int) : arcD N (x * q % N) (y * q % N) = strG N q (arcD N x y) := by
  have h1 := arcD_eq hN (x * q % N) (y * q % N)
  have h2 := strG_eq hN q (arcD N x y)
  have h3 := arcD_eq hN x y
  rw [← h3] at h2
  rw [← Int.sub_emod, ← Int.sub_mul, Int.mul_emod] at h1
  rw [Int.mul_emod, Int.emod_emod_of_dvd _ (Int.dvd_refl _)] at h2
  omega
theorem strG_inj {N : Nat} (hN : 1 ≤ N) {q : Int} (hg : Int.gcd q N = 1) {b c : Nat} (hb : b < N) (hc : c < N) (h : strG N q b = strG N q c) : b = c := by
  have h1 := strG_eq hN q b
  have h2 := strG_eq hN q c
  rw [h] at h1
  have := mul_inj (N := N) (q := q) (x := (b : Int)) (y := (c : Int)) hg (by omega) (by omega) (by omega)
  omega
theorem strG_lt {N : Nat} (hN : 1 ≤ N) (q : Int) (d : Nat) : strG N q d < N := by
  have h1 := strG_eq hN q d
  have h2 := Int.emod_lt_of_pos ((d : Int) * q) (show (0 : Int) < N by omega)
  omega
theorem strG_pos {N : Nat} (hN : 1 ≤ N) {q : Int} (hg : Int.gcd q N = 1) {a : Nat} (h1 : 1 ≤ a) (h2 : a < N) : 1 ≤ strG N q a := by
  have h3 := strG_eq hN q a
  rcases Nat.eq_zero_or_pos (strG N q a) with h | h
  · rw [h] at h3
    have := small_dvd (cop_zero hg h3.symm) (by omega)
    omega
  · exact h
def invChk : Bool := (List.range 61).all fun N => (List.range 61).all fun q => !(decide (q < N)) || (Nat.gcd q N != 1) || (List.range N).any fun r => q * r % N == 1 % N
theorem invChk_true : invChk = true := by decide +kernel
theorem inv_at {N q : Nat} (hN : N ≤ 60) (hq : q < N) (hg : Nat.gcd q N = 1) : ∃ r, r < N ∧ q * r % N = 1 % N := by
  have h := invChk_true
  simp only [invChk, List.all_eq_true, List.mem_range] at h
  have h2 := h N (by omega) q (by omega)
  simp only [Bool.or_eq_true, Bool.not_eq_true', decide_eq_false_iff_not, bne_iff_ne, List.any_eq_true, List.mem_range, beq_iff_eq] at h2
  rcases h2 with (h2 | h2) | h2
  · omega
  · exact absurd hg h2
  · exact h2
theorem strG_sur {N : Nat} (hN : 1 ≤ N ∧ N ≤ 60) {q : Int} (hq : 0 ≤ q ∧ q < N) (hg : Int.gcd q N = 1) {b : Nat} (h1 : 1 ≤ b) (h2 : b < N) : ∃ a, 1 ≤ a ∧ a < N ∧ strG N q a = b := by
  obtain ⟨p, rfl⟩ : ∃ p : Nat, q = (p : Int) := ⟨q.toNat, by omega⟩
  obtain ⟨r, hr, hr1⟩ := inv_at (N := N) (q := p) hN.2 (by omega) (by simpa using hg)
  have hA : (b * r % N) * p % N = b := by
    rw [Nat.mod_mul_mod, Nat.mul_assoc, Nat.mul_comm r p, Nat.mul_mod b (p * r), hr1, ← Nat.mul_mod, Nat.mul_one, Nat.mod_eq_of_lt h2]
  obtain ⟨x, hx⟩ : ∃ x, x = b * r % N := ⟨_, rfl⟩
  rw [← hx] at hA
  have hxl : x < N := by rw [hx]; exact Nat.mod_lt _ (by omega)
  refine ⟨x, ?_, hxl, ?_⟩
  · rcases Nat.eq_zero_or_pos x with h | h
    · exfalso
      rw [h] at hA
      simp at hA
      omega
    · exact h
  · have h3 := strG_eq hN.1 (p : Int) x
    have h4 : ((x : Int) * (p : Int)) % (N : Int) = ((x * p % N : Nat) : Int) := by rw [Int.natCast_emod, Int.natCast_mul]
    rw [h4, hA] at h3
    omega
theorem stretch_circ {N : Nat} {q : Int} {xs : List Int} (h : circB (N : Int) xs = true) (hq : inB q 1 ((N : Int) - 1) = true) (hg : Int.gcd q N = 1) : smL N q xs = srt (xs.map fun m => m * q % N) ∧ circB (N : Int) (smL N q xs) = true := by
  have hb := circB_bd h
  have hm := allB_mem.1 hb.2.2.2
  have e : smL N q xs = srt (xs.map fun m => m * q % N) := by rw [smL, if_pos (by rw [smOk, h, hq, hg]; rfl)]
  refine ⟨e, ?_⟩
  rw [e]
  refine circ_move h (fun x hx y hy he => mul_inj hg (hm x hx) (hm y hy) he) fun x hx => ?_
  have h1 := Int.emod_nonneg (x * q) (show (N : Int) ≠ 0 by omega)
  have h2 := Int.emod_lt_of_pos (x * q) (show (0 : Int) < N by omega)
  omega
theorem dsB_stretch {N : Nat} {q : Int} {xs : List Int} (h : circB (N : Int) xs = true) (hl : 0 < (smL N q xs).length) : dsB (N : Int) (smL N q xs) = dsB (N : Int) xs := by
  have hok : smOk N q xs = true := by
    cases hs : smOk N q xs with
    | true => rfl
    | false => rw [smL, if_neg (by rw [hs]; simp)] at hl; simp at hl
  simp only [smOk, Bool.and_eq_true, beq_iff_eq] at hok
  have hg : Int.gcd q N = 1 := by have := hok.2; omega
  have hq := hok.1.2
  have hqb := inB_true.1 hq
  obtain ⟨e, hs⟩ := stretch_circ h hq hg
  have hb := circB_bd h
  have hm := allB_mem.1 hb.2.2.2
  have key : ∀ a, a < N → cntP N (smL N q xs) (strG N q a) = cntP N xs a := fun a ha => by
    rw [e, cntP_perm (srt_perm _)]
    exact cntP_map (f := fun m => m * q % N) (g := strG N q) (fun x hx y hy he => mul_inj hg (hm x hx) (hm y hy) he) (fun x _ y _ => arcD_stretch (by omega) q x y) (fun b c h1 h2 h3 => strG_inj (by omega) hg h1 h2 h3) (by omega) ha
  rw [Bool.eq_iff_iff, dsB_iff hs, dsB_iff h]
  constructor
  · rintro ⟨h1, h2⟩
    refine ⟨h1, fun a h3 h4 => ?_⟩
    rw [← key a h4]
    exact h2 _ (strG_pos (by omega) hg h3 h4) (strG_lt (by omega) q a)
  · rintro ⟨h1, h2⟩
    refine ⟨h1, fun b h3 h4 => ?_⟩
    obtain ⟨a, h5, h6, h7⟩ := strG_sur (N := N) (by omega) (q := q) (by omega) hg h3 h4
    rw [← h7, key a h6]
    exact h2 a h5 h6
theorem cntP_zero {N : Nat} {xs : List Int} (h : circB (N : Int) xs = true) : cntP N xs 0 = 0 := by
  have hb := circB_bd h
  have hm := allB_mem.1 hb.2.2.2
  have : xs.map (cntR N xs 0) = xs.map fun _ => 0 := List.map_congr_left fun x hx => by
    rw [cntR, List.countP_eq_zero]
    intro y hy
    have h1 := arcD_eq (show 1 ≤ N by omega) x y
    have hx' := hm x hx
    have hy' := hm y hy
    simp only [Bool.and_eq_true, decide_eq_true_eq, beq_iff_eq, not_and]
    intro hne h0
    rw [h0] at h1
    have := small_dvd (Int.dvd_of_emod_eq_zero h1) (by omega)
    exact hne (by omega)
  rw [cntP, this]
  have h0 : ∀ l : List Int, (l.map fun _ => 0).sum = 0 := fun l => by induction l with
    | nil => rfl
    | cons x l ih => simp [ih]
  exact h0 _
theorem dsB_sum {N : Nat} {xs : List Int} (h : circB (N : Int) xs = true) (hd : dsB (N : Int) xs = true) : (xs.length : Int) * ((xs.length : Int) - 1) = (N : Int) - 1 := by
  obtain ⟨h1, h2⟩ := (dsB_iff h).1 hd
  have : ∀ n, n + 1 ≤ N → smK (arcs (N : Int) xs) (n + 1) = (n : Int) := by
    intro n
    induction n with
    | zero => intro _; rw [smK, smK, arcs_cnt h (by omega), cntP_zero h]; rfl
    | succ n ih =>
      intro hn
      rw [smK, ih (by omega), arcs_cnt h (by omega), h2 (n + 1) (by omega) (by omega)]
      omega
  obtain ⟨n, rfl⟩ : ∃ n, N = n + 1 := ⟨N - 1, by omega⟩
  rw [← arcs_sum h, this n (by omega)]
  omega
def foundB (m : Nat) : Bool := ((findS (m : Int)).length == m) && dsB ((m : Int) * ((m : Int) - 1) + 1) (findS (m : Int)) && circB ((m : Int) * ((m : Int) - 1) + 1) (findS (m : Int))
theorem found_chk : (foundB 2 && foundB 3 && foundB 4 && foundB 5 && foundB 6) = true := by decide +kernel
theorem found_at {m : Nat} (h : 2 ≤ m ∧ m ≤ 6) : (findS (m : Int)).length = m ∧ dsB ((m : Int) * ((m : Int) - 1) + 1) (findS (m : Int)) = true ∧ circB ((m : Int) * ((m : Int) - 1) + 1) (findS (m : Int)) = true := by
  have hc := found_chk
  simp only [Bool.and_eq_true] at hc
  have hf : foundB m = true := by
    rcases (by omega : m = 2 ∨ m = 3 ∨ m = 4 ∨ m = 5 ∨ m = 6) with rfl | rfl | rfl | rfl | rfl
    · exact hc.1.1.1.1
    · exact hc.1.1.1.2
    · exact hc.1.1.2
    · exact hc.1.2
    · exact hc.2
  simp only [foundB, Bool.and_eq_true, beq_iff_eq] at hf
  exact ⟨hf.1.1, hf.1.2, hf.2⟩
end Go.Proofs.Ytoobpkcnmgjccaa
