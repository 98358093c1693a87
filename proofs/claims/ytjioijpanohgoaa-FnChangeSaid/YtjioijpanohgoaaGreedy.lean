/- Greedy change: the plain words, and the contracts. -/
import Derived.Test.YtjioijpanohgoaaFewC
set_option linter.unusedVariables false
namespace Go.Proofs.Ytjioijpanohgoaa
open Go.RowKit

/-- What is left of an amount when the j greatest coins have been used. -/
def grem (xs : List Int) (n : Int) : Nat → Int
  | 0 => n
  | j + 1 => grem xs n j % xs.getD (xs.length - 1 - j) 0
def greedyL (xs : List Int) (n : Int) : List Int := (List.range xs.length).map fun i => grem xs n (xs.length - 1 - i) / xs.getD i 0
def greedyC (xs : List Int) (n : Int) : List Int := if (sysB xs && inB n 0 1000) = true then greedyL xs n else []
theorem greedyL_length (xs : List Int) (n : Int) : (greedyL xs n).length = xs.length := by simp [greedyL]
theorem greedyL_getD {xs : List Int} {n : Int} {i : Nat} (h : i < xs.length) : (greedyL xs n).getD i 0 = grem xs n (xs.length - 1 - i) / xs.getD i 0 := by
  rw [← getD_of (by rw [greedyL_length]; exact h)]
  simp [greedyL]
theorem greedyC_len (xs : List Int) (n : Int) : (greedyC xs n).length ≤ 6 := by
  unfold greedyC
  split
  · rename_i h
    rw [Bool.and_eq_true] at h
    have := (sysB_bd h.1).2.2.1
    rw [greedyL_length]; omega
  · simp
theorem grem_bd {xs : List Int} (hp : allB 1 100 xs = true) {n : Int} (hn : 0 ≤ n) (j : Nat) (hj : j ≤ xs.length) : 0 ≤ grem xs n j ∧ grem xs n j ≤ n := by
  induction j with
  | zero => exact ⟨hn, Int.le_refl _⟩
  | succ j ih =>
    have h1 := ih (by omega)
    have h2 := allB_iff.1 hp (xs.length - 1 - j) (by omega)
    rw [grem]
    have h3 := Int.emod_nonneg (grem xs n j) (show xs.getD (xs.length - 1 - j) 0 ≠ 0 by omega)
    have h4 : grem xs n j % xs.getD (xs.length - 1 - j) 0 ≤ grem xs n j := by
      rw [Int.emod_def]
      have := Int.mul_nonneg (show 0 ≤ xs.getD (xs.length - 1 - j) 0 by omega) (Int.ediv_nonneg h1.1 (show 0 ≤ xs.getD (xs.length - 1 - j) 0 by omega))
      omega
    omega
theorem owi_lit (w : World) (B : Nat) (hB : B ≤ w.heap.size) : OwI B (w.alloc (.cells #[] 3)) (.slice (some ⟨w.heap.size, 0, none⟩) 0 0) [] :=
  World.ownsRow_made w #[] 0 hB (by unfold maxLen; omega) rfl
def GrRow (xs : List Int) (n : Int) (j : Nat) (L : List Int) : Prop := L.length = xs.length ∧ ∀ i, xs.length ≤ i + j → i < xs.length → L.getD i 0 = grem xs n (xs.length - 1 - i) / xs.getD i 0
theorem GrRow.start (xs : List Int) (n : Int) (len : Nat) (hl : xs.length = len) : GrRow xs n 0 (List.replicate len 0) := ⟨by simp [hl], fun i h1 h2 => by omega⟩
theorem GrRow.set {xs : List Int} {n : Int} {j : Nat} {L : List Int} (h : GrRow xs n j L) (hj : j < xs.length) (e : Int) (he : e = grem xs n j / xs.getD (xs.length - 1 - j) 0) : GrRow xs n (j + 1) (L.set (xs.length - 1 - j) e) := by
  refine ⟨by rw [List.length_set]; exact h.1, fun i h1 h2 => ?_⟩
  rcases Nat.lt_or_ge (xs.length - 1 - j) i with h3 | h3
  · rw [set_getD_other (by omega)]; exact h.2 i (by omega) h2
  · obtain rfl : i = xs.length - 1 - j := by omega
    rw [set_getD_same (by rw [h.1]; omega), he, show xs.length - 1 - (xs.length - 1 - j) = j by omega]
theorem GrRow.all {xs : List Int} {n : Int} {L : List Int} (h : GrRow xs n xs.length L) : L = greedyL xs n := by
  refine List.ext_getElem (by rw [greedyL_length]; exact h.1) fun i h1 h2 => ?_
  rw [getD_of h1, getD_of h2, greedyL_getD (by rw [← h.1]; exact h1)]
  exact h.2 i (by omega) (by rw [← h.1]; exact h1)
set_option maxHeartbeats 1600000 in
theorem iGreedy_any (A : Option Addr) (len c : Nat) (xs : List Int) (N : Int) (w : World) (hl : xs.length = len) (hsys : sysB xs = true) (hN : inB N 0 1000 = true) (hr : Reads w w.heap.size 1 A len (xs.map (.int .i64))) :
    Calls Try.prog 30 #[.slice A len c, .int .i64 N] w fun e w' => ∃ v, e = .returned v ∧ OwI w.heap.size w' v (greedyL xs N) ∧ Kp w w' := by
  have hNb := inB_true.1 hN
  have HR := Lib.hid hr
  obtain ⟨ha, hs, b2, hone⟩ := sysB_bd hsys
  have HA := Lib.hid ha
  have h1 := hsys
  rw [hl] at b2
  have hn : len ≤ 1048576 := by omega
  have HL := Lib.hid hl
  clear ha hs hone hl hr hsys
  obtain ⟨i0, hi, hz0, hz1, hz2⟩ := info_parts int_info
  obtain ⟨w1, ew⟩ : ∃ w1, w1 = w := ⟨_, rfl⟩
  have hk1 : Kp w w1 := by rw [ew]; exact Kp.refl w
  subst ew
  go_enter Try.func30, Try.ntmps30
  go_wp2_with (at_make; refine wpList_make_full _ rfl _ _ 22 rfl w1.heap.size 3 i0 (.int .i64 0) 1 Try.underlying22 hi hz0 hz1 .i64 .i64 _ _ len rfl rfl rfl rfl (by rw [hz2]; omega) (by unfold maxLen; omega) (Nat.le_refl _) ?_; intro w2 hown2 hgrow2; have hk2 := (Kp.refl w1).grown hgrow2 (by simp); rw [show (Value.int .i64 0).cells = #[.int .i64 0] from rfl, toList_madeCells_one, Nat.mul_one] at hown2; have HO2 := Lib.hid hown2; clear hgrow2 hown2)
  go_loopw [1, 6] (fun r i wr => ∃ j : Nat, ∃ I R : Int, j ≤ len ∧ I = (len : Int) - 1 - j ∧ i = .int .i64 I ∧ r = .int .i64 R ∧ R = grem xs N j ∧ (∃ L, GrRow xs N j L ∧ wr.ownsRow w1.heap.size 3 1 (.slice (some ⟨w1.heap.size, 0, none⟩) len len) len (L.map (Value.int .i64))) ∧ Kp w1 wr)
    (fun _ i _ => (intOf i + 1).toNat)
  case atStart => exact ⟨0, _, _, by omega, by simp, rfl, rfl, rfl, ⟨_, GrRow.start xs N len HL.out, by simpa using HO2.out⟩, hk2⟩
  case round =>
    obtain ⟨j, I, R, hj, hI, rfl, rfl, hR, ⟨L, hrow, hown⟩, hkp⟩ := hrel
    have HLL := HL.out
    have hRb := grem_bd HA.out hNb.1 j (by omega)
    rw [← hR] at hRb
    by_cases hlt : j < len
    · obtain ⟨b', off', u', eA, hb', hu', hc'⟩ := HR.out.cellOf (k := len - 1 - j) (by omega)
      subst eA
      have cy := (hk1.trans hkp).at1 (hc' (len - 1 - j) _ (get_map (by omega)))
      rw [getD_of] at cy
      have hz0 := hk1.size
      have y0 := allB_iff.1 HA.out (len - 1 - j) (by omega)
      obtain ⟨p, hp⟩ : ∃ p, p = len - 1 - j := ⟨_, rfl⟩
      have cg : wr.cell? ⟨w1.heap.size, p, none⟩ = some (.int .i64 (L.getD p 0)) := by
        rw [hown.cellAt p (by omega), get_map (by rw [hrow.1]; omega), getD_of]
      have fg := hown.frozenAt p
      obtain ⟨G, eG⟩ : ∃ G, G = L.getD p 0 := ⟨_, rfl⟩
      rw [← eG] at cg
      have GS : grem xs N (j + 1) = R % xs.getD p 0 := by rw [grem, HLL, ← hp, hR]
      have hset := hrow.set (by omega) (R / xs.getD p 0) (by rw [hR, HLL, ← hp])
      have hsto := (hown.stored p (.int .i64 (R / xs.getD p 0))).1
      rw [map_set] at hsto
      rw [HLL, ← hp] at hset
      rw [← hp] at cy y0
      obtain ⟨y, hy⟩ : ∃ y, y = xs.getD p 0 := ⟨_, rfl⟩
      rw [← hy] at cy y0 GS hset hsto
      have d1 : 0 ≤ R / y := Int.ediv_nonneg hRb.1 (by omega)
      have d2 : R / y ≤ R := Int.ediv_le_self _ hRb.1
      have d3 : R.tdiv y = R / y := Int.tdiv_eq_ediv_of_nonneg hRb.1
      have d4 : R.tmod y = R % y := Int.tmod_eq_emod_of_nonneg hRb.1
      have d5 := Int.emod_nonneg R (show y ≠ 0 by omega)
      have d6 := Int.emod_lt_of_pos R (show 0 < y by omega)
      obtain ⟨X, hX⟩ : ∃ X, X = R / y := ⟨_, rfl⟩
      obtain ⟨Y, hY⟩ : ∃ Y, Y = R % y := ⟨_, rfl⟩
      rw [← hX] at d1 d2 d3 hset hsto
      rw [← hY] at d4 d5 d6 GS
      have d7 : (y == 0) = false := by simp; omega
      have d8 : IntKind.i64.wrap X = X := IntWalk.i64_in _ (by omega)
      have HS := Lib.hid hsto
      have HSET := Lib.hid hset
      have HGS := Lib.hid GS
      have cy2 : (wr.setCell ⟨w1.heap.size, p, none⟩ (.int .i64 X)).cell? ⟨b', off' + p, none⟩ = some (.int .i64 y) := cell_set cy _ (by simp; omega)
      have i1 : I.toNat = p := by omega
      have i2 : (0 : Int) ≤ I := by omega
      have i3 : I < (len : Int) := by omega
      have HIp := Lib.hid hI
      clear hX hY hy hset hsto GS eG hR hrow hown hc' hu' HLL hp hI
      go_wp2
      go_roundw
      case rel => exact ⟨j + 1, I - 1, Y, by omega, by have := HIp.out; omega, by go_num, by go_num, HGS.out.symm, ⟨_, HSET.out, HS.out⟩, by (repeat (with_reducible first | exact Kp.refl _ | assumption | refine Kp.drew ?_ | refine Kp.drewN ?_ _ | refine Kp.alloc ?_ _ | refine Kp.setCell ?_ (by first | (simp; done) | (simp; omega) | (dsimp only; omega)) _ | refine Kp.trans ?_ (by assumption)))⟩
      case measure => simp [intOf]; omega
    · obtain rfl : j = len := by omega
      have i2 : I < 0 := by omega
      have HO := Lib.hid hown
      have hz : OwI (w1).heap.size wr (.slice (some ⟨w1.heap.size, 0, none⟩) j j) (greedyL xs N) := by
        have hrow' := hrow
        have e := HL.out
        rw [← e] at hrow'
        rw [← hrow'.all]
        unfold OwI
        rw [hrow.1, HL.out]
        refine ⟨hown.1, ?_⟩
        rcases hown.2 with h | ⟨g, cap, cur, e, hb, r⟩
        · exact .inl h
        · exact .inr ⟨g, cap, cur, e, Nat.le_trans hk1.size hb, r⟩
      have HZ := Lib.hid hz
      clear hown hrow HLL hR hI hz
      go_wp2
      go_ret
      exact ⟨_, rfl, HZ.out, hk1.trans hkp⟩
set_option maxHeartbeats 1600000 in
theorem sGreedyIn_any (A : Option Addr) (len c : Nat) (xs : List Int) (N : Int) (w : World) (hl : xs.length = len) (hsys : sysB xs = true) (hN : inB N 0 1000 = true) (hr : Reads w w.heap.size 1 A len (xs.map (.int .i64))) :
    Calls Try.prog 12 #[.slice A len c, .int .i64 N] w fun e w' => ∃ v, e = .returned v ∧ OwI w.heap.size w' v (greedyL xs N) ∧ Kp w w' := by
  have hNb := inB_true.1 hN
  have HR := Lib.hid hr
  obtain ⟨ha, hs, b2, hone⟩ := sysB_bd hsys
  have HA := Lib.hid ha
  have h1 := hsys
  rw [hl] at b2
  have hn : len ≤ 1048576 := by omega
  have HL := Lib.hid hl
  clear ha hs hone hl hr hsys
  obtain ⟨i0, hi, hz0, hz1, hz2⟩ := info_parts int_info
  go_enter Try.func12, Try.ntmps12
  go_wp2_with (first | (go_at_call 24; refine (sSystemOk_any _ _ _ xs _ HL.out hn HR.out).mono ?_; rintro e w1 ⟨rfl, hm⟩; have hk1 := Kp.of_drewN hm; clear hm) | (go_at_call 25; refine (l01In_any _ _ _ _).mono ?_; rintro e w' ⟨rfl, rfl⟩) | (at_make; refine wpList_make_full _ rfl _ _ 22 rfl w1.heap.size 3 i0 (.int .i64 0) 1 Try.underlying22 hi hz0 hz1 .i64 .i64 _ _ len rfl rfl rfl rfl (by rw [hz2]; omega) (by unfold maxLen; omega) (Nat.le_refl _) ?_; intro w2 hown2 hgrow2; have hk2 := (Kp.refl w1).grown hgrow2 (by simp); rw [show (Value.int .i64 0).cells = #[.int .i64 0] from rfl, toList_madeCells_one, Nat.mul_one] at hown2; have HO2 := Lib.hid hown2; clear hgrow2 hown2))
  go_loopw [1, 6] (fun r i wr => ∃ j : Nat, ∃ I R : Int, j ≤ len ∧ I = (len : Int) - 1 - j ∧ i = .int .i64 I ∧ r = .int .i64 R ∧ R = grem xs N j ∧ (∃ L, GrRow xs N j L ∧ wr.ownsRow w1.heap.size 3 1 (.slice (some ⟨w1.heap.size, 0, none⟩) len len) len (L.map (Value.int .i64))) ∧ Kp w1 wr)
    (fun _ i _ => (intOf i + 1).toNat)
  case atStart => exact ⟨0, _, _, by omega, by simp, rfl, rfl, rfl, ⟨_, GrRow.start xs N len HL.out, by simpa using HO2.out⟩, hk2⟩
  case round =>
    obtain ⟨j, I, R, hj, hI, rfl, rfl, hR, ⟨L, hrow, hown⟩, hkp⟩ := hrel
    have HLL := HL.out
    have hRb := grem_bd HA.out hNb.1 j (by omega)
    rw [← hR] at hRb
    by_cases hlt : j < len
    · obtain ⟨b', off', u', eA, hb', hu', hc'⟩ := HR.out.cellOf (k := len - 1 - j) (by omega)
      subst eA
      have cy := (hk1.trans hkp).at1 (hc' (len - 1 - j) _ (get_map (by omega)))
      rw [getD_of] at cy
      have hz0 := hk1.size
      have y0 := allB_iff.1 HA.out (len - 1 - j) (by omega)
      obtain ⟨p, hp⟩ : ∃ p, p = len - 1 - j := ⟨_, rfl⟩
      have cg : wr.cell? ⟨w1.heap.size, p, none⟩ = some (.int .i64 (L.getD p 0)) := by
        rw [hown.cellAt p (by omega), get_map (by rw [hrow.1]; omega), getD_of]
      have fg := hown.frozenAt p
      obtain ⟨G, eG⟩ : ∃ G, G = L.getD p 0 := ⟨_, rfl⟩
      rw [← eG] at cg
      have GS : grem xs N (j + 1) = R % xs.getD p 0 := by rw [grem, HLL, ← hp, hR]
      have hset := hrow.set (by omega) (R / xs.getD p 0) (by rw [hR, HLL, ← hp])
      have hsto := (hown.stored p (.int .i64 (R / xs.getD p 0))).1
      rw [map_set] at hsto
      rw [HLL, ← hp] at hset
      rw [← hp] at cy y0
      obtain ⟨y, hy⟩ : ∃ y, y = xs.getD p 0 := ⟨_, rfl⟩
      rw [← hy] at cy y0 GS hset hsto
      have d1 : 0 ≤ R / y := Int.ediv_nonneg hRb.1 (by omega)
      have d2 : R / y ≤ R := Int.ediv_le_self _ hRb.1
      have d3 : R.tdiv y = R / y := Int.tdiv_eq_ediv_of_nonneg hRb.1
      have d4 : R.tmod y = R % y := Int.tmod_eq_emod_of_nonneg hRb.1
      have d5 := Int.emod_nonneg R (show y ≠ 0 by omega)
      have d6 := Int.emod_lt_of_pos R (show 0 < y by omega)
      obtain ⟨X, hX⟩ : ∃ X, X = R / y := ⟨_, rfl⟩
      obtain ⟨Y, hY⟩ : ∃ Y, Y = R % y := ⟨_, rfl⟩
      rw [← hX] at d1 d2 d3 hset hsto
      rw [← hY] at d4 d5 d6 GS
      have d7 : (y == 0) = false := by simp; omega
      have d8 : IntKind.i64.wrap X = X := IntWalk.i64_in _ (by omega)
      have HS := Lib.hid hsto
      have HSET := Lib.hid hset
      have HGS := Lib.hid GS
      have cy2 : (wr.setCell ⟨w1.heap.size, p, none⟩ (.int .i64 X)).cell? ⟨b', off' + p, none⟩ = some (.int .i64 y) := cell_set cy _ (by simp; omega)
      have i1 : I.toNat = p := by omega
      have i2 : (0 : Int) ≤ I := by omega
      have i3 : I < (len : Int) := by omega
      have HIp := Lib.hid hI
      clear hX hY hy hset hsto GS eG hR hrow hown hc' hu' HLL hp hI
      go_wp2
      go_roundw
      case rel => exact ⟨j + 1, I - 1, Y, by omega, by have := HIp.out; omega, by go_num, by go_num, HGS.out.symm, ⟨_, HSET.out, HS.out⟩, by (repeat (with_reducible first | exact Kp.refl _ | assumption | refine Kp.drew ?_ | refine Kp.drewN ?_ _ | refine Kp.alloc ?_ _ | refine Kp.setCell ?_ (by first | (simp; done) | (simp; omega) | (dsimp only; omega)) _ | refine Kp.trans ?_ (by assumption)))⟩
      case measure => simp [intOf]; omega
    · obtain rfl : j = len := by omega
      have i2 : I < 0 := by omega
      have HO := Lib.hid hown
      have hz : OwI (w).heap.size wr (.slice (some ⟨w1.heap.size, 0, none⟩) j j) (greedyL xs N) := by
        have hrow' := hrow
        have e := HL.out
        rw [← e] at hrow'
        rw [← hrow'.all]
        unfold OwI
        rw [hrow.1, HL.out]
        refine ⟨hown.1, ?_⟩
        rcases hown.2 with h | ⟨g, cap, cur, e, hb, r⟩
        · exact .inl h
        · exact .inr ⟨g, cap, cur, e, Nat.le_trans hk1.size hb, r⟩
      have HZ := Lib.hid hz
      clear hown hrow HLL hR hI hz
      go_wp2
      go_ret
      exact ⟨_, rfl, HZ.out, hk1.trans hkp⟩
end Go.Proofs.Ytjioijpanohgoaa
