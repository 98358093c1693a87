/- IsDifferenceSet, apart: the plain words, and the contracts. -/
import Derived.Test.YtoobpkcnmgjccaaArcs
set_option linter.unusedVariables false
namespace Go.Proofs.Ytoobpkcnmgjccaa
open Go.RowKit

theorem OwI.cells {B : Nat} {w : World} {v : Value} {xs : List Int} (h : OwI B w v xs) (h0 : 0 < xs.length) :
    ∃ g cap, v = .slice (some ⟨g, 0, none⟩) xs.length cap ∧ xs.length ≤ cap ∧ cap ≤ 9223372036854775807 ∧ B ≤ g ∧ g < w.heap.size ∧ ∀ j, j < xs.length → w.cell? ⟨g, j, none⟩ = some (.int .i64 (xs.getD j 0)) := by
  obtain ⟨g, cap, rfl, hb, hg⟩ := h.form h0
  have hc : xs.length ≤ cap ∧ cap ≤ 9223372036854775807 := by
    rcases h.2 with ⟨e, _⟩ | ⟨g', cap', cur, e, _, _, h1, h2, _⟩
    · cases e
    · cases e; exact ⟨h1, by unfold maxLen at h2; omega⟩
  refine ⟨g, cap, rfl, hc.1, hc.2, hb, hg, fun j hj => ?_⟩
  rw [World.ownsRow.cellAt h j (by omega), get_map hj, getD_of]
/-- What holds of every element but the first. -/
def restB (p : Int → Bool) (l : List Int) : Bool := (l.drop 1).all p
theorem restB_iff {p : Int → Bool} {l : List Int} : restB p l = true ↔ ∀ j, j + 1 < l.length → p (l.getD (j + 1) 0) = true := by
  rw [restB, List.all_eq_true]
  constructor
  · intro h j hj
    have hm : l[j + 1] ∈ l.drop 1 := by
      rw [List.mem_drop_iff_getElem]
      exact ⟨j, by omega, by congr 1; omega⟩
    have := h _ hm
    rwa [getD_of] at this
  · intro h x hx
    rw [List.mem_drop_iff_getElem] at hx
    obtain ⟨j, hj, rfl⟩ := hx
    have := h j (by omega)
    rw [← getD_of (by omega)] at this
    simp only [Nat.add_comm 1 j]
    exact this
def dsB (N : Int) (xs : List Int) : Bool := decide (1 < (arcs N xs).length) && restB (fun k => k == 1) (arcs N xs)
def apartB (N : Int) (xs : List Int) : Bool := restB (fun k => decide (k ≤ 1)) (arcs N xs)
theorem arcs_length {N : Nat} {xs : List Int} (h : circB N xs = true) : (arcs N xs).length = N := by
  rw [arcs, if_pos h, Int.toNat_natCast, arcsOut_length]
theorem sIsDS_any (A : Option Addr) (n c : Nat) (xs : List Int) (N : Int) (w : World) (hl : xs.length = n) (hn : n ≤ 1048576) (hr : Reads w w.heap.size 1 A n (xs.map (.int .i64))) :
    Calls Try.prog 18 #[.int .i64 N, .slice A n c] w fun e w' => e = .returned (.bool (dsB N xs)) ∧ Kp w w' := by
  have HR := Lib.hid hr
  clear hr
  go_enter Try.func18, Try.ntmps18
  go_wp2_with fail
  refine (sArcsOf_any _ _ _ xs _ _ hl hn HR.out).mono ?_
  rintro e w1 ⟨v, rfl, ho, hk1⟩
  have HL := arcs_len N xs
  have HD := Lib.hid (show dsB N xs = (decide (1 < (arcs N xs).length) && restB (fun k => k == 1) (arcs N xs)) from rfl)
  obtain ⟨R, eR⟩ : ∃ R, R = arcs N xs := ⟨_, rfl⟩
  rw [← eR] at ho HL HD
  clear eR
  by_cases h1 : R.length = 0
  · have e0 : R = [] := List.eq_nil_of_length_eq_zero h1
    subst e0
    obtain ⟨A2, c2, rfl, _⟩ := ho.rd
    have HO := Lib.hid ho
    clear ho
    go_wp2_with fail
    refine wp_loop_rounds 1 ?_
    rw [rounds_succ]
    go_wp2_with fail
    go_ret
    exact ⟨ret_bool (by rw [HD.out]; simp), hk1⟩
  · obtain ⟨g, cap, rfl, hc1, hc2, hb, hg, hcell⟩ := ho.cells (by omega)
    obtain ⟨M, hM⟩ : ∃ M, M = R.length := ⟨_, rfl⟩
    rw [← hM] at HL h1 hc1 hcell ⊢
    have HM := Lib.hid hM
    have HC := Lib.hid hcell
    clear hM hcell ho hb
    have h1' : 1 ≤ M := by omega
    clear h1
    go_wp2_with fail
    go_loop [6] (fun i => ∃ k : Nat, k + 1 ≤ M ∧ i = .int .i64 ((k : Int) + 1) ∧ (∀ j, j < k → (R.getD (j + 1) 0 == 1) = true)) (fun i => M + 1 - (intOf i).toNat)
    case atStart => exact ⟨0, by omega, rfl, fun j hj => by omega⟩
    case round =>
      obtain ⟨k, hk, rfl, hok⟩ := hrel
      have HOK := Lib.hid hok
      clear hok
      by_cases hlt : k + 1 < M
      · have cq := HC.out (k + 1) hlt
        obtain ⟨d, hd⟩ : ∃ d, d = R.getD (k + 1) 0 := ⟨_, rfl⟩
        rw [← hd] at cq
        have HDD := Lib.hid hd
        clear hd
        have i1 : (k : Int) + 1 < (M : Int) := by omega
        by_cases h : d = 1
        · have t : (d != 1) = false := by simp [h]
          have HH := Lib.hid h
          clear h
          go_wp2_with fail
          go_round
          case rel =>
            refine ⟨k + 1, by omega, by go_num, fun j hj => ?_⟩
            rcases Nat.lt_or_ge j k with h | h
            · exact HOK.out j h
            · obtain rfl : j = k := by omega
              rw [← HDD.out, HH.out]; rfl
          case measure => simp [intOf]; omega
        · have t : (d != 1) = true := by simp [h]
          have HH := Lib.hid h
          clear h
          go_wp2_with fail
          go_ret
          refine ⟨ret_bool ?_, hk1⟩
          symm
          rw [HD.out, ← HM.out, Bool.eq_false_iff]
          intro h
          rw [Bool.and_eq_true] at h
          have := restB_iff.1 h.2 k (by rw [← HM.out]; exact hlt)
          rw [← HDD.out] at this
          exact HH.out (by simpa using this)
      · have i1 : (M : Int) ≤ (k : Int) + 1 := by omega
        go_wp2_with fail
        go_ret
        refine ⟨ret_bool ?_, hk1⟩
        rw [HD.out, ← HM.out, restB_iff.2 (fun j hj => HOK.out j (by rw [← HM.out] at hj; omega)), Bool.and_true]
        first | rfl | (simp; done) | (simp; omega)
theorem iIsDS_any (A : Option Addr) (n c : Nat) (xs : List Int) (N : Int) (w : World) (hl : xs.length = n) (hn : n ≤ 1048576) (hr : Reads w w.heap.size 1 A n (xs.map (.int .i64))) :
    Calls Try.prog 19 #[.int .i64 N, .slice A n c] w fun e w' => e = .returned (.bool (dsB N xs)) ∧ Kp w w' := by
  have HR := Lib.hid hr
  clear hr
  by_cases hcb : circB N xs = true
  · obtain ⟨b1, b2, _, _⟩ := circB_bd hcb
    by_cases hN : N = 1
    · subst hN
      have e : dsB 1 xs = false := by
        have := arcs_length (N := 1) hcb
        rw [dsB, show (arcs 1 xs).length = 1 from this]
        rfl
      have HE := Lib.hid e
      clear e
      go_enter Try.func19, Try.ntmps19
      go_wp2_with (go_at_call 12; refine (iCircleOk_any _ _ _ xs _ _ hl hn HR.out).mono ?_; rintro e w1 ⟨rfl, hm⟩; have hk1 := Kp.of_drewN hm; clear hm)
      go_ret
      exact ⟨ret_bool HE.out.symm, hk1⟩
    · obtain ⟨M, rfl⟩ : ∃ M : Nat, N = (M : Int) := ⟨N.toNat, by omega⟩
      have t0 : ((M : Int) == 1) = false := by simpa using hN
      have hM2 : 2 ≤ M := by omega
      have AL := arcs_length (N := M) hcb
      have HD := Lib.hid (show dsB M xs = restB (fun k => k == 1) (arcs M xs) by rw [dsB, AL]; simp; omega)
      have hC := fun W hr => iArcsOf_any A n c xs (M : Int) W hl hn hr
      obtain ⟨R, eR⟩ : ∃ R, R = arcs M xs := ⟨_, rfl⟩
      rw [← eR] at AL HD hC
      have HC := Lib.hid hC
      have HAL := Lib.hid AL
      clear eR hC AL hN
      go_enter Try.func19, Try.ntmps19
      go_wp2_with (first | (go_at_call 12; refine (iCircleOk_any _ _ _ xs _ _ hl hn HR.out).mono ?_; rintro e w1 ⟨rfl, hm⟩; have hk1 := Kp.of_drewN hm; clear hm) | (go_at_call 15; refine (HC.out _ (HR.out.kp hk1)).mono ?_; rintro e w2 ⟨v, rfl, ho, hk2⟩; obtain ⟨g, cap, rfl, hc1, hc2, hb, hg, hcell⟩ := ho.cells (by rw [HAL.out]; omega); rw [HAL.out] at hc1 hcell ⊢; have HCE := Lib.hid hcell; clear hcell ho hb; have hcap : ¬ cap = 1 := by omega))
      go_loop [20] (fun i => ∃ k : Nat, k + 1 ≤ M ∧ i = .int .i64 (k : Int) ∧ (∀ j, j < k → (R.getD (j + 1) 0 == 1) = true)) (fun i => M + 1 - (intOf i).toNat)
      case atStart => exact ⟨0, by omega, rfl, fun j hj => by omega⟩
      case round =>
        obtain ⟨k, hk, rfl, hok⟩ := hrel
        have HOK := Lib.hid hok
        clear hok
        by_cases hlt : k + 1 < M
        · have cq := HCE.out (1 + k) (by omega)
          obtain ⟨d, hd⟩ : ∃ d, d = R.getD (1 + k) 0 := ⟨_, rfl⟩
          rw [← hd] at cq
          have HDD := Lib.hid hd
          clear hd
          have i1 : k < M - 1 := by omega
          by_cases h : d = 1
          · have t : (d != 1) = false := by simp [h]
            have HH := Lib.hid h
            clear h
            go_wp2_with fail
            go_round
            case rel =>
              refine ⟨k + 1, by omega, by go_num, fun j hj => ?_⟩
              rcases Nat.lt_or_ge j k with h | h
              · exact HOK.out j h
              · obtain rfl : j = k := by omega
                rw [Nat.add_comm j 1, ← HDD.out, HH.out]; rfl
            case measure => simp [intOf]; omega
          · have t : (d != 1) = true := by simp [h]
            have HH := Lib.hid h
            clear h
            go_wp2_with fail
            go_ret
            refine ⟨ret_bool ?_, hk1.trans hk2⟩
            symm
            rw [HD.out, Bool.eq_false_iff]
            intro h
            have := restB_iff.1 h k (by rw [HAL.out]; exact hlt)
            rw [Nat.add_comm k 1, ← HDD.out] at this
            exact HH.out (by simpa using this)
        · have i1 : M - 1 ≤ k := by omega
          go_wp2_with fail
          go_ret
          refine ⟨ret_bool ?_, hk1.trans hk2⟩
          rw [HD.out, restB_iff.2 (fun j hj => HOK.out j (by rw [HAL.out] at hj; omega))]
  · have e : dsB N xs = false := by rw [dsB, arcs, if_neg hcb]; rfl
    have HE := Lib.hid e
    clear e
    go_enter Try.func19, Try.ntmps19
    go_wp2_with (go_at_call 12; refine (iCircleOk_any _ _ _ xs _ _ hl hn HR.out).mono ?_; rintro e w1 ⟨rfl, hm⟩; have hk1 := Kp.of_drewN hm; clear hm)
    go_ret
    exact ⟨ret_bool HE.out.symm, hk1⟩
theorem apart_any (A : Option Addr) (n c : Nat) (xs : List Int) (N : Int) (w : World) (hl : xs.length = n) (hn : n ≤ 1048576) (hr : Reads w w.heap.size 1 A n (xs.map (.int .i64))) :
    Calls Try.prog 42 #[.int .i64 N, .slice A n c] w fun e w' => e = .returned (.bool (apartB N xs)) ∧ Kp w w' := by
  have HR := Lib.hid hr
  clear hr
  go_enter Try.func42, Try.ntmps42
  go_wp2_with fail
  refine (iArcsOf_any _ _ _ xs _ _ hl hn HR.out).mono ?_
  rintro e w1 ⟨v, rfl, ho, hk1⟩
  have HL := arcs_len N xs
  have HD := Lib.hid (show apartB N xs = restB (fun k => decide (k ≤ 1)) (arcs N xs) from rfl)
  obtain ⟨R, eR⟩ : ∃ R, R = arcs N xs := ⟨_, rfl⟩
  rw [← eR] at ho HL HD
  clear eR
  by_cases h1 : R.length = 0
  · have e0 : R = [] := List.eq_nil_of_length_eq_zero h1
    subst e0
    obtain ⟨A2, c2, rfl, _⟩ := ho.rd
    have HO := Lib.hid ho
    clear ho
    go_wp2_with fail
    refine wp_loop_rounds 1 ?_
    rw [rounds_succ]
    go_wp2_with fail
    go_ret
    exact ⟨ret_bool (by rw [HD.out]; simp [restB]), hk1⟩
  · obtain ⟨g, cap, rfl, hc1, hc2, hb, hg, hcell⟩ := ho.cells (by omega)
    obtain ⟨M, hM⟩ : ∃ M, M = R.length := ⟨_, rfl⟩
    rw [← hM] at HL h1 hc1 hcell ⊢
    have HM := Lib.hid hM
    have HC := Lib.hid hcell
    clear hM hcell ho hb
    have h1' : 1 ≤ M := by omega
    clear h1
    go_wp2_with fail
    go_loop [11] (fun i => ∃ k : Nat, k ≤ M ∧ i = .int .i64 (k : Int) ∧ (∀ j, j + 1 < k → R.getD (j + 1) 0 ≤ 1)) (fun i => M + 1 - (intOf i).toNat)
    case atStart => exact ⟨0, by omega, rfl, fun j hj => by omega⟩
    case round =>
      obtain ⟨k, hk, rfl, hok⟩ := hrel
      have HOK := Lib.hid hok
      clear hok
      by_cases hlt : k < M
      · have cq := HC.out k hlt
        obtain ⟨d, hd⟩ : ∃ d, d = R.getD k 0 := ⟨_, rfl⟩
        rw [← hd] at cq
        have HDD := Lib.hid hd
        clear hd
        have i1 : (k : Int) < (M : Int) := by omega
        by_cases h0 : 0 < k
        · have t0 : (0 : Int) < (k : Int) := by omega
          by_cases h : d ≤ 1
          · go_wp2_with fail
            go_round
            case rel =>
              refine ⟨k + 1, by omega, by go_num, fun j hj => ?_⟩
              rcases Nat.lt_or_ge (j + 1) k with h | h
              · exact HOK.out j h
              · obtain rfl : k = j + 1 := by omega
                rw [← HDD.out]; assumption
            case measure => simp [intOf]; omega
          · have h' : 1 < d := by omega
            go_wp2_with fail
            go_ret
            refine ⟨ret_bool ?_, hk1⟩
            symm
            rw [HD.out, Bool.eq_false_iff]
            intro h
            have := restB_iff.1 h (k - 1) (by rw [← HM.out]; omega)
            rw [show k - 1 + 1 = k by omega, ← HDD.out] at this
            simp at this
            omega
        · have t0 : (k : Int) ≤ 0 := by omega
          have K0 := Lib.hid (show k = 0 by omega)
          clear h0 t0
          have t1 : decide (0 < k) = false := by have := K0.out; simp; omega
          go_wp2_with fail
          go_round
          case rel => exact ⟨k + 1, by omega, by go_num, fun j hj => by have := K0.out; omega⟩
          case measure => simp [intOf]; omega
      · have i1 : M ≤ k := by omega
        go_wp2_with fail
        go_ret
        refine ⟨ret_bool ?_, hk1⟩
        rw [HD.out, restB_iff.2 (fun j hj => by have := HOK.out j (by rw [← HM.out] at hj; omega); simpa using this)]
end Go.Proofs.Ytoobpkcnmgjccaa
