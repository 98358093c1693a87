/- StretchMarks: the reference's contract (out of TurnS, by a program, then turned). -/
import Derived.Test.YtoobpkcnmgjccaaTurnS
set_option linter.unusedVariables false
namespace Go.Proofs.Ytoobpkcnmgjccaa
open Go.RowKit
set_option maxHeartbeats 6400000 in
theorem sStretch_any (A : Option Addr) (n c : Nat) (xs : List Int) (N q : Int) (w : World) (hl : xs.length = n) (hn : n ≤ 1048576) (hr : Reads w w.heap.size 1 A n (xs.map (.int .i64))) :
    Calls Try.prog 24 #[.int .i64 N, .slice A n c, .int .i64 q] w fun e w' => ∃ v, e = .returned v ∧ OwI w.heap.size w' v (smL N q xs) ∧ Kp w w' := by
  obtain ⟨i0, hi0, hz0, hz1, hz2⟩ := info_parts int_info
  have HR := Lib.hid hr
  have HL := Lib.hid hl
  clear hr hl
  have HO0 := Lib.hid (owi_empty w)
  have HK0 := Lib.hid (show Kp w (w.alloc (.cells #[] 3)) from (Kp.refl w).alloc _)
  go_enter Try.func24, Try.ntmps24
  go_wp2_with fail
  by_cases hok : smOk N q xs = true
  · obtain ⟨h12, h3⟩ := Bool.and_eq_true_iff.1 hok
    obtain ⟨h1, h2⟩ := Bool.and_eq_true_iff.1 h12
    have hg : ((Int.gcd q N : Int) == 1) = true := h3
    have HG := Lib.hid hg
    have hcb := circB_bd h1
    have hq := inB_true.1 h2
    rw [HL.out] at hcb
    have H1 := Lib.hid h1
    have H2 := Lib.hid h2
    have HT := Lib.hid (show smL N q xs = srt (xs.map fun m => m * q % N) by rw [smL, if_pos hok])
    obtain ⟨hN, hn8, _, hall⟩ := hcb
    have HA := Lib.hid hall
    clear h1 h2 h12 h3 hg hok hall
    go_loopw [7, 8] (fun o i wr => ∃ k : Nat, k ≤ n ∧ i = .int .i64 k ∧ OwI w.heap.size wr o ((xs.take k).map fun m => m * q % N) ∧ Kp w wr) (fun _ i _ => n - (intOf i).toNat)
    case atStart => exact ⟨0, by omega, rfl, HO0.out, HK0.out⟩
    case round =>
      obtain ⟨k, hk, rfl, ho, hkp⟩ := hrel
      obtain ⟨Av, cv, rfl, hrd⟩ := ho.rd
      have hlen : ((xs.take k).map fun m => m * q % N).length = k := by rw [List.length_map, List.length_take, HL.out]; omega
      rw [hlen]
      have HOW := Lib.hid (show wr.ownsRow w.heap.size 3 1 (.slice Av k cv) k (((xs.take k).map fun m => m * q % N).map (.int .i64)) by have := ho; unfold OwI at this; rw [hlen] at this; exact this)
      have hrd : Reads wr wr.heap.size 1 Av k (((xs.take k).map fun m => m * q % N).map (.int .i64)) := by rw [hlen] at hrd; exact hrd
      have HRD := Lib.hid hrd
      have HKP := Lib.hid hkp
      have hz := hkp.size
      clear ho hrd hkp
      by_cases hlt : k < n
      · obtain ⟨b', off, u', rfl, hb', hu', hc'⟩ := (HR.out.kp HKP.out).cellOf (k := k) (by omega)
        have cx := hc' k _ (get_map (by rw [HL.out]; exact hlt))
        have hxx : xs[k]'(by rw [HL.out]; exact hlt) = xs.getD k 0 := by rw [List.getD_eq_getElem?_getD, List.getElem?_eq_getElem (by rw [HL.out]; exact hlt)]; rfl
        rw [hxx] at cx
        have hX := allB_iff.1 HA.out k (by rw [HL.out]; exact hlt)
        have HNX := Lib.hid (map_take_succ (fun m => m * q % N) (show k < xs.length by rw [HL.out]; exact hlt))
        obtain ⟨X, eX⟩ : ∃ X, X = xs.getD k 0 := ⟨_, rfl⟩
        rw [← eX] at cx hX HNX
        have i0' : (0 : Int) ≤ (k : Int) := by omega
        have i1 : (k : Int) < (n : Int) := by omega
        have hM := mul_bd (a := X) (b := q) (A := 60) (B := 60) (by omega) (by omega)
        have hM0 := Int.mul_nonneg (show 0 ≤ X by omega) (show 0 ≤ q by omega)
        have t1 : (X * q).tmod N = X * q % N := Int.tmod_eq_emod_of_nonneg hM0
        obtain ⟨M, eM⟩ : ∃ M, X * q = M := ⟨_, rfl⟩
        rw [eM] at t1 hM hM0
        have t2 : (N == 0) = false := by simp; omega
        obtain ⟨R, eR⟩ : ∃ R, R = X * q % N := ⟨_, rfl⟩
        rw [← eM] at t1
        rw [← eR] at t1
        rw [eM] at t1
        have ER := Lib.hid eR
        clear hc' hu' hxx eX eR
        go_wp2_with fail
        refine (sCircleOk_any _ _ _ xs _ _ HL.out hn (HR.out.kp HKP.out)).mono ?_
        rw [H1.out]
        rintro e w2 ⟨rfl, hm⟩
        have hk2 := Kp.of_drewN hm
        clear hm
        have cx := hk2.at1 cx
        have HOW := Lib.hid (owns_kp HOW.out hk2)
        have HK2 := Lib.hid (HKP.out.trans hk2)
        have hz := HK2.out.size
        clear hk2
        have t3 := HG.out
        go_wp2_with (first | (go_at_call 30; refine (l01In_any _ _ _ _).mono ?_; rintro e w' ⟨rfl, rfl⟩; rw [H2.out]) | (go_at_call 37; refine (l02Gcd_any _ _ _ (by omega) (by omega)).mono ?_; rintro e w' ⟨rfl, hm⟩; obtain ⟨mm, rfl⟩ := hm) | (at_builtin; refine wpList_append_any _ rfl (.tmp 33) (.tmp 42) _ rfl w.heap.size 3 i0 _ 1 8 Try.underlying22 hi0 hz0 hz1 hz2 rfl (by omega) (.slice Av k cv) k (((xs.take k).map fun m => m * q % N).map (.int .i64)) rfl (HOW.out.alloc _) (w2.heap.size + 1) (some ⟨w2.heap.size, 0, none⟩) 1 1 [.int .i64 R] rfl (reads_one _ _ _) (oneCell_one _) (by simp only [maxLen]; omega) (by omega) (by simp; omega) ?_; intro v2 w5 hown2 hg2 hat2; have HO5 := Lib.hid hown2; have HG5 := Lib.hid hg2; clear hown2 hg2 hat2))
        go_roundw
        case rel =>
          refine ⟨k + 1, by omega, by go_num, ?_, ((HK2.out.drewN _).alloc _).grown HG5.out (fun k' e => (World.ownsRow.lt HOW.out k' e).1)⟩
          rw [HNX.out, ← ER.out]
          refine OwI.push (w := w) (w1 := w) (v := .bool true) ?_
          rw [List.length_map, List.length_take, HL.out, Nat.min_eq_left (by omega)]
          exact HO5.out
        case measure => simp [intOf]; omega
      · obtain rfl : k = n := by omega
        go_wp2_with fail
        refine (l10Sorted_any _ _ _ _ _ (by rw [List.length_map, List.length_take, HL.out]; omega) hn HRD.out).mono ?_
        rintro e w3 ⟨v, rfl, ho3, hk3⟩
        have HO3 := Lib.hid (show OwI w.heap.size w3 v (smL N q xs) by
          have e : xs.take k = xs := List.take_of_length_le (by rw [HL.out]; omega)
          rw [e] at ho3
          rw [HT.out]; exact ho3.weak hz)
        have HK3 := Lib.hid (HKP.out.trans hk3)
        clear ho3 hk3
        go_wp2_with fail
        go_ret
        exact ⟨_, rfl, HO3.out, HK3.out⟩
  · have HT := Lib.hid (show smL N q xs = [] by rw [smL, if_neg hok])
    have HNO := Lib.hid hok
    refine wp_loop_rounds 1 ?_
    rw [rounds_succ]
    obtain ⟨b1, hb1⟩ : ∃ b, b = circB N xs := ⟨_, rfl⟩
    obtain ⟨b2, hb2⟩ : ∃ b, b = inB q 1 (N - 1) := ⟨_, rfl⟩
    rw [smOk, ← hb1, ← hb2] at hok
    have H1 := Lib.hid hb1
    have H2 := Lib.hid hb2
    clear hb1 hb2
    by_cases h0 : n = 0
    · subst h0
      clear hok
      go_wp2_with fail
      refine (l10Sorted_any _ 0 _ [] _ rfl (by omega) (by obtain ⟨_, _, e, h⟩ := HO0.out.rd; cases e; exact h)).mono ?_
      (rw [srt_nil]; rintro e w3 ⟨v, rfl, ho3, hk3⟩; have HO3 := Lib.hid (ho3.weak HK0.out.size); have HK3 := Lib.hid (HK0.out.trans hk3); clear ho3 hk3; go_wp2_with fail; go_ret; exact ⟨_, rfl, by rw [HT.out]; exact HO3.out, HK3.out⟩)
    · have h1 : (0 : Int) < (n : Int) := by omega
      go_wp2_with fail
      refine (sCircleOk_any _ _ _ xs _ _ HL.out hn (HR.out.kp HK0.out)).mono ?_
      rw [← H1.out]
      rintro e w2 ⟨rfl, hm⟩
      have hk2 := Kp.of_drewN hm
      clear hm
      have HO0 := Lib.hid (HO0.out.kp hk2)
      have HK0 := Lib.hid (HK0.out.trans hk2)
      clear hk2
      cases b1 with
      | false =>
        clear hok
        go_wp2_with fail
        refine (l10Sorted_any _ 0 _ [] _ rfl (by omega) (by obtain ⟨_, _, e, h⟩ := HO0.out.rd; cases e; exact h)).mono ?_
        (rw [srt_nil]; rintro e w3 ⟨v, rfl, ho3, hk3⟩; have HO3 := Lib.hid (ho3.weak HK0.out.size); have HK3 := Lib.hid (HK0.out.trans hk3); clear ho3 hk3; go_wp2_with fail; go_ret; exact ⟨_, rfl, by rw [HT.out]; exact HO3.out, HK3.out⟩)
      | true =>
        have hN := (circB_bd H1.out.symm).1
        cases b2 with
        | true =>
          have h3 : inB q 1 (N - 1) = true := H2.out.symm
          have hq := inB_true.1 h3
          have H3 := Lib.hid h3
          have t3 : ((Int.gcd q N : Int) == 1) = false := by simpa using hok
          clear hok h3
          go_wp2_with (first | (go_at_call 30; refine (l01In_any _ _ _ _).mono ?_; rintro e w' ⟨rfl, rfl⟩; rw [H3.out]) | (go_at_call 37; refine (l02Gcd_any _ _ _ (by omega) (by omega)).mono ?_; rintro e w' ⟨rfl, hm⟩; obtain ⟨mm, rfl⟩ := hm))
          have HO0 := Lib.hid (HO0.out.kp ((Kp.refl w2).drewN mm))
          have HK0 := Lib.hid (HK0.out.drewN mm)
          refine (l10Sorted_any _ 0 _ [] _ rfl (by omega) (by obtain ⟨_, _, e, h⟩ := HO0.out.rd; cases e; exact h)).mono ?_
          (rw [srt_nil]; rintro e w3 ⟨v, rfl, ho3, hk3⟩; have HO3 := Lib.hid (ho3.weak HK0.out.size); have HK3 := Lib.hid (HK0.out.trans hk3); clear ho3 hk3; go_wp2_with fail; go_ret; exact ⟨_, rfl, by rw [HT.out]; exact HO3.out, HK3.out⟩)
        | false =>
          clear hok
          have H3 := Lib.hid (show inB q 1 (N - 1) = false from H2.out.symm)
          go_wp2_with (go_at_call 30; refine (l01In_any _ _ _ _).mono ?_; rintro e w' ⟨rfl, rfl⟩; rw [H3.out])
          refine (l10Sorted_any _ 0 _ [] _ rfl (by omega) (by obtain ⟨_, _, e, h⟩ := HO0.out.rd; cases e; exact h)).mono ?_
          (rw [srt_nil]; rintro e w3 ⟨v, rfl, ho3, hk3⟩; have HO3 := Lib.hid (ho3.weak HK0.out.size); have HK3 := Lib.hid (HK0.out.trans hk3); clear ho3 hk3; go_wp2_with fail; go_ret; exact ⟨_, rfl, by rw [HT.out]; exact HO3.out, HK3.out⟩)
end Go.Proofs.Ytoobpkcnmgjccaa
