/- FnCircles: the walk. -/
import Derived.Test.YtoobpkcnmgjccaaCircD
import Derived.Test.YtoobpkcnmgjccaaTurnI
import Derived.Test.YtoobpkcnmgjccaaDiffSet
set_option linter.unusedVariables false
namespace Go.Proofs.Ytoobpkcnmgjccaa
open Go.ChangeShapes Go.WideShapes Go.ChangeAt Go.RowKit Go.Joins Go.Deep
namespace fnCircles
theorem sameInts_any (A A' : Option Addr) (n c c' : Nat) (xs : List Int) (w : World) (hl : xs.length = n) (hn : n ≤ 1048576) (hr : Reads w w.heap.size 1 A n (xs.map (.int .i64))) (hr' : Reads w w.heap.size 1 A' n (xs.map (.int .i64))) :
    Calls Try.prog 29 #[.slice A n c, .slice A' n c'] w fun e w' => e = .returned (.bool true) ∧ Kp w w' := by
  go_enter Try.func29, Try.ntmps29
  go_wp2
  go_loopw [5] (fun i wr => ∃ k : Nat, k ≤ n ∧ i = .int .i64 k ∧ Kp w wr) (fun i _ => n - (intOf i).toNat)
  case atStart => exact ⟨0, by omega, rfl, Kp.refl _⟩
  case round =>
    obtain ⟨k, hk, rfl, hkp⟩ := hrel
    by_cases hlt : k < n
    · obtain ⟨b, off, u, rfl, hb, hu, hc⟩ := (hr.kp hkp).cellOf (k := k) (by omega)
      obtain ⟨b', off', u', rfl, hb', hu', hc'⟩ := (hr'.kp hkp).cellOf (k := k) (by omega)
      have cx := hc k _ (get_map (by omega))
      have cy := hc' k _ (get_map (by omega))
      obtain ⟨y, hy⟩ : ∃ y, y = xs[k]'(by omega) := ⟨_, rfl⟩
      rw [← hy] at cx cy
      have i0 : (0 : Int) ≤ (k : Int) := by omega
      have i1 : (k : Int) < (n : Int) := by omega
      clear hy hc hc' hu hu'
      go_wp2
      go_quiet (fail)
      go_wp2
      go_roundw
      case rel => exact ⟨k + 1, by omega, by go_num, by (repeat (with_reducible first | exact Kp.refl _ | assumption | refine Kp.drew ?_ | refine Kp.drewN ?_ _ | refine Kp.alloc ?_ _ | refine Kp.setCell ?_ (by first | (simp; done) | (simp; omega) | (dsimp only; omega)) _ | refine Kp.trans ?_ (by assumption)))⟩
      case measure => simp [intOf]; omega
    · obtain rfl : k = n := by omega
      go_wp2
      go_ret
      exact ⟨rfl, hkp⟩
theorem arcs_small {N : Nat} {xs : List Int} (h : circB (N : Int) xs = true) : ∀ d, 0 ≤ (arcs (N : Int) xs).getD d 0 ∧ (arcs (N : Int) xs).getD d 0 ≤ 64 := by
  have hb := circB_bd h
  rw [arcs, if_pos h]
  intro d
  have h1 := arcsOut_low (N : Int).toNat xs xs.length d
  have h2 : xs.length * xs.length ≤ 8 * 8 := Nat.mul_le_mul (by omega) (by omega)
  omega
theorem smK_small {N : Nat} {xs : List Int} (h : circB (N : Int) xs = true) : ∀ k : Nat, 0 ≤ smK (arcs (N : Int) xs) k ∧ smK (arcs (N : Int) xs) k ≤ 64 * (k : Int) := by
  intro k
  induction k with
  | zero => simp [smK]
  | succ k ih => have := arcs_small h k; rw [smK]; omega
set_option maxRecDepth 20000 in
set_option maxHeartbeats 12800000 in
theorem walk (A : Option Addr) (n c : Nat) (xs : List Int) (w : World) (hl : xs.length = n) (_ : n ≤ 9223372036854775807) (hr : Reads w w.heap.size 1 A n (xs.map (.int .u8))) (hx : ∀ x ∈ xs, 0 ≤ x ∧ x ≤ 255) :
    Calls Try.prog 9 #[.slice A n c] w fun x w' => x = .returned (.bool true) ∧ Below w.heap.size w w' := by
  have HR := Lib.hid hr
  have HX := Lib.hid hx
  have HL := Lib.hid hl
  clear hr hx hl
  by_cases hbig : (1048576 : Int) < (n : Int)
  · have t0 : decide ((1048576 : Int) < (n : Int)) = true := by simpa using hbig
    go_enter Try.func9, Try.ntmps9
    go_wp2_with (go_at_call 26; refine (big_any _ _ _ _).mono ?_; rintro e w' ⟨rfl, rfl⟩)
    go_ret
    exact ⟨rfl, Below.refl _ _⟩
  · have t0 : decide ((1048576 : Int) < (n : Int)) = false := by simpa using hbig
    have hn : n ≤ 1048576 := by omega
    clear hbig
    go_enter Try.func9, Try.ntmps9
    go_wp2_with (go_at_call 26; refine (big_any _ _ _ _).mono ?_; rintro e w' ⟨rfl, rfl⟩)
    refine (drawCircle_any A n c xs w HL.out hn HR.out HX.out).mono ?_
    rintro e w1 ⟨v, N, L, rfl, hcb, ho, hk1⟩
    have hb := circB_bd hcb
    obtain ⟨Av, cv, rfl, hrl⟩ := ho.rd
    obtain ⟨Q, hQ⟩ : ∃ Q, Q = L.length := ⟨_, rfl⟩
    rw [← hQ] at hrl hb ⊢
    have hN : 1 ≤ N ∧ N ≤ 60 := by omega
    have hQ8 : 1 ≤ Q ∧ Q ≤ 8 := by omega
    have HQ := Lib.hid hQ
    have HCB := Lib.hid hcb
    have HRL := Lib.hid hrl
    have K1 := Lib.hid hk1
    clear hQ hcb hrl ho hk1 hb
    go_wp2_with fail
    refine (iArcsOf_any _ _ _ L (N : Int) _ HQ.out.symm (by omega) HRL.out).mono ?_
    rintro e w2 ⟨v2, rfl, ho2, hk2⟩
    have hal := arcs_length HCB.out
    have hsm := smK_small HCB.out
    have hts := arcs_sum HCB.out
    rw [← HQ.out] at hts
    obtain ⟨R, eR⟩ : ∃ R, R = arcs (N : Int) L := ⟨_, rfl⟩
    rw [← eR] at ho2 hal hsm hts
    have har : ∀ d, 0 ≤ R.getD d 0 ∧ R.getD d 0 ≤ 64 := by rw [eR]; exact arcs_small HCB.out
    obtain ⟨g2, cap2, rfl, hp1, hp2, hp3, hp4, hcell⟩ := ho2.cells (by rw [hal]; omega)
    have hrd2 : Reads w2 w2.heap.size 1 (some ⟨g2, 0, none⟩) R.length (R.map (.int .i64)) := by obtain ⟨_, _, e, h⟩ := ho2.rd; cases e; exact h
    rw [hal] at hcell hrd2 ⊢
    have HAL := Lib.hid hal
    have HSM := Lib.hid hsm
    have HTS := Lib.hid hts
    have ER := Lib.hid eR
    have HAR := Lib.hid har
    have HC2 := Lib.hid hcell
    have HR2 := Lib.hid hrd2
    have K2 := Lib.hid (K1.out.trans hk2)
    have J2 := Lib.hid hk2
    clear hal hsm hts eR har hcell hrd2 ho2 hk2 hp1 hp2 hp3 hp4
    go_wp2_with fail
    go_loopw [7, 8] (fun s i wr => ∃ k : Nat, k ≤ N ∧ i = .int .i64 k ∧ s = .int .i64 (smK R k) ∧ Kp w2 wr) (fun _ i _ => N - (intOf i).toNat)
    case atStart => exact ⟨0, by omega, rfl, rfl, Kp.refl _⟩
    case round =>
      obtain ⟨k, hk, rfl, rfl, hkp⟩ := hrel
      have hs := HSM.out k
      by_cases hlt : k < N
      · have c0 := hkp.at1 (HC2.out k hlt)
        have hY := HAR.out k
        have eS : smK R (k + 1) = smK R k + R.getD k 0 := rfl
        obtain ⟨Y, hYe⟩ : ∃ Y, Y = R.getD k 0 := ⟨_, rfl⟩
        obtain ⟨U, hUe⟩ : ∃ U, U = smK R k := ⟨_, rfl⟩
        rw [← hYe] at c0 hY eS
        rw [← hUe] at hs eS ⊢
        have ES := Lib.hid eS
        have i0 : (0 : Int) ≤ (k : Int) := by omega
        have i1 : (k : Int) < (N : Int) := by omega
        clear hYe hUe eS
        go_wp2_with fail
        go_roundw
        case rel => exact ⟨k + 1, by omega, by go_num, by rw [ES.out], hkp⟩
        case measure => simp [intOf]; omega
      · obtain rfl : k = N := by omega
        obtain ⟨SU, hSU⟩ : ∃ SU, SU = smK R k := ⟨_, rfl⟩
        rw [← hSU] at hs ⊢
        have HSU := Lib.hid (hSU.trans HTS.out)
        have K3 := Lib.hid (K2.out.trans hkp)
        have J3 := Lib.hid (J2.out.trans hkp)
        have M3 := Lib.hid hkp
        clear hSU hkp
        go_wp2_with fail
        refine (iIsDS_any _ _ _ L (k : Int) _ HQ.out.symm (by omega) (HRL.out.kp J3.out)).mono ?_
        obtain ⟨D, hD⟩ : ∃ D, D = dsB (k : Int) L := ⟨_, rfl⟩
        rw [← hD]
        have HD := Lib.hid hD
        clear hD
        rintro e w4 ⟨rfl, hk4⟩
        have K4 := Lib.hid (K3.out.trans hk4)
        have J4 := Lib.hid (J3.out.trans hk4)
        have M4 := Lib.hid (M3.out.trans hk4)
        clear hk4
        go_wp2_with fail
        refine (at_any A n c xs 0 _ (by omega) HL.out hn (HR.out.kp K4.out) HX.out).mono ?_
        rintro e w5 ⟨x, rfl, x0, x1, hk5⟩
        have K5 := Lib.hid (K4.out.trans hk5)
        have J5 := Lib.hid (J4.out.trans hk5)
        have M5 := Lib.hid (M4.out.trans hk5)
        clear hk5
        have d1 : x.tmod (k : Int) = x % (k : Int) := Int.tmod_eq_emod_of_nonneg (by omega)
        have d0 : ((k : Int) == 0) = false := by simp; omega
        have p1 := Int.emod_nonneg x (show (k : Int) ≠ 0 by omega)
        have p2 := Int.emod_lt_of_pos x (show (0 : Int) < (k : Int) by omega)
        obtain ⟨q1, hq1⟩ : ∃ q, q = x % (k : Int) := ⟨_, rfl⟩
        rw [← hq1] at d1 p1 p2
        clear hq1
        go_wp2_with fail
        refine (iTurn_any _ _ _ L (k : Int) q1 _ HQ.out.symm (by omega) (HRL.out.kp J5.out)).mono ?_
        have hin1 : inB q1 0 ((k : Int) - 1) = true := inB_true.2 (by omega)
        have ht := turn_circ HCB.out hin1
        have hta := turn_arcs HCB.out hin1
        have htd := dsB_turn HCB.out hin1
        have htl := tmL_len (k : Int) q1 L
        obtain ⟨T, hT⟩ : ∃ T, T = tmL (k : Int) q1 L := ⟨_, rfl⟩
        rw [← hT] at hta htd htl ⊢
        have hTD : dsB (k : Int) T = D := by rw [htd, HD.out]
        have hTA : arcs (k : Int) T = R := by rw [hta, ER.out]
        have HTD := Lib.hid hTD
        have HTA := Lib.hid hTA
        clear ht hta htd hT hTD hTA
        rintro e w6 ⟨v6, rfl, ho6, hk6⟩
        obtain ⟨A6, c6, rfl, hr6⟩ := ho6.rd
        rw [← HQ.out] at htl
        have K6 := Lib.hid (K5.out.trans hk6)
        have J6 := Lib.hid (J5.out.trans hk6)
        have M6 := Lib.hid (M5.out.trans hk6)
        have R6 := Lib.hid hr6
        clear hk6 ho6 hr6 d1 x0 x1
        go_wp2_with fail
        refine (at_any A n c xs 1 _ (by omega) HL.out hn (HR.out.kp K6.out) HX.out).mono ?_
        rintro e w7 ⟨y, rfl, y0, y1, hk7⟩
        have K7 := Lib.hid (K6.out.trans hk7)
        have J7 := Lib.hid (J6.out.trans hk7)
        have M7 := Lib.hid (M6.out.trans hk7)
        have R7 := Lib.hid (R6.out.kp hk7)
        clear hk7
        have d1 : y.tmod (k : Int) = y % (k : Int) := Int.tmod_eq_emod_of_nonneg (by omega)
        have p3 := Int.emod_nonneg y (show (k : Int) ≠ 0 by omega)
        have p4 := Int.emod_lt_of_pos y (show (0 : Int) < (k : Int) by omega)
        obtain ⟨q2, hq2⟩ : ∃ q, q = y % (k : Int) := ⟨_, rfl⟩
        rw [← hq2] at d1 p3 p4
        clear hq2
        go_wp2_with fail
        refine (iStretch_any _ _ _ L (k : Int) (1 + q2) _ HQ.out.symm (by omega) (HRL.out.kp J7.out)).mono ?_
        have hsd := dsB_stretch (q := 1 + q2) HCB.out
        have hsl := smL_len (k : Int) (1 + q2) L
        obtain ⟨S, hS⟩ : ∃ S, S = smL (k : Int) (1 + q2) L := ⟨_, rfl⟩
        rw [← hS] at hsd hsl ⊢
        rw [← HD.out] at hsd
        rw [← HQ.out] at hsl
        have HSD := Lib.hid hsd
        clear hsd hS
        rintro e w8 ⟨v8, rfl, ho8, hk8⟩
        obtain ⟨A8, c8, rfl, hr8⟩ := ho8.rd
        have K8 := Lib.hid (K7.out.trans hk8)
        have M8 := Lib.hid (M7.out.trans hk8)
        have R8 := Lib.hid (R7.out.kp hk8)
        have S8 := Lib.hid hr8
        clear hk8 ho8 hr8 d1 y0 y1
        go_wp2_with fail
        refine (at_any A n c xs 2 _ (by omega) HL.out hn (HR.out.kp K8.out) HX.out).mono ?_
        rintro e w9 ⟨z, rfl, z0, z1, hk9⟩
        have K9 := Lib.hid (K8.out.trans hk9)
        have M9 := Lib.hid (M8.out.trans hk9)
        have R9 := Lib.hid (R8.out.kp hk9)
        have S9 := Lib.hid (S8.out.kp hk9)
        clear hk9
        have d1 : z.tmod 5 = z % 5 := Int.tmod_eq_emod_of_nonneg (by omega)
        obtain ⟨m, hm⟩ : ∃ m : Nat, (m : Int) = 2 + z % 5 := ⟨(2 + z % 5).toNat, by omega⟩
        have hm2 : 2 ≤ m ∧ m ≤ 6 := by omega
        have hz : z % 5 = (m : Int) - 2 := by omega
        rw [hz] at d1
        have e1 : 2 + ((m : Int) - 2) = (m : Int) := by omega
        clear hm hz
        go_wp2_with fail
        refine (iFind_any (m : Int) _).mono ?_
        obtain ⟨f1, f2, f3⟩ := found_at hm2
        obtain ⟨F, hF⟩ : ∃ F, F = findS (m : Int) := ⟨_, rfl⟩
        rw [← hF] at f1 f2 f3 ⊢
        rintro e w10 ⟨v10, rfl, ho10, hk10⟩
        obtain ⟨A10, c10, rfl, hr10⟩ := ho10.rd
        rw [f1] at hr10 ⊢
        have F1 := Lib.hid f1
        have K10 := Lib.hid (K9.out.trans hk10)
        have M10 := Lib.hid (M9.out.trans hk10)
        have R10 := Lib.hid (R9.out.kp hk10)
        have S10 := Lib.hid (S9.out.kp hk10)
        have G10 := Lib.hid hr10
        have hmm := mul_bd (a := (m : Int)) (b := (m : Int) - 1) (A := 6) (B := 6) (by omega) (by omega)
        obtain ⟨MM, hMM⟩ : ∃ MM, (m : Int) * ((m : Int) - 1) = MM := ⟨_, rfl⟩
        rw [hMM] at f2 f3 hmm
        have F2 := Lib.hid f2
        have hqq := mul_bd (a := (Q : Int)) (b := (Q : Int) - 1) (A := 8) (B := 8) (by omega) (by omega)
        have hts := HSU.out
        obtain ⟨QQ, hQQ⟩ : ∃ QQ, (Q : Int) * ((Q : Int) - 1) = QQ := ⟨_, rfl⟩
        rw [hQQ] at hqq hts
        subst hts
        have hds : D = true → SU = (k : Int) - 1 := fun h => by
          have := dsB_sum HCB.out (by rw [← HD.out]; exact h)
          rw [← HQ.out, hQQ] at this
          exact this
        have HDS := Lib.hid hds
        clear hF f1 f2 f3 hr10 ho10 hk10 hds d1 z0 z1
        by_cases hS0 : S.length = 0
        · rw [hS0]
          cases D with
          | true =>
            have hSU2 := HDS.out rfl
            go_wp2_with fail
            refine (iIsDS_any _ _ _ T (k : Int) _ rfl (by omega) R10.out).mono ?_
            rw [HTD.out]
            rintro e w11 ⟨rfl, hk11⟩
            have K11 := Lib.hid (K10.out.trans hk11)
            have M11 := Lib.hid (M10.out.trans hk11)
            have R11 := Lib.hid (R10.out.kp hk11)
            have G11 := Lib.hid (G10.out.kp hk11)
            have S11 := Lib.hid (S10.out.kp hk11)
            clear hk11
            go_wp2_with fail
            refine (iIsDS_any _ m _ F (MM + 1) _ F1.out (by omega) G11.out).mono ?_
            rw [F2.out]
            rintro e w13 ⟨rfl, hk13⟩
            have K13 := Lib.hid (K11.out.trans hk13)
            have M13 := Lib.hid (M11.out.trans hk13)
            have R13 := Lib.hid (R11.out.kp hk13)
            clear hk13
            go_wp2_with fail
            refine (iArcsOf_any _ _ _ T (k : Int) _ rfl (by omega) R13.out).mono ?_
            rw [HTA.out]
            rintro e w14 ⟨v14, rfl, ho14, hk14⟩
            obtain ⟨A14, c14, rfl, hr14⟩ := ho14.rd
            rw [HAL.out] at hr14 ⊢
            have K14 := Lib.hid (K13.out.trans hk14)
            have R14 := Lib.hid hr14
            have Q14 := Lib.hid (HR2.out.kp (M13.out.trans hk14))
            clear hk14 ho14 hr14
            go_wp2_with fail
            refine (sameInts_any _ _ _ _ _ R _ HAL.out (by omega) R14.out Q14.out).mono ?_
            rintro e w15 ⟨rfl, hk15⟩
            go_wp2_with fail
            go_ret
            exact ⟨rfl, K14.out.trans hk15⟩
          | false =>
            go_wp2_with fail
            refine (iIsDS_any _ _ _ T (k : Int) _ rfl (by omega) R10.out).mono ?_
            rw [HTD.out]
            rintro e w11 ⟨rfl, hk11⟩
            have K11 := Lib.hid (K10.out.trans hk11)
            have M11 := Lib.hid (M10.out.trans hk11)
            have R11 := Lib.hid (R10.out.kp hk11)
            have G11 := Lib.hid (G10.out.kp hk11)
            have S11 := Lib.hid (S10.out.kp hk11)
            clear hk11
            go_wp2_with fail
            refine (iIsDS_any _ m _ F (MM + 1) _ F1.out (by omega) G11.out).mono ?_
            rw [F2.out]
            rintro e w13 ⟨rfl, hk13⟩
            have K13 := Lib.hid (K11.out.trans hk13)
            have M13 := Lib.hid (M11.out.trans hk13)
            have R13 := Lib.hid (R11.out.kp hk13)
            clear hk13
            go_wp2_with fail
            refine (iArcsOf_any _ _ _ T (k : Int) _ rfl (by omega) R13.out).mono ?_
            rw [HTA.out]
            rintro e w14 ⟨v14, rfl, ho14, hk14⟩
            obtain ⟨A14, c14, rfl, hr14⟩ := ho14.rd
            rw [HAL.out] at hr14 ⊢
            have K14 := Lib.hid (K13.out.trans hk14)
            have R14 := Lib.hid hr14
            have Q14 := Lib.hid (HR2.out.kp (M13.out.trans hk14))
            clear hk14 ho14 hr14
            go_wp2_with fail
            refine (sameInts_any _ _ _ _ _ R _ HAL.out (by omega) R14.out Q14.out).mono ?_
            rintro e w15 ⟨rfl, hk15⟩
            go_wp2_with fail
            go_ret
            exact ⟨rfl, K14.out.trans hk15⟩
        · have hS1 : ((S.length : Int) == 0) = false := by rw [beq_eq_false_iff_ne]; omega
          have HS1 := Lib.hid (HSD.out (Nat.pos_of_ne_zero hS0))
          cases D with
          | true =>
            have hSU2 := HDS.out rfl
            go_wp2_with fail
            refine (iIsDS_any _ _ _ T (k : Int) _ rfl (by omega) R10.out).mono ?_
            rw [HTD.out]
            rintro e w11 ⟨rfl, hk11⟩
            have K11 := Lib.hid (K10.out.trans hk11)
            have M11 := Lib.hid (M10.out.trans hk11)
            have R11 := Lib.hid (R10.out.kp hk11)
            have G11 := Lib.hid (G10.out.kp hk11)
            have S11 := Lib.hid (S10.out.kp hk11)
            clear hk11
            go_wp2_with fail
            refine (iIsDS_any _ _ _ S (k : Int) _ rfl (by omega) S11.out).mono ?_
            rw [HS1.out]
            rintro e w12 ⟨rfl, hk12⟩
            have K11 := Lib.hid (K11.out.trans hk12)
            have M11 := Lib.hid (M11.out.trans hk12)
            have R11 := Lib.hid (R11.out.kp hk12)
            have G11 := Lib.hid (G11.out.kp hk12)
            clear hk12
            go_wp2_with fail
            refine (iIsDS_any _ m _ F (MM + 1) _ F1.out (by omega) G11.out).mono ?_
            rw [F2.out]
            rintro e w13 ⟨rfl, hk13⟩
            have K13 := Lib.hid (K11.out.trans hk13)
            have M13 := Lib.hid (M11.out.trans hk13)
            have R13 := Lib.hid (R11.out.kp hk13)
            clear hk13
            go_wp2_with fail
            refine (iArcsOf_any _ _ _ T (k : Int) _ rfl (by omega) R13.out).mono ?_
            rw [HTA.out]
            rintro e w14 ⟨v14, rfl, ho14, hk14⟩
            obtain ⟨A14, c14, rfl, hr14⟩ := ho14.rd
            rw [HAL.out] at hr14 ⊢
            have K14 := Lib.hid (K13.out.trans hk14)
            have R14 := Lib.hid hr14
            have Q14 := Lib.hid (HR2.out.kp (M13.out.trans hk14))
            clear hk14 ho14 hr14
            go_wp2_with fail
            refine (sameInts_any _ _ _ _ _ R _ HAL.out (by omega) R14.out Q14.out).mono ?_
            rintro e w15 ⟨rfl, hk15⟩
            go_wp2_with fail
            go_ret
            exact ⟨rfl, K14.out.trans hk15⟩
          | false =>
            go_wp2_with fail
            refine (iIsDS_any _ _ _ T (k : Int) _ rfl (by omega) R10.out).mono ?_
            rw [HTD.out]
            rintro e w11 ⟨rfl, hk11⟩
            have K11 := Lib.hid (K10.out.trans hk11)
            have M11 := Lib.hid (M10.out.trans hk11)
            have R11 := Lib.hid (R10.out.kp hk11)
            have G11 := Lib.hid (G10.out.kp hk11)
            have S11 := Lib.hid (S10.out.kp hk11)
            clear hk11
            go_wp2_with fail
            refine (iIsDS_any _ _ _ S (k : Int) _ rfl (by omega) S11.out).mono ?_
            rw [HS1.out]
            rintro e w12 ⟨rfl, hk12⟩
            have K11 := Lib.hid (K11.out.trans hk12)
            have M11 := Lib.hid (M11.out.trans hk12)
            have R11 := Lib.hid (R11.out.kp hk12)
            have G11 := Lib.hid (G11.out.kp hk12)
            clear hk12
            go_wp2_with fail
            refine (iIsDS_any _ m _ F (MM + 1) _ F1.out (by omega) G11.out).mono ?_
            rw [F2.out]
            rintro e w13 ⟨rfl, hk13⟩
            have K13 := Lib.hid (K11.out.trans hk13)
            have M13 := Lib.hid (M11.out.trans hk13)
            have R13 := Lib.hid (R11.out.kp hk13)
            clear hk13
            go_wp2_with fail
            refine (iArcsOf_any _ _ _ T (k : Int) _ rfl (by omega) R13.out).mono ?_
            rw [HTA.out]
            rintro e w14 ⟨v14, rfl, ho14, hk14⟩
            obtain ⟨A14, c14, rfl, hr14⟩ := ho14.rd
            rw [HAL.out] at hr14 ⊢
            have K14 := Lib.hid (K13.out.trans hk14)
            have R14 := Lib.hid hr14
            have Q14 := Lib.hid (HR2.out.kp (M13.out.trans hk14))
            clear hk14 ho14 hr14
            go_wp2_with fail
            refine (sameInts_any _ _ _ _ _ R _ HAL.out (by omega) R14.out Q14.out).mono ?_
            rintro e w15 ⟨rfl, hk15⟩
            go_wp2_with fail
            go_ret
            exact ⟨rfl, K14.out.trans hk15⟩
set_option maxRecDepth 100000 in
theorem lifted (os : Os) (started : os.Started) (H : Type) (enc : TypeId × Value → H) :
    ReturnsInHanded {} Try.checked os 9 .any (Rows.fnCirclesSpec.pre6 enc Try.prog Try.f9 Rows.fnCirclesRow.domain false) (Rows.fnCirclesSpec.post enc Try.prog Try.f9 false true false false) := by
  refine returnsInHanded_of_change (C := Try.checked) own started (by kernel_rfl) Try.func9
    (ChangeSpec.witness6 (enc := enc) (C := Try.checked) false ⟨#[], #[.slice none 0 0], []⟩ 8 (by kernel_rfl) (by kernel_rfl) (by kernel_rfl) (by kernel_rfl)) ?_
  intro W base args ds gs before hval hW _ _
  obtain ⟨p, q, hA0, hV, rfl, _, _⟩ := id hW
  have hA : DataW.TrodAll enc Try.prog W 0 (fun _ => true) true Try.f9.params.toList args.toList ds p := hA0
  rw [Try.params9] at hA hval
  obtain ⟨v0, vs0, d0, ds0, p0, q0, hargs, rfl, rfl, h0, r0⟩ := trodAll_cons hA
  obtain ⟨rfl, rfl, rfl⟩ := trodAll_nil r0
  obtain rfl : args = #[v0] := by cases args; simp_all
  obtain ⟨rfl, rfl⟩ := trodVars_none hV
  obtain ⟨A0, n0, c0, x0, rfl, l0, b0, rd0, wx0⟩ := open_intlist Try.underlying32 Try.underlying5 (by kernel_rfl) (hval 0 32 v0 rfl rfl) h0
  refine (walk A0 n0 c0 x0 W l0 b0 rd0 (fun x h => u8_wf (wx0 x h))).mono fun e W' ⟨he, hb⟩ => ⟨_, he, law_post laidOut (by kernel_rfl) rfl hW hb rfl rfl rfl (by kernel_rfl) (B := 4) Try.underlying4⟩
theorem proved : Rows.FnCirclesSaid :=
  OpenClaim.holds_of_wide 9 Try.f9 rfl rfl rfl rfl rfl rfl rfl ⟨rfl, rfl, rfl, rfl, rfl⟩ rfl rfl rfl rfl rfl (by kernel_rfl) Try.func9 (by kernel_rfl)
    (of_decide_eq_true (by kernel_rfl)) (by unfold Func.isWrapper; rw [if_neg (of_decide_eq_false (by kernel_rfl))]; exact ⟨rfl, rfl⟩)
    (fun os started H enc _ => lifted os started H enc)
#print axioms proved
end fnCircles
end Go.Proofs.Ytoobpkcnmgjccaa
