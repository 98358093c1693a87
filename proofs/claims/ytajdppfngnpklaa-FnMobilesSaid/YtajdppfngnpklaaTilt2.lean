/- FirstTilted, IsBalanced: the contracts. -/
import Derived.Test.YtajdppfngnpklaaTilt
set_option linter.unusedVariables false
namespace Go.Proofs.Ytajdppfngnpklaa
open Go.RowKit
theorem ftM_no {xs : List Pt} (h : mobB xs = false) : ftM xs = -1 := by rw [ftM, h]; rfl
theorem ftM_yes {xs : List Pt} {n : Nat} (hl : xs.length = n) (h : mobB xs = true) : ftM xs = ftR xs n n := by rw [ftM, if_pos h, hl]
set_option maxRecDepth 20000 in
set_option maxHeartbeats 6400000 in
theorem iFirstTilted_any (A : Option Addr) (n c : Nat) (xs : List Pt) (w : World) (hl : xs.length = n) (hn : n ≤ 1048576) (hr : RdP w A n xs) :
    Calls Try.prog 20 #[.slice A n c] w fun e w' => e = .returned (.int .i64 (ftM xs)) ∧ Kp w w' := by
  have HR := Lib.hid hr
  have HL := Lib.hid hl
  clear hr
  by_cases hm : mobB xs = true
  · have hbd := mobB_bd hm
    rw [hl] at hbd
    have hn15 := hbd.2.1
    have HM := Lib.hid hm
    have HPB := Lib.hid hbd.2.2
    have HV := Lib.hid (ftM_yes hl hm)
    clear hm hbd hl
    go_enter Try.func20, Try.ntmps20
    go_wp2_with fail
    refine (iMobileOk_any _ _ _ xs _ HL.out hn HR.out).mono ?_
    rw [HM.out]
    rintro e w1 ⟨rfl, hk1⟩
    go_wp2_with fail
    go_loopw [ 10 ] (fun i wr => ∃ k : Nat, k ≤ n ∧ i = .int .i64 k ∧ ftM xs = ftR xs n (n - k) ∧ Kp w wr) (fun i _ => n + 1 - (intOf i).toNat)
    case atStart => exact ⟨0, by omega, rfl, HV.out, by first | exact Kp.refl _ | assumption⟩
    case round =>
      obtain ⟨k, hk, rfl, hft, hkp⟩ := hrel
      by_cases hlt : k < n
      · have hpb := HPB.out k hlt
        have hkb := hkp
        obtain ⟨b, off, rfl, hbz, hc⟩ := (HR.out.kp hkb).cellOf HL.out (by omega)
        have hC := hc k hlt
        have hstep := hft.trans (ftR_at hlt)
        have htl : tiltB xs k = (((pt xs k).l != -1) && (wtM xs 16 (pt xs k).l.toNat * (pt xs k).p != wtM xs 16 (pt xs k).r.toNat * (pt xs k).q)) := rfl
        have HST := Lib.hid hstep
        obtain ⟨⟨X0, X1, X2, X3, X4⟩, hX⟩ : ∃ X, X = pt xs k := ⟨_, rfl⟩
        rw [← hX] at hC hpb htl
        obtain ⟨c0, c1, c2, c3, c4⟩ := hC
        dsimp only at c0 c1 c2 c3 c4 htl
        have p0 : (0 : Int) ≤ (k : Int) := by omega
        have p1 : (k : Int) < (n : Int) := by omega
        have HKP := Lib.hid hkp
        have HTL := Lib.hid htl
        by_cases hleaf : X0 = -1
        · subst hleaf
          have HNX := Lib.hid (show ftM xs = ftR xs n (n - (k + 1)) by rw [HST.out, HTL.out]; rfl)
          clear hX hc hpb hft hstep htl hkp
          go_upto_region 6 with fail
          have hA : Kp w (wr.alloc (.cells #[.int .i64 (-1), .int .i64 X1, .int .i64 X2, .int .i64 X3, .int .i64 X4] 40)) := by (repeat (with_reducible first | exact Kp.refl _ | assumption | refine Kp.drew ?_ | refine Kp.drewN ?_ _ | refine Kp.alloc ?_ _ | refine Kp.setCell ?_ (by first | (simp; done) | (simp; omega) | (dsimp only; omega)) _ | refine Kp.trans ?_ (by assumption)))
          have f0 : (wr.alloc (.cells #[.int .i64 (-1), .int .i64 X1, .int .i64 X2, .int .i64 X3, .int .i64 X4] 40)).cell? ⟨wr.heap.size, 0, none⟩ = some (.int .i64 (-1)) := by simp [go_sem]
          generalize wr.alloc (.cells #[.int .i64 (-1), .int .i64 X1, .int .i64 X2, .int .i64 X3, .int .i64 X4] 40) = W at *
          clear c0 c1 c2 c3 c4
          go_quiet (fail)
          go_wp2_with fail
          go_roundw
          case rel => exact ⟨k + 1, by omega, by go_num, HNX.out, by (repeat (with_reducible first | exact Kp.refl _ | assumption | refine Kp.drew ?_ | refine Kp.drewN ?_ _ | refine Kp.alloc ?_ _ | refine Kp.setCell ?_ (by first | (simp; done) | (simp; omega) | (dsimp only; omega)) _ | refine Kp.trans ?_ (by assumption)))⟩
          case measure => simp [intOf]; omega
        · have ha := part_arm hpb hleaf
          dsimp only at ha
          obtain ⟨l, rfl⟩ : ∃ l : Nat, X0 = (l : Int) := ⟨X0.toNat, by omega⟩
          obtain ⟨r, rfl⟩ : ∃ r : Nat, X1 = (r : Int) := ⟨X1.toNat, by omega⟩
          have g1 : n - l ≤ 16 ∧ l < n := by omega
          have g2 : n - r ≤ 16 ∧ r < n := by omega
          have bl := wtM_bd16 HM.out (f := 16) (k := l) (by rw [HL.out]; omega) (by rw [HL.out]; omega) (by omega)
          have br := wtM_bd16 HM.out (f := 16) (k := r) (by rw [HL.out]; omega) (by rw [HL.out]; omega) (by omega)
          have htl2 := htl
          rw [Int.toNat_natCast, Int.toNat_natCast] at htl2
          obtain ⟨U, eU⟩ : ∃ U, U = wtM xs 16 l := ⟨_, rfl⟩
          obtain ⟨V, eV⟩ : ∃ V, V = wtM xs 16 r := ⟨_, rfl⟩
          rw [← eU] at bl htl2
          rw [← eV] at br htl2
          have m1 := mul_bd (a := U) (b := X2) (A := 65536000) (B := 20) (by omega) (by omega)
          have m2 := mul_bd (a := V) (b := X3) (A := 65536000) (B := 20) (by omega) (by omega)
          obtain ⟨M1, hM1⟩ : ∃ M, M = U * X2 := ⟨_, rfl⟩
          obtain ⟨M2, hM2⟩ : ∃ M, M = V * X3 := ⟨_, rfl⟩
          have q1 : IntKind.i64.wrap (U * X2) = M1 := by rw [hM1]; exact IntWalk.i64_in _ (by omega)
          have q2 : IntKind.i64.wrap (V * X3) = M2 := by rw [hM2]; exact IntWalk.i64_in _ (by omega)
          rw [← hM1, ← hM2] at htl2
          have hlm : ((l : Int) != -1) = true := by first | (simp; done) | (simp; omega)
          rw [hlm, Bool.true_and] at htl2
          have HT2 := Lib.hid htl2
          have EU := Lib.hid eU
          have EV := Lib.hid eV
          clear hX hc hpb hft hstep htl hkp htl2 eU eV m1 m2 hM1 hM2 ha
          go_upto_region 6 with fail
          have hA : Kp w (wr.alloc (.cells #[.int .i64 (l : Int), .int .i64 (r : Int), .int .i64 X2, .int .i64 X3, .int .i64 X4] 40)) := by (repeat (with_reducible first | exact Kp.refl _ | assumption | refine Kp.drew ?_ | refine Kp.drewN ?_ _ | refine Kp.alloc ?_ _ | refine Kp.setCell ?_ (by first | (simp; done) | (simp; omega) | (dsimp only; omega)) _ | refine Kp.trans ?_ (by assumption)))
          have f0 : (wr.alloc (.cells #[.int .i64 (l : Int), .int .i64 (r : Int), .int .i64 X2, .int .i64 X3, .int .i64 X4] 40)).cell? ⟨wr.heap.size, 0, none⟩ = some (.int .i64 (l : Int)) := by simp [go_sem]
          have f1 : (wr.alloc (.cells #[.int .i64 (l : Int), .int .i64 (r : Int), .int .i64 X2, .int .i64 X3, .int .i64 X4] 40)).cell? ⟨wr.heap.size, 1, none⟩ = some (.int .i64 (r : Int)) := by simp [go_sem]
          have f2 : (wr.alloc (.cells #[.int .i64 (l : Int), .int .i64 (r : Int), .int .i64 X2, .int .i64 X3, .int .i64 X4] 40)).cell? ⟨wr.heap.size, 2, none⟩ = some (.int .i64 X2) := by simp [go_sem]
          have f3 : (wr.alloc (.cells #[.int .i64 (l : Int), .int .i64 (r : Int), .int .i64 X2, .int .i64 X3, .int .i64 X4] 40)).cell? ⟨wr.heap.size, 3, none⟩ = some (.int .i64 X3) := by simp [go_sem]
          generalize wr.alloc (.cells #[.int .i64 (l : Int), .int .i64 (r : Int), .int .i64 X2, .int .i64 X3, .int .i64 X4] 40) = W at *
          clear c0 c1 c2 c3 c4
          go_cut [34] (fun s wx => s = .bool (M1 != M2) ∧ Kp w wx)
          case first =>
            go_region_held3 (fun w' => w'.cell? ⟨wr.heap.size, 0, none⟩ = some (.int .i64 (l : Int)) ∧ w'.cell? ⟨wr.heap.size, 1, none⟩ = some (.int .i64 (r : Int)) ∧ w'.cell? ⟨wr.heap.size, 2, none⟩ = some (.int .i64 X2) ∧ w'.cell? ⟨wr.heap.size, 3, none⟩ = some (.int .i64 X3) ∧ Kp w w')
              (((try go_split_ands); (repeat' apply And.intro) <;> (first | with_reducible assumption | (with_reducible apply cell_drew; with_reducible assumption) | (with_reducible refine Kp.drew ?_; with_reducible assumption) | (with_reducible apply hk.at1; with_reducible assumption) | (with_reducible apply hk.at1; with_reducible apply cell_drew; with_reducible assumption) | (refine Kp.trans ?_ hk; with_reducible assumption) | (refine Kp.trans (Kp.drew ?_) hk; with_reducible assumption))))
              (first | (go_at_call 34; refine (iWeight_any n xs HL.out HM.out 16 _ (by omega) (by omega) (by omega) _ _ _ (HR.out.kp (by (try go_split_ands); assumption))).mono ?_; (first | rw [← EU.out] | rw [← EV.out]); rintro e w3 ⟨rfl, hk⟩))
            go_wp2_with fail
            go_meet
            exact ⟨rfl, by (try go_split_ands); assumption⟩
          case rest =>
            obtain ⟨rfl, hkw⟩ := hcut
            by_cases hq : (M1 != M2) = true
            · have HRT := Lib.hid (show ftM xs = (k : Int) by rw [HST.out, HT2.out, hq]; rfl)
              go_wp2_with fail
              go_ret
              exact ⟨ret_int HRT.out.symm, hkw⟩
            · have hq' : (M1 != M2) = false := by simpa using hq
              have HNX := Lib.hid (show ftM xs = ftR xs n (n - (k + 1)) by rw [HST.out, HT2.out, hq']; rfl)
              clear hq
              go_wp2_with fail
              go_roundw
              case rel => exact ⟨k + 1, by omega, by go_num, HNX.out, by (repeat (with_reducible first | exact Kp.refl _ | assumption | refine Kp.drew ?_ | refine Kp.drewN ?_ _ | refine Kp.alloc ?_ _ | refine Kp.setCell ?_ (by first | (simp; done) | (simp; omega) | (dsimp only; omega)) _ | refine Kp.trans ?_ (by assumption)))⟩
              case measure => simp [intOf]; omega
      · obtain rfl : k = n := by omega
        have HE := Lib.hid (show ftM xs = -1 by rw [hft, Nat.sub_self]; rfl)
        go_wp2_with fail
        go_ret
        exact ⟨ret_int HE.out.symm, hkp⟩
  · have HM := Lib.hid (show mobB xs = false by simpa using hm)
    have HV := Lib.hid (ftM_no HM.out)
    clear hm hl
    go_enter Try.func20, Try.ntmps20
    go_wp2_with fail
    refine (iMobileOk_any _ _ _ xs _ HL.out hn HR.out).mono ?_
    rw [HM.out]
    rintro e w1 ⟨rfl, hk1⟩
    go_wp2_with fail
    go_ret
    exact ⟨ret_int HV.out.symm, hk1⟩
set_option maxRecDepth 20000 in
set_option maxHeartbeats 6400000 in
theorem sFirstTilted_any (A : Option Addr) (n c : Nat) (xs : List Pt) (w : World) (hl : xs.length = n) (hn : n ≤ 1048576) (hr : RdP w A n xs) :
    Calls Try.prog 19 #[.slice A n c] w fun e w' => e = .returned (.int .i64 (ftM xs)) ∧ Kp w w' := by
  have HR := Lib.hid hr
  have HL := Lib.hid hl
  clear hr
  by_cases hm : mobB xs = true
  · have hbd := mobB_bd hm
    rw [hl] at hbd
    have hn15 := hbd.2.1
    have HM := Lib.hid hm
    have HPB := Lib.hid hbd.2.2
    have HV := Lib.hid (ftM_yes hl hm)
    clear hm hbd hl
    go_enter Try.func19, Try.ntmps19
    go_wp2_with fail
    go_loopw [ 3 ] (fun i wr => ∃ k : Nat, k ≤ n ∧ i = .int .i64 k ∧ ftM xs = ftR xs n (n - k) ∧ Kp w wr) (fun i _ => n + 1 - (intOf i).toNat)
    case atStart => exact ⟨0, by omega, rfl, HV.out, by first | exact Kp.refl _ | assumption⟩
    case round =>
      obtain ⟨k, hk, rfl, hft, hkp⟩ := hrel
      by_cases hlt : k < n
      · have hpb := HPB.out k hlt
        go_wp2_with fail
        refine (sMobileOk_any _ _ _ xs _ HL.out hn (HR.out.kp hkp)).mono ?_
        rw [HM.out]
        rintro e wb ⟨rfl, hk1⟩
        have hkb := hkp.trans hk1
        clear hk1
        obtain ⟨b, off, rfl, hbz, hc⟩ := (HR.out.kp hkb).cellOf HL.out (by omega)
        have hC := hc k hlt
        have hstep := hft.trans (ftR_at hlt)
        have htl : tiltB xs k = (((pt xs k).l != -1) && (wtM xs 16 (pt xs k).l.toNat * (pt xs k).p != wtM xs 16 (pt xs k).r.toNat * (pt xs k).q)) := rfl
        have HST := Lib.hid hstep
        obtain ⟨⟨X0, X1, X2, X3, X4⟩, hX⟩ : ∃ X, X = pt xs k := ⟨_, rfl⟩
        rw [← hX] at hC hpb htl
        obtain ⟨c0, c1, c2, c3, c4⟩ := hC
        dsimp only at c0 c1 c2 c3 c4 htl
        have p0 : (0 : Int) ≤ (k : Int) := by omega
        have p1 : (k : Int) < (n : Int) := by omega
        have HKP := Lib.hid hkp
        have HTL := Lib.hid htl
        by_cases hleaf : X0 = -1
        · subst hleaf
          have HNX := Lib.hid (show ftM xs = ftR xs n (n - (k + 1)) by rw [HST.out, HTL.out]; rfl)
          clear hX hc hpb hft hstep htl hkp
          go_upto_region 5 with fail
          have hA : Kp w (wb.alloc (.cells #[.int .i64 (-1), .int .i64 X1, .int .i64 X2, .int .i64 X3, .int .i64 X4] 40)) := by (repeat (with_reducible first | exact Kp.refl _ | assumption | refine Kp.drew ?_ | refine Kp.drewN ?_ _ | refine Kp.alloc ?_ _ | refine Kp.setCell ?_ (by first | (simp; done) | (simp; omega) | (dsimp only; omega)) _ | refine Kp.trans ?_ (by assumption)))
          have f0 : (wb.alloc (.cells #[.int .i64 (-1), .int .i64 X1, .int .i64 X2, .int .i64 X3, .int .i64 X4] 40)).cell? ⟨wb.heap.size, 0, none⟩ = some (.int .i64 (-1)) := by simp [go_sem]
          generalize wb.alloc (.cells #[.int .i64 (-1), .int .i64 X1, .int .i64 X2, .int .i64 X3, .int .i64 X4] 40) = W at *
          clear c0 c1 c2 c3 c4
          go_quiet (fail)
          go_wp2_with fail
          go_roundw
          case rel => exact ⟨k + 1, by omega, by go_num, HNX.out, by (repeat (with_reducible first | exact Kp.refl _ | assumption | refine Kp.drew ?_ | refine Kp.drewN ?_ _ | refine Kp.alloc ?_ _ | refine Kp.setCell ?_ (by first | (simp; done) | (simp; omega) | (dsimp only; omega)) _ | refine Kp.trans ?_ (by assumption)))⟩
          case measure => simp [intOf]; omega
        · have ha := part_arm hpb hleaf
          dsimp only at ha
          obtain ⟨l, rfl⟩ : ∃ l : Nat, X0 = (l : Int) := ⟨X0.toNat, by omega⟩
          obtain ⟨r, rfl⟩ : ∃ r : Nat, X1 = (r : Int) := ⟨X1.toNat, by omega⟩
          have g1 : n - l ≤ 16 ∧ l < n := by omega
          have g2 : n - r ≤ 16 ∧ r < n := by omega
          have bl := wtM_bd16 HM.out (f := 16) (k := l) (by rw [HL.out]; omega) (by rw [HL.out]; omega) (by omega)
          have br := wtM_bd16 HM.out (f := 16) (k := r) (by rw [HL.out]; omega) (by rw [HL.out]; omega) (by omega)
          have htl2 := htl
          rw [Int.toNat_natCast, Int.toNat_natCast] at htl2
          obtain ⟨U, eU⟩ : ∃ U, U = wtM xs 16 l := ⟨_, rfl⟩
          obtain ⟨V, eV⟩ : ∃ V, V = wtM xs 16 r := ⟨_, rfl⟩
          rw [← eU] at bl htl2
          rw [← eV] at br htl2
          have m1 := mul_bd (a := U) (b := X2) (A := 65536000) (B := 20) (by omega) (by omega)
          have m2 := mul_bd (a := V) (b := X3) (A := 65536000) (B := 20) (by omega) (by omega)
          obtain ⟨M1, hM1⟩ : ∃ M, M = U * X2 := ⟨_, rfl⟩
          obtain ⟨M2, hM2⟩ : ∃ M, M = V * X3 := ⟨_, rfl⟩
          have q1 : IntKind.i64.wrap (U * X2) = M1 := by rw [hM1]; exact IntWalk.i64_in _ (by omega)
          have q2 : IntKind.i64.wrap (V * X3) = M2 := by rw [hM2]; exact IntWalk.i64_in _ (by omega)
          rw [← hM1, ← hM2] at htl2
          have hlm : ((l : Int) != -1) = true := by first | (simp; done) | (simp; omega)
          rw [hlm, Bool.true_and] at htl2
          have HT2 := Lib.hid htl2
          have EU := Lib.hid eU
          have EV := Lib.hid eV
          clear hX hc hpb hft hstep htl hkp htl2 eU eV m1 m2 hM1 hM2 ha
          go_upto_region 5 with fail
          have hA : Kp w (wb.alloc (.cells #[.int .i64 (l : Int), .int .i64 (r : Int), .int .i64 X2, .int .i64 X3, .int .i64 X4] 40)) := by (repeat (with_reducible first | exact Kp.refl _ | assumption | refine Kp.drew ?_ | refine Kp.drewN ?_ _ | refine Kp.alloc ?_ _ | refine Kp.setCell ?_ (by first | (simp; done) | (simp; omega) | (dsimp only; omega)) _ | refine Kp.trans ?_ (by assumption)))
          have f0 : (wb.alloc (.cells #[.int .i64 (l : Int), .int .i64 (r : Int), .int .i64 X2, .int .i64 X3, .int .i64 X4] 40)).cell? ⟨wb.heap.size, 0, none⟩ = some (.int .i64 (l : Int)) := by simp [go_sem]
          have f1 : (wb.alloc (.cells #[.int .i64 (l : Int), .int .i64 (r : Int), .int .i64 X2, .int .i64 X3, .int .i64 X4] 40)).cell? ⟨wb.heap.size, 1, none⟩ = some (.int .i64 (r : Int)) := by simp [go_sem]
          have f2 : (wb.alloc (.cells #[.int .i64 (l : Int), .int .i64 (r : Int), .int .i64 X2, .int .i64 X3, .int .i64 X4] 40)).cell? ⟨wb.heap.size, 2, none⟩ = some (.int .i64 X2) := by simp [go_sem]
          have f3 : (wb.alloc (.cells #[.int .i64 (l : Int), .int .i64 (r : Int), .int .i64 X2, .int .i64 X3, .int .i64 X4] 40)).cell? ⟨wb.heap.size, 3, none⟩ = some (.int .i64 X3) := by simp [go_sem]
          generalize wb.alloc (.cells #[.int .i64 (l : Int), .int .i64 (r : Int), .int .i64 X2, .int .i64 X3, .int .i64 X4] 40) = W at *
          clear c0 c1 c2 c3 c4
          go_cut [38] (fun s wx => s = .bool (M1 != M2) ∧ Kp w wx)
          case first =>
            go_region_held3 (fun w' => w'.cell? ⟨wb.heap.size, 0, none⟩ = some (.int .i64 (l : Int)) ∧ w'.cell? ⟨wb.heap.size, 1, none⟩ = some (.int .i64 (r : Int)) ∧ w'.cell? ⟨wb.heap.size, 2, none⟩ = some (.int .i64 X2) ∧ w'.cell? ⟨wb.heap.size, 3, none⟩ = some (.int .i64 X3) ∧ Kp w w')
              (((try go_split_ands); (repeat' apply And.intro) <;> (first | with_reducible assumption | (with_reducible apply cell_drew; with_reducible assumption) | (with_reducible refine Kp.drew ?_; with_reducible assumption) | (with_reducible apply hk.at1; with_reducible assumption) | (with_reducible apply hk.at1; with_reducible apply cell_drew; with_reducible assumption) | (refine Kp.trans ?_ hk; with_reducible assumption) | (refine Kp.trans (Kp.drew ?_) hk; with_reducible assumption))))
              (first | (go_at_call 33; refine (sWeight_any n xs HL.out HM.out 16 _ (by omega) (by omega) (by omega) _ _ _ (HR.out.kp (by (try go_split_ands); assumption))).mono ?_; (first | rw [← EU.out] | rw [← EV.out]); rintro e w3 ⟨rfl, hk⟩))
            go_wp2_with fail
            go_meet
            exact ⟨rfl, by (try go_split_ands); assumption⟩
          case rest =>
            obtain ⟨rfl, hkw⟩ := hcut
            by_cases hq : (M1 != M2) = true
            · have HRT := Lib.hid (show ftM xs = (k : Int) by rw [HST.out, HT2.out, hq]; rfl)
              go_wp2_with fail
              go_ret
              exact ⟨ret_int HRT.out.symm, hkw⟩
            · have hq' : (M1 != M2) = false := by simpa using hq
              have HNX := Lib.hid (show ftM xs = ftR xs n (n - (k + 1)) by rw [HST.out, HT2.out, hq']; rfl)
              clear hq
              go_wp2_with fail
              go_roundw
              case rel => exact ⟨k + 1, by omega, by go_num, HNX.out, by (repeat (with_reducible first | exact Kp.refl _ | assumption | refine Kp.drew ?_ | refine Kp.drewN ?_ _ | refine Kp.alloc ?_ _ | refine Kp.setCell ?_ (by first | (simp; done) | (simp; omega) | (dsimp only; omega)) _ | refine Kp.trans ?_ (by assumption)))⟩
              case measure => simp [intOf]; omega
      · obtain rfl : k = n := by omega
        have HE := Lib.hid (show ftM xs = -1 by rw [hft, Nat.sub_self]; rfl)
        go_wp2_with fail
        go_ret
        exact ⟨ret_int HE.out.symm, hkp⟩
  · have HM := Lib.hid (show mobB xs = false by simpa using hm)
    have HV := Lib.hid (ftM_no HM.out)
    clear hm hl
    go_enter Try.func19, Try.ntmps19
    go_wp2_with fail
    refine wp_loop_rounds 1 ?_
    rw [rounds_succ]
    by_cases h0 : n = 0
    · subst h0
      go_wp2_with fail
      go_ret
      exact ⟨ret_int HV.out.symm, Kp.refl _⟩
    · have h1 : (0 : Int) < (n : Int) := by omega
      go_wp2_with fail
      refine (sMobileOk_any _ _ _ xs _ HL.out hn HR.out).mono ?_
      rw [HM.out]
      rintro e w1 ⟨rfl, hk1⟩
      go_wp2_with fail
      go_ret
      exact ⟨ret_int HV.out.symm, hk1⟩
def balB (xs : List Pt) : Bool := mobB xs && (ftM xs == -1)
theorem ftM_neg (xs : List Pt) : decide (ftM xs < 0) = (ftM xs == -1) := by
  have h : -1 ≤ ftM xs := by
    rw [ftM]; split
    · exact (ftR_bd xs _ _).1
    · omega
  rw [Bool.eq_iff_iff]; simp; omega
theorem iIsBalanced_any (A : Option Addr) (n c : Nat) (xs : List Pt) (w : World) (hl : xs.length = n) (hn : n ≤ 1048576) (hr : RdP w A n xs) :
    Calls Try.prog 22 #[.slice A n c] w fun e w' => e = .returned (.bool (balB xs)) ∧ Kp w w' := by
  have HR := Lib.hid hr
  have HL := Lib.hid hl
  clear hr hl
  go_enter Try.func22, Try.ntmps22
  go_wp2_with fail
  refine (iMobileOk_any _ _ _ xs _ HL.out hn HR.out).mono ?_
  obtain ⟨m, hm⟩ : ∃ m, m = mobB xs := ⟨_, rfl⟩
  rw [← hm]
  have HM := Lib.hid hm
  clear hm
  rintro e w1 ⟨rfl, hk1⟩
  cases m with
  | false =>
    have HV := Lib.hid (show balB xs = false by rw [balB, ← HM.out]; rfl)
    go_wp2_with fail
    go_ret
    exact ⟨ret_bool HV.out.symm, hk1⟩
  | true =>
    have HV := Lib.hid (show balB xs = (ftM xs == -1) by rw [balB, ← HM.out]; rfl)
    have HN := Lib.hid (ftM_neg xs)
    go_wp2_with fail
    refine (iFirstTilted_any _ _ _ xs _ HL.out hn (HR.out.kp hk1)).mono ?_
    obtain ⟨t, ht⟩ : ∃ t, t = ftM xs := ⟨_, rfl⟩
    rw [← ht]
    have HT := Lib.hid ht
    clear ht
    rintro e w2 ⟨rfl, hk2⟩
    go_wp2_with fail
    go_ret
    exact ⟨ret_bool (by rw [HV.out]; rw [HT.out]; first | done | exact HN.out), hk1.trans hk2⟩
theorem sIsBalanced_any (A : Option Addr) (n c : Nat) (xs : List Pt) (w : World) (hl : xs.length = n) (hn : n ≤ 1048576) (hr : RdP w A n xs) :
    Calls Try.prog 21 #[.slice A n c] w fun e w' => e = .returned (.bool (balB xs)) ∧ Kp w w' := by
  have HR := Lib.hid hr
  have HL := Lib.hid hl
  clear hr hl
  go_enter Try.func21, Try.ntmps21
  go_wp2_with fail
  refine (sMobileOk_any _ _ _ xs _ HL.out hn HR.out).mono ?_
  obtain ⟨m, hm⟩ : ∃ m, m = mobB xs := ⟨_, rfl⟩
  rw [← hm]
  have HM := Lib.hid hm
  clear hm
  rintro e w1 ⟨rfl, hk1⟩
  cases m with
  | false =>
    have HV := Lib.hid (show balB xs = false by rw [balB, ← HM.out]; rfl)
    go_wp2_with fail
    go_ret
    exact ⟨ret_bool HV.out.symm, hk1⟩
  | true =>
    have HV := Lib.hid (show balB xs = (ftM xs == -1) by rw [balB, ← HM.out]; rfl)
    have HN := Lib.hid (ftM_neg xs)
    go_wp2_with fail
    refine (sFirstTilted_any _ _ _ xs _ HL.out hn (HR.out.kp hk1)).mono ?_
    obtain ⟨t, ht⟩ : ∃ t, t = ftM xs := ⟨_, rfl⟩
    rw [← ht]
    have HT := Lib.hid ht
    clear ht
    rintro e w2 ⟨rfl, hk2⟩
    go_wp2_with fail
    go_ret
    exact ⟨ret_bool (by rw [HV.out]; rw [HT.out]; first | done | exact HN.out), hk1.trans hk2⟩
end Go.Proofs.Ytajdppfngnpklaa
