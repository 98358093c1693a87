/- The first amount for which greedy change is bad: contracts. -/
import Derived.Test.YtjioijpanohgoaaSumG
import Derived.Deep.RegionHeld3
set_option linter.unusedVariables false
namespace Go.Proofs.Ytjioijpanohgoaa
open Go.RowKit

set_option maxHeartbeats 1600000 in
theorem iGreedyBad_any (A : Option Addr) (len c : Nat) (xs : List Int) (w : World) (hl : xs.length = len) (hsys : sysB xs = true) (hr : Reads w w.heap.size 1 A len (xs.map (.int .i64))) :
    Calls Try.prog 31 #[.slice A len c] w fun e w' => e = .returned (.int .i64 (fgbM xs (mostN xs))) ∧ Kp w w' := by
  have HR := Lib.hid hr
  have HS := Lib.hid hsys
  have hmb := mostN_bd hsys
  obtain ⟨ha, hs, b2, hone⟩ := sysB_bd hsys
  have HA := Lib.hid ha
  rw [hl] at b2
  have HL := Lib.hid hl
  have HM := Lib.hid (show mostN xs = if len = 1 then 1 else (xs.getD (len - 1) 0 + xs.getD (len - 2) 0).toNat by rw [mostN, hl])
  obtain ⟨b, off, u, rfl, hb, hu, hc⟩ := hr.cellOf (k := 0) (by omega)
  have c1 := hc (len - 1) _ (get_map (by omega))
  have c2 := hc (len - 2) _ (get_map (by omega))
  rw [getD_of] at c1 c2
  have g1 := allB_iff.1 ha (len - 1) (by omega)
  have g2 := allB_iff.1 ha (len - 2) (by omega)
  obtain ⟨x, hx⟩ : ∃ x, x = xs.getD (len - 1) 0 := ⟨_, rfl⟩
  obtain ⟨y, hy⟩ : ∃ y, y = xs.getD (len - 2) 0 := ⟨_, rfl⟩
  rw [← hx] at c1 g1
  rw [← hy] at c2 g2
  rw [← hx, ← hy] at HM
  obtain ⟨M, hM⟩ : ∃ M, M = mostN xs := ⟨_, rfl⟩
  rw [← hM] at hmb HM ⊢
  have HMM := Lib.hid hM
  clear ha hs hone hl hr hsys hc hx hy hM hu
  go_enter Try.func31, Try.ntmps31
  go_upto_if 10 with fail
  go_cut [3] (fun s wx => s = .int .i64 (M : Int) ∧ Kp w wx)
  case first =>
    by_cases h1l : len = 1
    · have t1 : decide ((1 : Int) < (len : Int)) = false := by simp; omega
      have e : M = 1 := by rw [HM.out, if_pos h1l]
      have HE1 := Lib.hid e
      clear e
      go_wp2_with fail
      all_goals go_meet
      all_goals exact ⟨by rw [HE1.out]; rfl, Kp.refl w⟩
    · have t1 : decide ((1 : Int) < (len : Int)) = true := by simp; omega
      have e : (M : Int) = x + y := by have := HM.out; rw [if_neg h1l] at this; omega
      have HE1 := Lib.hid e
      clear e
      have j1 : ((len : Int) - 1).toNat = len - 1 := by omega
      have j2 : ((len : Int) - 2).toNat = len - 2 := by omega
      have j3 : (0 : Int) ≤ (len : Int) - 1 := by omega
      have j4 : (0 : Int) ≤ (len : Int) - 2 := by omega
      have j5 : (len : Int) - 1 < (len : Int) := by omega
      have j6 : (len : Int) - 2 < (len : Int) := by omega
      go_upto_region 4 with fail
      have q1 : IntKind.i64.wrap ((len : Int) - 1) = (len : Int) - 1 := IntWalk.i64_in _ (by omega)
      have q2 : IntKind.i64.wrap ((len : Int) - 2) = (len : Int) - 2 := IntWalk.i64_in _ (by omega)
      have q3 : IntKind.i64.wrap (x + y) = x + y := IntWalk.i64_in _ (by omega)
      go_quiet (fail)
      clear q1 q2 q3
      go_wp2_with fail
      all_goals go_meet
      all_goals exact ⟨by rw [HE1.out], by (repeat (with_reducible first | exact Kp.refl _ | assumption | refine Kp.drew ?_ | refine Kp.drewN ?_ _ | refine Kp.alloc ?_ _ | refine Kp.setCell ?_ (by first | (simp; done) | (simp; omega) | (dsimp only; omega)) _ | refine Kp.trans ?_ (by assumption)))⟩
  case rest =>
  obtain ⟨rfl, hk1⟩ := hcut
  go_wp2_with fail
  refine (iFewest_any _ _ _ xs M _ HL.out HS.out (by omega) (HR.out.kp hk1)).mono ?_
  rintro e w2 ⟨v, L, rfl, ho, hrow, hk2⟩
  obtain ⟨g, cap, rfl, hc1, hc2, hb2, hg2, hcell⟩ := ho.cells (by rw [hrow.1]; omega)
  obtain ⟨P, hP⟩ : ∃ P, P = M + 1 := ⟨_, rfl⟩
  have hP1 : P ≤ M + 1 := by omega
  have hP2 : M + 1 ≤ P := by omega
  rw [hrow.1, ← hP] at hc1 hcell ⊢
  have HC := Lib.hid (show ∀ j, j < M + 1 → w2.cell? ⟨g, j, none⟩ = some (.int .i64 (fw xs j)) from fun j hj => by rw [hcell j (by omega), hrow.2 j hj])
  clear hcell hrow ho hb2 hP
  have hk12 := Kp.trans hk1 hk2
  go_wp2_with fail
  go_loopw [6] (fun i wr => ∃ n : Nat, 1 ≤ n ∧ n ≤ M + 1 ∧ i = .int .i64 n ∧ (∀ j, 1 ≤ j → j < n → gcost xs j = fw xs j) ∧ Kp w2 wr) (fun i _ => M + 1 - (intOf i).toNat)
  case atStart => exact ⟨1, by omega, by omega, rfl, fun j h1 h2 => by omega, Kp.refl w2⟩
  case round =>
    obtain ⟨n, hn1, hn, rfl, hok, hkp⟩ := hrel
    have HOK := Lib.hid hok
    clear hok
    by_cases hlt : n ≤ M
    · have cq := hkp.at1 (HC.out n (by omega))
      have i1 : (n : Int) < (P : Int) := by omega
      have i0 : (0 : Int) ≤ (n : Int) := by omega
      have hnB : inB (n : Int) 0 1000 = true := inB_true.2 (by omega)
      have hgs := greedy_small (n := (n : Int)) HA.out hnB
      have HG := Lib.hid hgs
      have HN := Lib.hid hnB
      have GL := greedyL_length xs (n : Int)
      have HGC := Lib.hid (show gcost xs n = sumK (greedyL xs (n : Int)) len by rw [gcost, HL.out])
      rw [HL.out] at GL
      obtain ⟨E, hE⟩ : ∃ E, E = fw xs n := ⟨_, rfl⟩
      obtain ⟨GV, hGV⟩ : ∃ GV, GV = greedyL xs (n : Int) := ⟨_, rfl⟩
      rw [← hGV] at HGC GL HG
      obtain ⟨S, hS⟩ : ∃ S, S = sumK GV len := ⟨_, rfl⟩
      rw [← hS] at HGC
      rw [← hE] at cq
      have HE := Lib.hid hE
      have HGL := Lib.hid GL
      have HSS := Lib.hid hS
      have hkz := hk12.trans hkp
      have GR := fun (W : World) (hk : Kp w W) => iGreedy_any (some ⟨b, off, none⟩) len c xs (n : Int) W HL.out HS.out HN.out (HR.out.kp hk)
      rw [← hGV] at GR
      have SR := fun (W : World) (B : Nat) (v : Value) (ho : OwI B W v GV) => sum_row (F := 36) iSum_any len b2.2 GV HGL.out HG.out W B v ho
      rw [← hS] at SR
      have HGR := Lib.hid GR
      have HSR := Lib.hid SR
      clear hE hGV hS hgs hnB GL GR SR
      by_cases hES : S = E
      · have t : (S != E) = false := by simp [hES]
        have HH := Lib.hid hES
        clear hES
        go_upto_region 9 with fail
        go_region_held3 (fun w' => w'.cell? ⟨g, n, none⟩ = some (.int .i64 E) ∧ Kp w w')
          (((try go_split_ands); (repeat' apply And.intro) <;> (first | with_reducible assumption | (with_reducible apply cell_drew; with_reducible assumption) | (with_reducible refine Kp.drew ?_; with_reducible assumption) | (with_reducible apply hk.at1; with_reducible assumption) | (with_reducible apply hk.at1; with_reducible apply cell_drew; with_reducible assumption) | (refine Kp.trans ?_ hk; with_reducible assumption) | (refine Kp.trans (Kp.drew ?_) hk; with_reducible assumption))))
          (first | (go_at_call 30; refine (HGR.out _ (by (try go_split_ands); with_reducible assumption)).mono ?_; rintro e w3 ⟨v, rfl, ho, hk⟩) | (go_at_call 36; refine (HSR.out _ _ _ ho).mono ?_; rintro e w4 ⟨rfl, hk⟩))
        go_wp2
        go_roundw
        case rel => exact ⟨n + 1, by omega, by omega, by go_num, fun j h1 h2 => by
          rcases Nat.lt_or_ge j n with h | h
          · exact HOK.out j h1 h
          · obtain rfl : j = n := by omega
            rw [HGC.out, HH.out, HE.out], by (repeat (with_reducible first | exact Kp.refl _ | assumption | refine Kp.drew ?_ | refine Kp.drewN ?_ _ | refine Kp.alloc ?_ _ | refine Kp.setCell ?_ (by first | (simp; done) | (simp; omega) | (dsimp only; omega)) _ | refine Kp.trans ?_ (by assumption)))⟩
        case measure => simp [intOf]; omega
      · have t : (S != E) = true := by simp [hES]
        have HH := Lib.hid hES
        clear hES
        go_upto_region 9 with fail
        go_region_held3 (fun w' => w'.cell? ⟨g, n, none⟩ = some (.int .i64 E) ∧ Kp w w')
          (((try go_split_ands); (repeat' apply And.intro) <;> (first | with_reducible assumption | (with_reducible apply cell_drew; with_reducible assumption) | (with_reducible refine Kp.drew ?_; with_reducible assumption) | (with_reducible apply hk.at1; with_reducible assumption) | (with_reducible apply hk.at1; with_reducible apply cell_drew; with_reducible assumption) | (refine Kp.trans ?_ hk; with_reducible assumption) | (refine Kp.trans (Kp.drew ?_) hk; with_reducible assumption))))
          (first | (go_at_call 30; refine (HGR.out _ (by (try go_split_ands); with_reducible assumption)).mono ?_; rintro e w3 ⟨v, rfl, ho, hk⟩) | (go_at_call 36; refine (HSR.out _ _ _ ho).mono ?_; rintro e w4 ⟨rfl, hk⟩))
        go_wp2
        go_ret
        exact ⟨ret_int (fgbM_hit hn1 hlt HOK.out (by rw [HGC.out, ← HE.out]; exact HH.out)).symm, by (repeat (with_reducible first | exact Kp.refl _ | assumption | refine Kp.drew ?_ | refine Kp.drewN ?_ _ | refine Kp.alloc ?_ _ | refine Kp.setCell ?_ (by first | (simp; done) | (simp; omega) | (dsimp only; omega)) _ | refine Kp.trans ?_ (by assumption)))⟩
    · have i1 : (M : Int) < (n : Int) := by omega
      obtain rfl : n = M + 1 := by omega
      go_wp2
      go_ret
      exact ⟨ret_int (fgbM_miss (fun j h1 h2 => HOK.out j h1 h2)).symm, hk12.trans hkp⟩
set_option maxHeartbeats 1600000 in
theorem sFirstIn_any (A : Option Addr) (len c : Nat) (xs : List Int) (w : World) (hl : xs.length = len) (hsys : sysB xs = true) (h1l : len ≠ 1) (hr : Reads w w.heap.size 1 A len (xs.map (.int .i64))) :
    Calls Try.prog 18 #[.slice A len c] w fun e w' => e = .returned (.int .i64 (fgbM xs (mostN xs))) ∧ Kp w w' := by
  have HR := Lib.hid hr
  have HS := Lib.hid hsys
  have hmb := mostN_bd hsys
  obtain ⟨ha, hs, b2, hone⟩ := sysB_bd hsys
  have HA := Lib.hid ha
  rw [hl] at b2
  have HL := Lib.hid hl
  have HM := Lib.hid (show mostN xs = if len = 1 then 1 else (xs.getD (len - 1) 0 + xs.getD (len - 2) 0).toNat by rw [mostN, hl])
  obtain ⟨b, off, u, rfl, hb, hu, hc⟩ := hr.cellOf (k := 0) (by omega)
  have c1 := hc (len - 1) _ (get_map (by omega))
  have c2 := hc (len - 2) _ (get_map (by omega))
  rw [getD_of] at c1 c2
  have g1 := allB_iff.1 ha (len - 1) (by omega)
  have g2 := allB_iff.1 ha (len - 2) (by omega)
  obtain ⟨x, hx⟩ : ∃ x, x = xs.getD (len - 1) 0 := ⟨_, rfl⟩
  obtain ⟨y, hy⟩ : ∃ y, y = xs.getD (len - 2) 0 := ⟨_, rfl⟩
  rw [← hx] at c1 g1
  rw [← hy] at c2 g2
  rw [← hx, ← hy] at HM
  obtain ⟨M, hM⟩ : ∃ M, M = mostN xs := ⟨_, rfl⟩
  rw [← hM] at hmb HM ⊢
  have HMM := Lib.hid hM
  clear ha hs hone hl hr hsys hc hx hy hM hu
  have e : (M : Int) = x + y := by have := HM.out; rw [if_neg h1l] at this; omega
  have HE1 := Lib.hid e
  clear e
  have t1 : ((len : Int) == 1) = false := by simp; omega
  have j1 : ((len : Int) - 1).toNat = len - 1 := by omega
  have j2 : ((len : Int) - 2).toNat = len - 2 := by omega
  have j3 : (0 : Int) ≤ (len : Int) - 1 := by omega
  have j4 : (0 : Int) ≤ (len : Int) - 2 := by omega
  have j5 : (len : Int) - 1 < (len : Int) := by omega
  have j6 : (len : Int) - 2 < (len : Int) := by omega
  go_enter Try.func18, Try.ntmps18
  go_upto_region 3 with (go_at_call 24; refine (sSystemOk_any _ _ _ xs _ HL.out (by omega) HR.out).mono ?_; rintro e w1 ⟨rfl, hm⟩; rw [HS.out]; have hk1 := Kp.of_drewN hm; clear hm; have c1 := hk1.at1 c1; have c2 := hk1.at1 c2)
  have q1 : IntKind.i64.wrap ((len : Int) - 1) = (len : Int) - 1 := IntWalk.i64_in _ (by omega)
  have q2 : IntKind.i64.wrap ((len : Int) - 2) = (len : Int) - 2 := IntWalk.i64_in _ (by omega)
  have q3 : IntKind.i64.wrap (x + y) = (M : Int) := by rw [HE1.out]; exact IntWalk.i64_in _ (by omega)
  go_quiet (fail)
  clear q1 q2 q3
  go_wp2_with fail
  refine (sFewest_any _ _ _ xs M _ HL.out HS.out (by omega) (HR.out.kp (hk1.drewN _))).mono ?_
  rintro e w2 ⟨v, L, rfl, ho, hrow, hk2⟩
  obtain ⟨g, cap, rfl, hc1, hc2, hb2, hg2, hcell⟩ := ho.cells (by rw [hrow.1]; omega)
  obtain ⟨P, hP⟩ : ∃ P, P = M + 1 := ⟨_, rfl⟩
  have hP1 : P ≤ M + 1 := by omega
  have hP2 : M + 1 ≤ P := by omega
  rw [hrow.1, ← hP] at hc1 hcell ⊢
  have HC := Lib.hid (show ∀ j, j < M + 1 → w2.cell? ⟨g, j, none⟩ = some (.int .i64 (fw xs j)) from fun j hj => by rw [hcell j (by omega), hrow.2 j hj])
  clear hcell hrow ho hb2 hP
  have hk12 := Kp.trans (hk1.drewN _) hk2
  go_wp2_with fail
  go_loopw [5] (fun i wr => ∃ n : Nat, 1 ≤ n ∧ n ≤ M + 1 ∧ i = .int .i64 n ∧ (∀ j, 1 ≤ j → j < n → gcost xs j = fw xs j) ∧ Kp w2 wr) (fun i _ => M + 1 - (intOf i).toNat)
  case atStart => exact ⟨1, by omega, by omega, rfl, fun j h1 h2 => by omega, Kp.refl w2⟩
  case round =>
    obtain ⟨n, hn1, hn, rfl, hok, hkp⟩ := hrel
    have HOK := Lib.hid hok
    clear hok
    by_cases hlt : n ≤ M
    · have cq := hkp.at1 (HC.out n (by omega))
      have i1 : (n : Int) < (P : Int) := by omega
      have i0 : (0 : Int) ≤ (n : Int) := by omega
      have hnB : inB (n : Int) 0 1000 = true := inB_true.2 (by omega)
      have hgs := greedy_small (n := (n : Int)) HA.out hnB
      have HG := Lib.hid hgs
      have HN := Lib.hid hnB
      have GL := greedyL_length xs (n : Int)
      have HGC := Lib.hid (show gcost xs n = sumK (greedyL xs (n : Int)) len by rw [gcost, HL.out])
      rw [HL.out] at GL
      obtain ⟨E, hE⟩ : ∃ E, E = fw xs n := ⟨_, rfl⟩
      obtain ⟨GV, hGV⟩ : ∃ GV, GV = greedyL xs (n : Int) := ⟨_, rfl⟩
      rw [← hGV] at HGC GL HG
      obtain ⟨S, hS⟩ : ∃ S, S = sumK GV len := ⟨_, rfl⟩
      rw [← hS] at HGC
      rw [← hE] at cq
      have HE := Lib.hid hE
      have HGL := Lib.hid GL
      have HSS := Lib.hid hS
      have hkz := hk12.trans hkp
      have GR := fun (W : World) (hk : Kp w W) => sGreedyIn_any (some ⟨b, off, none⟩) len c xs (n : Int) W HL.out HS.out HN.out (HR.out.kp hk)
      rw [← hGV] at GR
      have SR := fun (W : World) (B : Nat) (v : Value) (ho : OwI B W v GV) => sum_row (F := 32) sSum_any len b2.2 GV HGL.out HG.out W B v ho
      rw [← hS] at SR
      have HGR := Lib.hid GR
      have HSR := Lib.hid SR
      clear hE hGV hS hgs hnB GL GR SR
      by_cases hES : S = E
      · have t : (S != E) = false := by simp [hES]
        have HH := Lib.hid hES
        clear hES
        go_upto_region 8 with fail
        go_region_held3 (fun w' => w'.cell? ⟨g, n, none⟩ = some (.int .i64 E) ∧ Kp w w')
          (((try go_split_ands); (repeat' apply And.intro) <;> (first | with_reducible assumption | (with_reducible apply cell_drew; with_reducible assumption) | (with_reducible refine Kp.drew ?_; with_reducible assumption) | (with_reducible apply hk.at1; with_reducible assumption) | (with_reducible apply hk.at1; with_reducible apply cell_drew; with_reducible assumption) | (refine Kp.trans ?_ hk; with_reducible assumption) | (refine Kp.trans (Kp.drew ?_) hk; with_reducible assumption))))
          (first | (go_at_call 12; refine (HGR.out _ (by (try go_split_ands); with_reducible assumption)).mono ?_; rintro e w3 ⟨v, rfl, ho, hk⟩) | (go_at_call 32; refine (HSR.out _ _ _ ho).mono ?_; rintro e w4 ⟨rfl, hk⟩))
        go_wp2
        go_roundw
        case rel => exact ⟨n + 1, by omega, by omega, by go_num, fun j h1 h2 => by
          rcases Nat.lt_or_ge j n with h | h
          · exact HOK.out j h1 h
          · obtain rfl : j = n := by omega
            rw [HGC.out, HH.out, HE.out], by (repeat (with_reducible first | exact Kp.refl _ | assumption | refine Kp.drew ?_ | refine Kp.drewN ?_ _ | refine Kp.alloc ?_ _ | refine Kp.setCell ?_ (by first | (simp; done) | (simp; omega) | (dsimp only; omega)) _ | refine Kp.trans ?_ (by assumption)))⟩
        case measure => simp [intOf]; omega
      · have t : (S != E) = true := by simp [hES]
        have HH := Lib.hid hES
        clear hES
        go_upto_region 8 with fail
        go_region_held3 (fun w' => w'.cell? ⟨g, n, none⟩ = some (.int .i64 E) ∧ Kp w w')
          (((try go_split_ands); (repeat' apply And.intro) <;> (first | with_reducible assumption | (with_reducible apply cell_drew; with_reducible assumption) | (with_reducible refine Kp.drew ?_; with_reducible assumption) | (with_reducible apply hk.at1; with_reducible assumption) | (with_reducible apply hk.at1; with_reducible apply cell_drew; with_reducible assumption) | (refine Kp.trans ?_ hk; with_reducible assumption) | (refine Kp.trans (Kp.drew ?_) hk; with_reducible assumption))))
          (first | (go_at_call 12; refine (HGR.out _ (by (try go_split_ands); with_reducible assumption)).mono ?_; rintro e w3 ⟨v, rfl, ho, hk⟩) | (go_at_call 32; refine (HSR.out _ _ _ ho).mono ?_; rintro e w4 ⟨rfl, hk⟩))
        go_wp2
        go_ret
        exact ⟨ret_int (fgbM_hit hn1 hlt HOK.out (by rw [HGC.out, ← HE.out]; exact HH.out)).symm, by (repeat (with_reducible first | exact Kp.refl _ | assumption | refine Kp.drew ?_ | refine Kp.drewN ?_ _ | refine Kp.alloc ?_ _ | refine Kp.setCell ?_ (by first | (simp; done) | (simp; omega) | (dsimp only; omega)) _ | refine Kp.trans ?_ (by assumption)))⟩
    · have i1 : (M : Int) < (n : Int) := by omega
      obtain rfl : n = M + 1 := by omega
      go_wp2
      go_ret
      exact ⟨ret_int (fgbM_miss (fun j h1 h2 => HOK.out j h1 h2)).symm, hk12.trans hkp⟩
end Go.Proofs.Ytjioijpanohgoaa
