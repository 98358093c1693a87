/- TimesWith: the walk of the reference. -/
import Derived.Test.YtpafcambfmkmiaaGlS
set_option linter.unusedVariables false
namespace Go.Proofs.Ytpafcambfmkmiaa
open Go.RowKit
theorem cell_gb {w W : World} {r : Option Nat} {p : Addr} {v : Value} (h : w.grownBy W r) (hne : some p.block ≠ r) (hc : w.cell? p = some v) : W.cell? p = some v :=
  (World.cell?_of_block (h.block p.block (cell_lt hc) hne)).trans hc
theorem gb_trans {a b c : World} {r : Option Nat} (h : a.grownBy b r) (h' : b.grownBy c r) : a.grownBy c r := h.trans h'
theorem gb_kp {w w' : World} (h : Kp w w') (r : Option Nat) : w.grownBy w' r := ⟨h.os, h.tape, h.output, h.size, fun k hk _ => h.block k hk⟩
theorem gb_refl (w : World) (r : Option Nat) : w.grownBy w r := ⟨rfl, rfl, rfl, Nat.le_refl _, fun _ _ _ => rfl⟩
theorem gset (W : World) (b j : Nat) (v : Value) : W.grownBy (W.setCell ⟨b, j, none⟩ v) (some b) :=
  ⟨rfl, rfl, rfl, by simp, fun k _ hk => Below.heap_setCell _ _ _ k (fun e => hk (by rw [e]))⟩
theorem owi_empty (w : World) : OwI w.heap.size (w.alloc (.cells #[] 3)) (.slice (some ⟨w.heap.size, 0, none⟩) 0 0) [] :=
  World.ownsRow_made w #[] 0 (Nat.le_refl _) (by unfold maxLen; omega) rfl
set_option maxRecDepth 20000 in
set_option maxHeartbeats 12800000 in
theorem sTimes_any (f s m : Int) (w : World) :
    Calls Try.prog 17 #[.int .i64 f, .int .i64 s, .int .i64 m] w fun e w' => ∃ v, e = .returned v ∧ OwI w.heap.size w' v (timM f s m) ∧ Kp w w' := by
  have HO0 := Lib.hid (owi_empty w)
  have HK0 := Lib.hid ((Kp.refl w).alloc (.cells #[] 3))
  have hgl : glassB f s 0 0 = (inB f 1 12 && inB s 1 12) := by
    simp only [glassB]
    cases h1 : inB f 1 12 with
    | false => simp
    | true =>
      cases h2 : inB s 1 12 with
      | false => simp
      | true =>
        have a := inB_true.1 h1
        have b := inB_true.1 h2
        rw [inB_true.2 (show (0 : Int) ≤ 0 ∧ (0 : Int) ≤ f by omega), inB_true.2 (show (0 : Int) ≤ 0 ∧ (0 : Int) ≤ s by omega)]; rfl
  have HGL := Lib.hid hgl
  clear hgl
  by_cases hok : (inB f 1 12 && inB s 1 12 && inB m 1 60) = true
  · obtain ⟨h12, h3⟩ := Bool.and_eq_true_iff.1 hok
    obtain ⟨h1, h2⟩ := Bool.and_eq_true_iff.1 h12
    have hf := inB_true.1 h1
    have hs := inB_true.1 h2
    have hm := inB_true.1 h3
    obtain ⟨M, rfl⟩ : ∃ M : Nat, m = (M : Int) := ⟨m.toNat, by omega⟩
    have HTM := Lib.hid (show timM f s (M : Int) = tmL f s M (M + 1) by rw [timM, if_pos hok]; rfl)
    have HG := Lib.hid (HGL.out.trans h12)
    have H3 := Lib.hid h3
    clear hok h12 h3 h1 h2
    obtain ⟨i0, hi, hz0, hz1, hz2⟩ := info_parts bool_info
    obtain ⟨j0, hj, hy0, hy1, hy2⟩ := info_parts int_info
    go_enter Try.func17, Try.ntmps17
    go_wp2_with fail
    refine (specGlassesOk_any f s 0 0 _).mono ?_
    rw [HG.out]
    rintro e w1 ⟨rfl, hk1⟩
    have HO1 := Lib.hid (HO0.out.kp hk1)
    have HK1 := Lib.hid (HK0.out.trans hk1)
    have hs1 := (HK0.out.trans hk1).size
    have hs1' : w.heap.size < w1.heap.size := by have := hk1.size; simp at this; omega
    clear hk1
    obtain ⟨Z, hZ⟩ : ∃ Z, Z = (M + 1) * 169 := ⟨_, rfl⟩
    have eZ : ((M : Int) + 1) * 13 * 13 = (Z : Int) := by omega
    have hZ1 : 1 ≤ Z ∧ Z ≤ 10309 := by omega
    have HZ := Lib.hid hZ
    clear hZ
    go_wp2_with (first | (go_at_call 28; refine (l01In_any _ _ _ _).mono ?_; rintro e w' ⟨rfl, rfl⟩; rw [H3.out]) | (at_make; refine wpList_make_full _ rfl _ _ 43 rfl w.heap.size 4 i0 (.bool false) 1 Try.underlying43 hi hz0 hz1 .i64 .i64 _ _ Z rfl rfl (by omega) (by omega) (by rw [hz2]; omega) (by unfold maxLen; omega) hs1 ?_; intro w2 hown2 hgrow2; have hk2 := (Kp.refl w1).grown hgrow2 (fun k e => by cases e); rw [show (Value.bool false).cells = #[.bool false] from rfl, toList_madeCells_one, Nat.mul_one] at hown2; have cg0 : w2.cell? ⟨w1.heap.size, 0, none⟩ = some (.bool false) := (by rw [hown2.cellAt 0 (by omega), List.getElem?_replicate, if_pos (by omega)]); have fg0 := hown2.frozenAt 0; have HO2 := Lib.hid hown2; have HK2 := Lib.hid (HK1.out.trans hk2); have HQ2 := Lib.hid (HO1.out.kp hk2); have hgs : w1.heap.size < w2.heap.size := cell_lt cg0; clear hown2 hgrow2 hk2))
    obtain ⟨g, hg⟩ : ∃ g, g = w1.heap.size := ⟨_, rfl⟩
    rw [← hg] at HO2 cg0 fg0 hgs hs1' hs1 ⊢
    have hgw : w.heap.size < g := hs1'
    clear hg hs1' hs1
    have hst := (World.ownsRow.stored HO2.out 0 (.bool true))
    have HST := Lib.hid (show (w2.setCell ⟨g, 0, none⟩ (.bool true)).ownsRow w.heap.size 4 1 (.slice (some ⟨g, 0, none⟩) Z Z) Z (((List.replicate ((M + 1) * 169) false).set 0 true).map Value.bool) by
      have h := hst.1
      rw [List.map_set, List.map_replicate, ← HZ.out]
      exact h)
    have HQ3 := Lib.hid (HQ2.out.far hst.2 (.inr (by simp [Value.ownBlock]; omega)))
    have HK3 := Lib.hid (HK2.out.grown hst.2 (by intro k e; cases e; omega))
    clear hst cg0 fg0 HQ2 HO2 HK2 HO1 HK1
    go_loopw [7, 10] (fun o tv wr => ∃ t : Nat, ∃ LB, t ≤ M + 1 ∧ tv = .int .i64 (t : Int) ∧ OwI w.heap.size wr o (tmL f s M t) ∧ o.ownBlock ≠ some g ∧ wr.ownsRow w.heap.size 4 1 (.slice (some ⟨g, 0, none⟩) Z Z) Z (LB.map Value.bool) ∧ TB f s M (t * 169) LB ∧ Kp w wr) (fun _ tv _ => M + 1 - (intOf tv).toNat)
    case atStart => exact ⟨0, _, by omega, rfl, HQ3.out, (by intro e; simp [Value.ownBlock] at e; omega), HST.out, by rw [Nat.zero_mul]; exact tb_zero, HK3.out⟩
    case round =>
      obtain ⟨t, LB, htM, rfl, ho, hog, hrow, htb, hkp⟩ := hrel
      obtain ⟨wo, hwo⟩ : ∃ wo, wo = wr := ⟨_, rfl⟩
      subst hwo
      have HO := Lib.hid ho
      have HOG := Lib.hid hog
      have HRW := Lib.hid hrow
      have HTB := Lib.hid htb
      have HKP := Lib.hid hkp
      have hsz := hkp.size
      have hgo : g < wo.heap.size := (World.ownsRow.lt hrow g rfl).2
      clear ho hog hrow htb hkp
      by_cases hlt : t ≤ M
      · go_wp2_with fail
        go_loopw [11, 12] (fun fv kv wr => ∃ k : Nat, ∃ LB, k ≤ 169 ∧ kv = .int .i64 (k : Int) ∧ fv = .bool (fnd f s M t k) ∧ wr.ownsRow w.heap.size 4 1 (.slice (some ⟨g, 0, none⟩) Z Z) Z (LB.map Value.bool) ∧ TB f s M (t * 169 + k) LB ∧ wo.grownBy wr (some g)) (fun _ kv _ => 169 - (intOf kv).toNat)
        case atStart => exact ⟨0, LB, by omega, rfl, by rw [fnd_zero], HRW.out, HTB.out, gb_refl _ _⟩
        case round =>
          obtain ⟨k, LB, hk, rfl, rfl, hrow, htb, hgr⟩ := hrel
          by_cases hkl : k < 169
          · have hk9 : (k : Int) < 169 := by omega
            obtain ⟨p, hp⟩ : ∃ p, p = t * 169 + k := ⟨_, rfl⟩
            have hpZ : p < Z := by have := HZ.out; omega
            have eP : (t : Int) * 13 * 13 + (k : Int) = (p : Int) := by omega
            have eN : t * 13 * 13 + k = p := by omega
            have hbr := boolrow_at hrow (by rw [htb.1, HZ.out]) hpZ
            have hre : LB.getD p false = true ↔ Re f s M p := (htb.2 p (by rw [← HZ.out]; exact hpZ)).trans (by rw [hp]; exact rb_at)
            have HRW2 := Lib.hid hrow
            have HTB2 := Lib.hid htb
            have HG2 := Lib.hid hgr
            have cp := hbr.1
            have p0 : (0 : Int) ≤ (p : Int) := by omega
            have p1 : (p : Int) < (Z : Int) := by omega
            obtain ⟨b, hb⟩ : ∃ b, b = LB.getD p false := ⟨_, rfl⟩
            rw [← hb] at cp hre
            have HPE := Lib.hid hp
            clear hbr hrow htb hgr hb
            cases b with
            | false =>
              have hnr : ¬ Re f s M p := fun h => by have := hre.2 h; cases this
              have HNX := Lib.hid (show TB f s M (t * 169 + (k + 1)) LB from HTB2.out.skip (by rw [← HPE.out]; exact hnr))
              have HFN := Lib.hid (fnd_no (by rw [← HPE.out]; exact hnr))
              clear hp hre hnr
              go_wp2_with fail
              go_roundw
              case rel => exact ⟨k + 1, LB, by omega, by go_num, by rw [HFN.out], HRW2.out, HNX.out, HG2.out⟩
              case measure => simp [intOf]; omega
            | true =>
              have hr : Re f s M p := hre.1 rfl
              have HRE := Lib.hid hr
              have HFN := Lib.hid (fnd_yes (by rw [← HPE.out]; exact hr))
              have q1 : (k : Int).tdiv 13 = ((uc p : Nat) : Int) := by rw [Int.tdiv_eq_ediv_of_nonneg (by omega)]; unfold uc; omega
              have q2 : (k : Int).tmod 13 = ((vc p : Nat) : Int) := by rw [Int.tmod_eq_emod_of_nonneg (by omega)]; unfold vc; omega
              have HOK := Lib.hid (hr.ok hf hs)
              have HTC := Lib.hid (show tc p = t by unfold tc; omega)
              clear hp hre hr
              obtain ⟨wk, hwk⟩ : ∃ wk, wk = wr := ⟨_, rfl⟩
              subst hwk
              have wq1 : IntKind.i64.wrap ((uc p : Nat) : Int) = ((uc p : Nat) : Int) := IntWalk.i64_in _ (by have := uv_bd p; omega)
              have wq2 : IntKind.i64.wrap ((vc p : Nat) : Int) = ((vc p : Nat) : Int) := IntWalk.i64_in _ (by have := uv_bd p; omega)
              go_upto_region 16 with fail
              go_region
              go_wp2_with fail
              have e0 : ((wk.alloc (.cells #[.int .i64 f, .int .i64 s, .int .i64 ((uc p : Nat) : Int), .int .i64 ((vc p : Nat) : Int)] 25)).drew).cell? ⟨wk.heap.size, 0, none⟩ = some (.int .i64 f) := cell_drew (by simp [go_sem])
              have e1 : ((wk.alloc (.cells #[.int .i64 f, .int .i64 s, .int .i64 ((uc p : Nat) : Int), .int .i64 ((vc p : Nat) : Int)] 25)).drew).cell? ⟨wk.heap.size, 1, none⟩ = some (.int .i64 s) := cell_drew (by simp [go_sem])
              have e2 : ((wk.alloc (.cells #[.int .i64 f, .int .i64 s, .int .i64 ((uc p : Nat) : Int), .int .i64 ((vc p : Nat) : Int)] 25)).drew).cell? ⟨wk.heap.size, 2, none⟩ = some (.int .i64 ((uc p : Nat) : Int)) := cell_drew (by simp [go_sem])
              have e3 : ((wk.alloc (.cells #[.int .i64 f, .int .i64 s, .int .i64 ((uc p : Nat) : Int), .int .i64 ((vc p : Nat) : Int)] 25)).drew).cell? ⟨wk.heap.size, 3, none⟩ = some (.int .i64 ((vc p : Nat) : Int)) := cell_drew (by simp [go_sem])
              have hkW : Kp wk ((wk.alloc (.cells #[.int .i64 f, .int .i64 s, .int .i64 ((uc p : Nat) : Int), .int .i64 ((vc p : Nat) : Int)] 25)).drew) := Kp.drew ((Kp.refl _).alloc _)
              obtain ⟨W, hW⟩ : ∃ W, W = (wk.alloc (.cells #[.int .i64 f, .int .i64 s, .int .i64 ((uc p : Nat) : Int), .int .i64 ((vc p : Nat) : Int)] 25)).drew := ⟨_, rfl⟩
              rw [← hW] at e0 e1 e2 e3 hkW ⊢
              have HE := Lib.hid (And.intro e0 (And.intro e1 (And.intro e2 e3)))
              have HRW3 := Lib.hid (owns_kp HRW2.out hkW)
              have HG3 := Lib.hid (gb_trans HG2.out (gb_kp hkW (some g)))
              have hgb : g ≠ wk.heap.size := by have h := (World.ownsRow.lt HRW2.out g rfl).2; omega
              clear e0 e1 e2 e3 hkW hW cp p0 p1 q1 q2 wq1 wq2 eP eN
              go_loopw [14] (fun wv wq => ∃ j : Nat, j ≤ 4 ∧ wv = .int .i64 (j : Int) ∧ ∃ LB, wq.ownsRow w.heap.size 4 1 (.slice (some ⟨g, 0, none⟩) Z Z) Z (LB.map Value.bool) ∧ TBw f s M p j LB ∧ W.grownBy wq (some g)) (fun wv _ => 4 - (intOf wv).toNat)
              case atStart => exact ⟨0, by omega, rfl, LB, HRW3.out, TB.start (by rw [HPE.out]; exact HTB2.out), gb_refl _ _⟩
              case round =>
                obtain ⟨j, hj, rfl, LC, hrow, htw, hgr⟩ := hrel
                by_cases hj4 : j < 4
                · have b0 := cell_gb hgr (fun e => by injection e with e; exact hgb e.symm) HE.out.1
                  have b1 := cell_gb hgr (fun e => by injection e with e; exact hgb e.symm) HE.out.2.1
                  have b2 := cell_gb hgr (fun e => by injection e with e; exact hgb e.symm) HE.out.2.2.1
                  have b3 := cell_gb hgr (fun e => by injection e with e; exact hgb e.symm) HE.out.2.2.2
                  have HROW := Lib.hid hrow
                  have HTW := Lib.hid htw
                  have HGR := Lib.hid hgr
                  have hj3 : (j : Int) ≤ 3 := by omega
                  clear hrow htw hgr
                  go_wp2_with fail
                  refine (specFlip_any f s ((uc p : Nat) : Int) ((vc p : Nat) : Int) (j : Int) _).mono ?_
                  rintro e w5 ⟨rfl, hk5⟩
                  go_wp2_with fail
                  refine (specRunOut_any f s _ _ _).mono ?_
                  rw [show gA f s (fA f s ((uc p : Nat) : Int) ((vc p : Nat) : Int) (j : Int)) (fB f s ((uc p : Nat) : Int) ((vc p : Nat) : Int) (j : Int)) = sA f s p j from rfl, show gB f s (fA f s ((uc p : Nat) : Int) ((vc p : Nat) : Int) (j : Int)) (fB f s ((uc p : Nat) : Int) ((vc p : Nat) : Int) (j : Int)) = sB f s p j from rfl, show gT f s (fA f s ((uc p : Nat) : Int) ((vc p : Nat) : Int) (j : Int)) (fB f s ((uc p : Nat) : Int) ((vc p : Nat) : Int) (j : Int)) = sN f s p j from rfl]
                  rintro e w6 ⟨rfl, hk6⟩
                  have HROW6 := Lib.hid (owns_kp HROW.out (hk5.trans hk6))
                  have HGR6 := Lib.hid (gb_trans HGR.out (gb_kp (hk5.trans hk6) (some g)))
                  have hbd := step_bd HOK.out j
                  obtain ⟨N, hN⟩ : ∃ N, N = sN f s p j := ⟨_, rfl⟩
                  have HN := Lib.hid hN
                  clear hk5 hk6 b0 b1 b2 b3
                  by_cases hx : 0 < N ∧ (t : Int) + N ≤ M
                  · obtain ⟨d, hd⟩ := nx_ex (M := M) (w := j) HOK.out (by rw [HTC.out, ← hN]; exact hx)
                    have hd' := hd
                    obtain ⟨_, _, d1, d2, d3⟩ := hd'
                    rw [← hN] at d3
                    rw [HTC.out] at d3
                    rw [← d1, ← d2, ← hN]
                    have hdZ : d < Z := by have h := nx_size hd; rw [← HZ.out] at h; exact h
                    have eD : ((tc d : Nat) : Int) * 13 * 13 + ((uc d : Nat) : Int) * 13 + ((vc d : Nat) : Int) = (d : Int) := by have := code_eq d; omega
                    have eN : tc d * 13 * 13 + uc d * 13 + vc d = d := by have := code_eq d; omega
                    have x1 := hx.1
                    have x2 := hx.2
                    have x3 : (t : Int) + N = ((tc d : Nat) : Int) := d3.symm
                    rw [x3] at x2
                    have hud := uv_bd d
                    have HD := Lib.hid hd
                    have z0 : (0 : Int) ≤ (d : Int) := by omega
                    have z1 : (d : Int) < (Z : Int) := by omega
                    have hrA := owns_kp HROW6.out ((Kp.refl w6).alloc (.cells #[.int .i64 f, .int .i64 s, .int .i64 ((uc d : Nat) : Int), .int .i64 ((vc d : Nat) : Int)] 25))
                    have hbr := boolrow_at hrA (by rw [HTW.out.1, HZ.out]) hdZ
                    have cd := hbr.1
                    have fd := hbr.2.1
                    have HNR := Lib.hid hbr.2.2.1
                    have HNG := Lib.hid (gb_trans HGR6.out (gb_trans (gb_kp ((Kp.refl w6).alloc (.cells #[.int .i64 f, .int .i64 s, .int .i64 ((uc d : Nat) : Int), .int .i64 ((vc d : Nat) : Int)] 25)) (some g)) hbr.2.2.2))
                    clear hrA hbr d1 d2 d3 hd hN hbd hx
                    go_wp2_with fail
                    go_roundw
                    case rel => exact ⟨j + 1, by omega, by first | go_num | omega, _, HNR.out, HTW.out.set HD.out (by rw [← HZ.out]; exact hdZ), HNG.out⟩
                    case measure => simp [intOf]; omega
                  · have HSK := Lib.hid (HTW.out.skip (fun d h => hx (by have h1 := h.1; have h2 := h.2.1; rw [HTC.out, ← hN] at h2; rw [← hN] at h1; exact ⟨h1, h2⟩)))
                    rw [← hN]
                    obtain ⟨A', hA'⟩ : ∃ A', A' = sA f s p j := ⟨_, rfl⟩
                    obtain ⟨B', hB'⟩ : ∃ B', B' = sB f s p j := ⟨_, rfl⟩
                    rw [← hA', ← hB']
                    have hNb : 0 ≤ N ∧ N ≤ 12 := by rw [hN]; exact hbd.2.2
                    have HRA := Lib.hid (owns_kp HROW6.out ((Kp.refl w6).alloc (.cells #[.int .i64 f, .int .i64 s, .int .i64 A', .int .i64 B'] 25)))
                    have HGA := Lib.hid (gb_trans HGR6.out (gb_kp ((Kp.refl w6).alloc (.cells #[.int .i64 f, .int .i64 s, .int .i64 A', .int .i64 B'] 25)) (some g)))
                    clear hA' hB' hN hbd
                    by_cases h0 : 0 < N
                    · have h1 : ¬ ((t : Int) + N ≤ M) := fun h => hx ⟨h0, h⟩
                      clear hx
                      go_wp2_with fail
                      go_roundw
                      case rel => exact ⟨j + 1, by omega, by first | go_num | omega, _, HRA.out, HSK.out, HGA.out⟩
                      case measure => simp [intOf]; omega
                    · clear hx
                      go_wp2_with fail
                      go_roundw
                      case rel => exact ⟨j + 1, by omega, by first | go_num | omega, _, HRA.out, HSK.out, HGA.out⟩
                      case measure => simp [intOf]; omega
                · obtain rfl : j = 4 := by omega
                  have HDN := Lib.hid (htw.done HRE.out)
                  have HROW := Lib.hid hrow
                  have HGR := Lib.hid (gb_trans HG3.out hgr)
                  clear htw hrow hgr
                  go_wp2_with fail
                  go_roundw
                  case rel => exact ⟨k + 1, LC, by omega, by go_num, by rw [HFN.out], HROW.out, by rw [← Nat.add_assoc, ← HPE.out]; exact HDN.out, HGR.out⟩
                  case measure => simp [intOf]; omega
          · obtain rfl : k = 169 := by omega
            have HT169 := Lib.hid (show TB f s M ((t + 1) * 169) LB by rw [Nat.add_mul, Nat.one_mul]; exact htb)
            have HROW := Lib.hid hrow
            have HO2 := Lib.hid (HO.out.far hgr (.inr HOG.out))
            have HK2 := Lib.hid (HKP.out.grown hgr (by intro k e; cases e; omega))
            have hst := tm_step (f := f) (s := s) (M := M) (t := t)
            obtain ⟨bb, hbb⟩ : ∃ bb, bb = fnd f s M t 169 := ⟨_, rfl⟩
            rw [← hbb] at hst ⊢
            have HST := Lib.hid hst
            have hs2 := (HKP.out.grown hgr (by intro k e; cases e; omega)).size
            have hg2 : g < wr.heap.size := (World.ownsRow.lt hrow g rfl).2
            clear htb hrow hgr hst hbb
            cases bb with
            | false =>
              have HTE := Lib.hid (show tmL f s M (t + 1) = tmL f s M t by rw [HST.out]; simp)
              go_wp2_with fail
              go_roundw
              case rel => exact ⟨t + 1, LB, by omega, by go_num, by rw [HTE.out]; exact HO2.out, HOG.out, HROW.out, HT169.out, HK2.out⟩
              case measure => simp [intOf]; omega
            | true =>
              by_cases h0 : 0 < t
              · have ht0 : (0 : Int) < (t : Int) := by omega
                have HTE := Lib.hid (show tmL f s M (t + 1) = tmL f s M t ++ [(t : Int)] by rw [HST.out, if_pos (by rw [decide_eq_true h0]; rfl)])
                obtain ⟨Lm, hLm⟩ : ∃ Lm, Lm = tmL f s M t := ⟨_, rfl⟩
                have hll := tmL_len f s M t
                have ho2 := HO2.out
                rw [← hLm] at ho2 hll
                have HLM := Lib.hid hLm
                obtain ⟨Av, cv, rfl, hrd⟩ := ho2.rd
                have HOW := Lib.hid (show wr.ownsRow w.heap.size 3 1 (.slice Av Lm.length cv) Lm.length (Lm.map (.int .i64)) from ho2)
                clear hrd ho2 hLm
                go_wp2_with (at_builtin; refine wpList_append_any _ rfl (.tmp 112) (.tmp 114) _ rfl w.heap.size 3 j0 _ 1 8 Try.underlying33 hj hy0 hy1 hy2 rfl (by omega) (.slice Av Lm.length cv) Lm.length (Lm.map (.int .i64)) rfl (HOW.out.alloc _) (wr.heap.size + 1) (some ⟨wr.heap.size, 0, none⟩) 1 1 [.int .i64 (t : Int)] rfl (reads_one _ _ _) (oneCell_one _) (by simp only [maxLen]; omega) (by omega) (by simp; omega) ?_; intro v5 w5 hown5 hg5 hat5; have HO5 := Lib.hid (show OwI w.heap.size w5 v5 (Lm ++ [(t : Int)]) by unfold OwI; rw [List.length_append, List.map_append]; exact hown5); have hv5 : v5.ownBlock ≠ some g := (by intro e; rcases hat5 with h | h <;> rw [e] at h <;> first | exact HOG.out h.symm | (injection h with h; simp at h; omega)); have HV5 := Lib.hid hv5; have HR5 := Lib.hid (World.ownsRow.kept (HROW.out.alloc _) hg5 (.inr (fun e => HOG.out e.symm))); have HK5 := Lib.hid ((HK2.out.alloc _).grown hg5 (fun k' e => (World.ownsRow.lt HOW.out k' e).1)); clear hown5 hg5 hat5 hv5)
                go_roundw
                case rel => exact ⟨t + 1, LB, by omega, by go_num, by rw [HTE.out, ← HLM.out]; exact HO5.out, HV5.out, HR5.out, HT169.out, HK5.out⟩
                case measure => simp [intOf]; omega
              · have HTE := Lib.hid (show tmL f s M (t + 1) = tmL f s M t by rw [HST.out, if_neg (by rw [decide_eq_false h0]; simp), List.append_nil])
                have ht0 : ¬ ((0 : Int) < (t : Int)) := by omega
                go_wp2_with fail
                go_roundw
                case rel => exact ⟨t + 1, LB, by omega, by go_num, by rw [HTE.out]; exact HO2.out, HOG.out, HROW.out, HT169.out, HK2.out⟩
                case measure => simp [intOf]; omega
      · obtain rfl : t = M + 1 := by omega
        go_wp2_with fail
        go_ret
        exact ⟨_, rfl, by rw [HTM.out]; exact HO.out, HKP.out⟩
  · have HM := Lib.hid (show timM f s m = [] by rw [timM, if_neg hok])
    go_enter Try.func17, Try.ntmps17
    go_wp2_with fail
    refine (specGlassesOk_any f s 0 0 _).mono ?_
    rw [HGL.out]
    rintro e w1 ⟨rfl, hk1⟩
    cases h12 : (inB f 1 12 && inB s 1 12) with
    | false =>
      go_wp2_with fail
      go_ret
      exact ⟨_, rfl, by rw [HM.out]; exact HO0.out.kp hk1, HK0.out.trans hk1⟩
    | true =>
      have h3 : inB m 1 60 = false := by rw [h12, Bool.true_and] at hok; simpa using hok
      have H3 := Lib.hid h3
      clear h3 h12 hok
      go_wp2_with (go_at_call 28; refine (l01In_any _ _ _ _).mono ?_; rintro e w' ⟨rfl, rfl⟩; rw [H3.out])
      go_ret
      exact ⟨_, rfl, by rw [HM.out]; exact HO0.out.kp hk1, HK0.out.trans hk1⟩
end Go.Proofs.Ytpafcambfmkmiaa
