/- FnChange: the walk. -/
import Derived.Test.YtjioijpanohgoaaDrawS
import Derived.Test.YtjioijpanohgoaaChgP
set_option linter.unusedVariables false
namespace Go.Proofs.Ytjioijpanohgoaa
open Go.ChangeShapes Go.WideShapes Go.ChangeAt Go.RowKit Go.Joins Go.Deep
namespace fnChange
theorem count_at (A : Option Addr) (len c : Nat) (xs : List Int) (I : Int) (N : Nat) (w : World) (hI : I = (N : Int)) (hl : xs.length = len) (hsys : sysB xs = true) (hN : N ≤ 200) (hr : Reads w w.heap.size 1 A len (xs.map (.int .i64))) :
    Calls Try.prog 23 #[.slice A len c, .int .i64 I] w fun e w' => e = .returned (.int .i64 (wF xs len N)) ∧ Kp w w' := by
  subst hI; exact iCount_any A len c xs N w hl hsys hN hr
theorem few_at (A : Option Addr) (len c : Nat) (xs : List Int) (N : Nat) (w : World) (hl : xs.length = len) (hn : len ≤ 1048576) (hsys : sysB xs = true) (hN : N ≤ 1000) (hr : Reads w w.heap.size 1 A len (xs.map (.int .i64))) :
    Calls Try.prog 10 #[.slice A len c, .int .i64 (N : Int)] w fun e w' => e = .returned (.int .i64 (fw xs N)) ∧ Kp w w' := by
  rw [← few_sys hsys hN]; exact iFewestCoins_any A len c xs N w hl hn hr
set_option maxHeartbeats 12800000 in
theorem walk (A : Option Addr) (n c : Nat) (xs : List Int) (w : World) (hl : xs.length = n) (_ : n ≤ 9223372036854775807) (hr : Reads w w.heap.size 1 A n (xs.map (.int .u8))) (hx : ∀ x ∈ xs, 0 ≤ x ∧ x ≤ 255) :
    Calls Try.prog 7 #[.slice A n c] w fun e w' => e = .returned (.bool true) ∧ Below w.heap.size w w' := by
  have HR := Lib.hid hr
  have HX := Lib.hid hx
  have HL := Lib.hid hl
  clear hr hx hl
  by_cases hbig : (1048576 : Int) < (n : Int)
  · have t0 : decide ((1048576 : Int) < (n : Int)) = true := by simpa using hbig
    go_enter Try.func7, Try.ntmps7
    go_wp2_with (go_at_call 20; refine (big_any _ _ _ _).mono ?_; rintro e w' ⟨rfl, rfl⟩)
    go_ret
    exact ⟨rfl, Below.refl _ _⟩
  · have t0 : decide ((1048576 : Int) < (n : Int)) = false := by simpa using hbig
    have hn : n ≤ 1048576 := by omega
    clear hbig
    go_enter Try.func7, Try.ntmps7
    go_wp2_with (go_at_call 20; refine (big_any _ _ _ _).mono ?_; rintro e w' ⟨rfl, rfl⟩)
    refine (drawSystem_any A n c xs w HL.out hn HR.out HX.out).mono ?_
    rintro e w1 ⟨v, L, rfl, hsys, ho, hk1⟩
    have hbd := sysB_bd hsys
    obtain ⟨g, cap, rfl, hc1, hc2, hb, hg, hcell⟩ := ho.cells (by omega)
    obtain ⟨P, hP⟩ : ∃ P, P = L.length := ⟨_, rfl⟩
    rw [← hP] at hc1 hcell hbd ⊢
    have hP6 := hbd.2.2.1
    have HP := Lib.hid hP
    have HS := Lib.hid hsys
    have HC := Lib.hid hcell
    have hrl : Reads w1 w1.heap.size 1 (some ⟨g, 0, none⟩) P (L.map (.int .i64)) := by rw [hP]; exact Reads.of_own (e := 3) (base := w.heap.size) (c := cap) (by unfold OwI at ho; exact ho)
    have HRL := Lib.hid hrl
    have HK1 := Lib.hid hk1
    have HBD := Lib.hid hbd
    clear hP hsys hcell hrl ho hk1 hbd
    go_wp2_with fail
    refine (at_any A n c xs 0 _ (by omega) HL.out hn (HR.out.kp HK1.out) HX.out).mono ?_
    rintro e w2 ⟨a, rfl, a0, a1, hk2⟩
    have HK2 := Lib.hid (HK1.out.trans hk2)
    have HJ2 := Lib.hid hk2
    clear hk2
    go_wp2_with fail
    refine (at_any A n c xs 1 _ (by omega) HL.out hn (HR.out.kp HK2.out) HX.out).mono ?_
    rintro e w3 ⟨b, rfl, b0, b1, hk3⟩
    have HK3 := Lib.hid (HK2.out.trans hk3)
    have HJ3 := Lib.hid (HJ2.out.trans hk3)
    have d1 : (a * 256 + b).tmod 1001 = (a * 256 + b) % 1001 := Int.tmod_eq_emod_of_nonneg (by omega)
    obtain ⟨N, hN⟩ : ∃ N : Nat, (N : Int) = (a * 256 + b) % 1001 := ⟨((a * 256 + b) % 1001).toNat, by omega⟩
    rw [← hN] at d1
    have hN1 : N ≤ 1000 := by omega
    clear hk3 hN
    go_wp2_with fail
    refine (iGreedyChange_any _ P _ L (N : Int) _ HP.out.symm (by omega) (HRL.out.kp HJ3.out)).mono ?_
    rintro e w4 ⟨v4, rfl, ho4, hk4⟩
    have hG : greedyC L (N : Int) = greedyL L (N : Int) := greedyC_yes HS.out (inB_true.2 (by omega))
    rw [hG] at ho4
    have hgl : (greedyL L (N : Int)).length = P := by rw [greedyL_length, HP.out]
    have hsm := greedy_small (sysB_bd HS.out).1 (n := (N : Int)) (inB_true.2 (by omega))
    have hdot := dot_all HS.out (n := (N : Int)) (by omega)
    have hcost : sumK (greedyL L (N : Int)) P = gcost L N := by rw [gcost, HP.out]
    rw [← HP.out] at hdot
    obtain ⟨G, eG⟩ : ∃ G, G = greedyL L (N : Int) := ⟨_, rfl⟩
    rw [← eG] at ho4 hgl hsm hdot hcost
    obtain ⟨g4, cap4, rfl, hd1, hd2, hb4, hg4, hcell4⟩ := ho4.cells (by omega)
    rw [hgl] at hd1 hcell4 ⊢
    have HC4 := Lib.hid hcell4
    have HGL := Lib.hid hgl
    have HSM := Lib.hid hsm
    have HDOT := Lib.hid hdot
    have HCO := Lib.hid hcost
    have HK4 := Lib.hid (HK3.out.trans hk4)
    have HJ4 := Lib.hid (HJ3.out.trans hk4)
    clear hG ho4 hgl hsm hdot hcost eG hk4 hcell4 d1
    go_wp2_with fail
    go_loopw [6, 7, 8] (fun s q i wr => ∃ k : Nat, k ≤ P ∧ i = .int .i64 k ∧ s = .int .i64 (dotK G L k) ∧ q = .int .i64 (sumK G k) ∧ Kp w4 wr) (fun _ _ i _ => P - (intOf i).toNat)
    case atStart => exact ⟨0, by omega, rfl, rfl, rfl, Kp.refl _⟩
    case round =>
      obtain ⟨k, hk, rfl, rfl, rfl, hkp⟩ := hrel
      by_cases hlt : k < P
      · have c0 := hkp.at1 (HJ4.out.at1 (HC.out k hlt))
        have c1 := hkp.at1 (HC4.out k hlt)
        have hX := allB_iff.1 HBD.out.1 k (by rw [← HP.out]; exact hlt)
        have hY := allB_iff.1 HSM.out k (by rw [HGL.out]; exact hlt)
        have hD := dot_bd HSM.out HBD.out.1 k (by rw [HGL.out]; omega) (by rw [← HP.out]; omega)
        have hU := sumK_bd HSM.out k (by rw [HGL.out]; omega)
        have hM := mul_bd (a := G.getD k 0) (b := L.getD k 0) (A := 1000) (B := 100) (by omega) (by omega)
        have eD := Lib.hid (show dotK G L (k + 1) = dotK G L k + G.getD k 0 * L.getD k 0 from rfl)
        have eU := Lib.hid (show sumK G (k + 1) = sumK G k + G.getD k 0 from rfl)
        obtain ⟨X, hXe⟩ : ∃ X, X = L.getD k 0 := ⟨_, rfl⟩
        obtain ⟨Y, hYe⟩ : ∃ Y, Y = G.getD k 0 := ⟨_, rfl⟩
        obtain ⟨D, hDe⟩ : ∃ D, D = dotK G L k := ⟨_, rfl⟩
        obtain ⟨U, hUe⟩ : ∃ U, U = sumK G k := ⟨_, rfl⟩
        obtain ⟨M, hMe⟩ : ∃ M, M = Y * X := ⟨_, rfl⟩
        rw [← hXe] at c0 hX hM eD
        rw [← hYe] at c1 hY hM eD eU
        rw [← hDe] at hD eD ⊢
        rw [← hUe] at hU eU ⊢
        rw [← hMe] at hM eD
        have i0 : (0 : Int) ≤ (k : Int) := by omega
        have i1 : (k : Int) < (P : Int) := by omega
        have q1 : IntKind.i64.wrap (Y * X) = M := by rw [← hMe]; exact IntWalk.i64_in _ (by omega)
        have q2 : IntKind.i64.wrap (D + M) = D + M := IntWalk.i64_in _ (by omega)
        have HKP := Lib.hid hkp
        clear hXe hYe hDe hUe hkp hMe
        go_upto_region 13 with fail
        go_quiet (fail)
        clear q1 q2
        go_wp2_with fail
        go_roundw
        case rel => exact ⟨k + 1, by omega, by go_num, by rw [eD.out], by rw [eU.out], by first | exact HKP.out.drewN _ | exact HKP.out.drew | exact HKP.out⟩
        case measure => simp [intOf]; omega
      · obtain rfl : k = P := by omega
        rw [HDOT.out, HCO.out]
        have hch := change_law HS.out N
        obtain ⟨gd, bd, egd, ebd, hgb⟩ := good_bad HS.out N
        obtain ⟨C, eC⟩ : ∃ C, C = gcost L N := ⟨_, rfl⟩
        obtain ⟨F, eF⟩ : ∃ F, F = fw L N := ⟨_, rfl⟩
        have hF0 := hch.1
        have hFC := hch.2.1
        rw [← eC] at hFC hgb ⊢
        rw [← eF] at hF0 hFC hgb
        have EF := Lib.hid eF
        have EGD := Lib.hid egd
        have EBD := Lib.hid ebd
        have HGB := Lib.hid hgb
        have HJ5 := Lib.hid (HJ4.out.trans hkp)
        have HK5 := Lib.hid (HK4.out.trans hkp)
        clear hch eC eF egd ebd hgb hkp
        go_wp2_with fail
        refine (few_at _ k _ L N _ HP.out.symm (by omega) HS.out (by omega) (HRL.out.kp HJ5.out)).mono ?_
        rw [← EF.out]
        rintro e w6 ⟨rfl, hk6⟩
        have HJ6 := Lib.hid (HJ5.out.trans hk6)
        have HK6 := Lib.hid (HK5.out.trans hk6)
        clear hk6
        go_wp2_with fail
        refine (iGood_any _ k _ L _ HP.out.symm (by omega) (HRL.out.kp HJ6.out)).mono ?_
        rw [EGD.out]
        rintro e w7 ⟨rfl, hk7⟩
        have HJ7 := Lib.hid (HJ6.out.trans hk7)
        have HK7 := Lib.hid (HK6.out.trans hk7)
        clear hk7
        go_wp2_with fail
        refine (iFirst_any _ k _ L _ HP.out.symm (by omega) (HRL.out.kp HJ7.out)).mono ?_
        rw [EBD.out]
        rintro e w8 ⟨rfl, hk8⟩
        have HJ8 := Lib.hid (HJ7.out.trans hk8)
        have HK8 := Lib.hid (HK7.out.trans hk8)
        have d2 : (N : Int).tmod 201 = (N : Int) % 201 := Int.tmod_eq_emod_of_nonneg (by omega)
        obtain ⟨M, hM⟩ : ∃ M : Nat, (M : Int) = (N : Int) % 201 := ⟨((N : Int) % 201).toNat, by omega⟩
        rw [← hM] at d2
        have hM2 : M ≤ 200 := by omega
        clear hk8 hM
        go_wp2_with fail
        refine (count_at _ k _ L (M : Int) M _ rfl HP.out.symm HS.out hM2 (HRL.out.kp HJ8.out)).mono ?_
        obtain ⟨W, eW⟩ : ∃ W, W = wF L k M := ⟨_, rfl⟩
        have hW1 : 1 ≤ W := by
          rw [eW]
          obtain ⟨p, rfl⟩ : ∃ p, k = p + 1 := ⟨k - 1, by omega⟩
          exact wF_pos HBD.out.2.2.2 p M hM2
        rw [← eW]
        have EW := Lib.hid eW
        clear eW d2
        rintro e w9 ⟨rfl, hk9⟩
        have HJ9 := Lib.hid (HJ8.out.trans hk9)
        have HK9 := Lib.hid (HK8.out.trans hk9)
        clear hk9
        by_cases hP1 : k = 1
        · subst hP1
          rcases HGB.out with ⟨rfl, h1, rfl⟩ | ⟨rfl, b', rfl, h1, h2⟩
          · (go_wp2_with (go_at_call 10; refine (few_at _ _ _ L _ _ HP.out.symm (by omega) HS.out (by omega) (HRL.out.kp HJ9.out)).mono ?_; rintro e w12 ⟨rfl, hk12⟩); all_goals (go_ret; exact ⟨by first | rfl | (simp; done) | (simp; omega), by first | exact HK9.out | exact HK9.out.trans (by assumption)⟩))
          · (go_wp2_with (go_at_call 10; refine (few_at _ _ _ L _ _ HP.out.symm (by omega) HS.out (by omega) (HRL.out.kp HJ9.out)).mono ?_; rintro e w12 ⟨rfl, hk12⟩); all_goals (go_ret; exact ⟨by first | rfl | (simp; done) | (simp; omega), by first | exact HK9.out | exact HK9.out.trans (by assumption)⟩))
        · obtain ⟨l, hl⟩ : ∃ l, k = l + 1 := ⟨k - 1, by omega⟩
          have cx := HJ9.out.at1 (HC.out l (by omega))
          have hX := allB_iff.1 HBD.out.1 l (by rw [← HP.out]; omega)
          obtain ⟨x, ex⟩ : ∃ x : Nat, (x : Int) = L.getD l 0 := ⟨(L.getD l 0).toNat, by omega⟩
          rw [← ex] at cx hX
          have hxn : (L.getD l 0).toNat = x := by omega
          have hy : sysB (L.take l) = true := sys_take HS.out (by omega) (by rw [← HP.out]; omega)
          have hyl : (L.take l).length = l := by rw [List.length_take, ← HP.out]; omega
          have hyr : Reads w1 w1.heap.size 1 (some ⟨g, 0, none⟩) l ((L.take l).map (.int .i64)) := by
            refine ⟨by rw [List.length_map, hyl, Nat.mul_one], fun h0 => ?_⟩
            obtain ⟨ad, e, hb, hc⟩ := HRL.out.2 (by omega)
            refine ⟨ad, e, hb, fun j u hu => hc j u ?_⟩
            rw [List.map_take] at hu
            have hj : j < l := by
              rcases Nat.lt_or_ge j l with h | h
              · exact h
              · rw [List.getElem?_take_eq_none h] at hu; cases hu
            rw [List.getElem?_take_of_lt hj] at hu
            exact hu
          have hw := ways_take L l M
          have hwb := wF_six L (j := l) (a := M) (by omega) hM2
          obtain ⟨V, eV⟩ : ∃ V, V = wF L l M := ⟨_, rfl⟩
          rw [← eV] at hw hwb
          have i0 : (0 : Int) ≤ (l : Int) := by omega
          have i1 : (l : Int) < (k : Int) := by omega
          have e1 : (k : Int) - 1 = (l : Int) := by omega
          have HY := Lib.hid hy
          have HYL := Lib.hid hyl
          have HYR := Lib.hid hyr
          have HWT := Lib.hid hw
          have EX := Lib.hid hxn
          have HL1 := Lib.hid hl
          have EV := Lib.hid eV
          clear hy hyl hyr hw hxn ex hl eV
          by_cases hge : x ≤ M
          · obtain ⟨D, hD⟩ : ∃ D, D = M - x := ⟨_, rfl⟩
            obtain ⟨R, eR⟩ : ∃ R, R = wF L k D := ⟨_, rfl⟩
            have hstep : W = V + R := by
              rw [EW.out, eR, EV.out, hD, ← EX.out, HL1.out]
              exact wF_step (by rw [EX.out]; omega) (by rw [EX.out]; omega)
            have hRb := wF_six L (j := k) (a := D) (by omega) (by omega)
            rw [← eR] at hRb
            have ER := Lib.hid eR
            clear eR
            go_wp2_with fail
            refine (count_at _ k _ L _ D _ (by omega) HP.out.symm HS.out (by omega) (HRL.out.kp HJ9.out)).mono ?_
            rw [← ER.out]
            rintro e w10 ⟨rfl, hk10⟩
            have HJ10 := Lib.hid (HJ9.out.trans hk10)
            have HK10 := Lib.hid (HK9.out.trans hk10)
            clear hk10
            go_wp2_with fail
            refine (count_at _ l _ (L.take l) (M : Int) M _ rfl HYL.out HY.out hM2 (HYR.out.kp HJ10.out)).mono ?_
            rw [HWT.out]
            rintro e w11 ⟨rfl, hk11⟩
            have HJ9 := Lib.hid (HJ10.out.trans hk11)
            have HK9 := Lib.hid (HK10.out.trans hk11)
            clear hk11
            rcases HGB.out with ⟨rfl, h1, rfl⟩ | ⟨rfl, b', rfl, h1, h2⟩
            · (go_wp2_with (go_at_call 10; refine (few_at _ _ _ L _ _ HP.out.symm (by omega) HS.out (by omega) (HRL.out.kp HJ9.out)).mono ?_; rintro e w12 ⟨rfl, hk12⟩); all_goals (go_ret; exact ⟨by first | rfl | (simp; done) | (simp; omega), by first | exact HK9.out | exact HK9.out.trans (by assumption)⟩))
            · (go_wp2_with (go_at_call 10; refine (few_at _ _ _ L _ _ HP.out.symm (by omega) HS.out (by omega) (HRL.out.kp HJ9.out)).mono ?_; rintro e w12 ⟨rfl, hk12⟩); all_goals (go_ret; exact ⟨by first | rfl | (simp; done) | (simp; omega), by first | exact HK9.out | exact HK9.out.trans (by assumption)⟩))
          · have hlow : W = V := by
              rw [EW.out, EV.out, HL1.out]
              exact wF_low (by rw [EX.out]; omega) (by rw [EX.out]; omega)
            go_wp2_with fail
            refine (count_at _ l _ (L.take l) (M : Int) M _ rfl HYL.out HY.out hM2 (HYR.out.kp HJ9.out)).mono ?_
            rw [HWT.out]
            rintro e w11 ⟨rfl, hk11⟩
            have HJ9 := Lib.hid (HJ9.out.trans hk11)
            have HK9 := Lib.hid (HK9.out.trans hk11)
            clear hk11
            rcases HGB.out with ⟨rfl, h1, rfl⟩ | ⟨rfl, b', rfl, h1, h2⟩
            · (go_wp2_with (go_at_call 10; refine (few_at _ _ _ L _ _ HP.out.symm (by omega) HS.out (by omega) (HRL.out.kp HJ9.out)).mono ?_; rintro e w12 ⟨rfl, hk12⟩); all_goals (go_ret; exact ⟨by first | rfl | (simp; done) | (simp; omega), by first | exact HK9.out | exact HK9.out.trans (by assumption)⟩))
            · (go_wp2_with (go_at_call 10; refine (few_at _ _ _ L _ _ HP.out.symm (by omega) HS.out (by omega) (HRL.out.kp HJ9.out)).mono ?_; rintro e w12 ⟨rfl, hk12⟩); all_goals (go_ret; exact ⟨by first | rfl | (simp; done) | (simp; omega), by first | exact HK9.out | exact HK9.out.trans (by assumption)⟩))
set_option maxRecDepth 100000 in
theorem lifted (os : Os) (started : os.Started) (H : Type) (enc : TypeId × Value → H) :
    ReturnsInHanded {} Try.checked os 7 .any (Rows.fnChangeSpec.pre6 enc Try.prog Try.f7 Rows.fnChangeRow.domain false) (Rows.fnChangeSpec.post enc Try.prog Try.f7 false true false false) := by
  refine returnsInHanded_of_change (C := Try.checked) own started (by kernel_rfl) Try.func7
    (ChangeSpec.witness6 (enc := enc) (C := Try.checked) false ⟨#[], #[.slice none 0 0], []⟩ 8 (by kernel_rfl) (by kernel_rfl) (by kernel_rfl) (by kernel_rfl)) ?_
  intro W base args ds gs before hval hW _ _
  obtain ⟨p, q, hA0, hV, rfl, _, _⟩ := id hW
  have hA : DataW.TrodAll enc Try.prog W 0 (fun _ => true) true Try.f7.params.toList args.toList ds p := hA0
  rw [Try.params7] at hA hval
  obtain ⟨v0, vs0, d0, ds0, p0, q0, hargs, rfl, rfl, h0, r0⟩ := trodAll_cons hA
  obtain ⟨rfl, rfl, rfl⟩ := trodAll_nil r0
  obtain rfl : args = #[v0] := by cases args; simp_all
  obtain ⟨rfl, rfl⟩ := trodVars_none hV
  obtain ⟨A0, n0, c0, x0, rfl, l0, b0, rd0, wx0⟩ := open_intlist Try.underlying30 Try.underlying5 (by kernel_rfl) (hval 0 30 v0 rfl rfl) h0
  refine (walk A0 n0 c0 x0 W l0 b0 rd0 (fun x h => u8_wf (wx0 x h))).mono fun e W' ⟨he, hb⟩ => ⟨_, he, law_post laidOut (by kernel_rfl) rfl hW hb rfl rfl rfl (by kernel_rfl) (B := 4) Try.underlying4⟩
theorem proved : Rows.FnChangeSaid :=
  OpenClaim.holds_of_wide 7 Try.f7 rfl rfl rfl rfl rfl rfl rfl ⟨rfl, rfl, rfl, rfl, rfl⟩ rfl rfl rfl rfl rfl (by kernel_rfl) Try.func7 (by kernel_rfl)
    (of_decide_eq_true (by kernel_rfl)) (by unfold Func.isWrapper; rw [if_neg (of_decide_eq_false (by kernel_rfl))]; exact ⟨rfl, rfl⟩)
    (fun os started H enc _ => lifted os started H enc)
#print axioms proved
end fnChange
end Go.Proofs.Ytjioijpanohgoaa
