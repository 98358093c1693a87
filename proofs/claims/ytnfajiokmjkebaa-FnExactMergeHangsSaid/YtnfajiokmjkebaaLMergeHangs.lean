/- The program's MergeHangs returns what the reference's returns, for all arguments. No condition. -/
import Derived.Test.YtnfajiokmjkebaaMgW
import Derived.Test.YtnfajiokmjkebaaMarksH
set_option linter.unusedVariables false
namespace Go.Proofs.Ytnfajiokmjkebaa
open Go.ChangeShapes Go.WideShapes Go.ChangeAt Go.RowKit Go.Joins Go.Deep
namespace mergeHangs
set_option maxHeartbeats 3200000 in
theorem walk (A : Option Addr) (n c : Nat) (xs : List (Int × Int)) (w : World) (hl : xs.length = n) (_ : n ≤ 9223372036854775807) (hr : RdP w A n xs) :
    Calls Try.prog 9 #[.slice A n c] w fun e w' => e = .returned (.bool true) ∧ Below w.heap.size w w' := by
  by_cases hbig : (1048576 : Int) < (n : Int)
  · go_enter Try.func9, Try.ntmps9
    go_wp2_with fail
    refine (szHangS_any _ _ _ _ _ (by omega) (by omega)).mono ?_
    rintro e w0 ⟨rfl, hk0⟩
    rw [if_pos hbig]
    go_wp2_with fail
    go_ret
    exact ⟨rfl, hk0⟩
  · have hn : n ≤ 1048576 := by omega
    have z0 : (0 : Int) ≤ 1048576 - (n : Int) := by omega
    subst hl
    have hlen : (mgM xs).length ≤ 1048576 := by have := mgM_length xs; omega
    obtain ⟨R, hR⟩ : ∃ R, R = mgM xs := ⟨_, rfl⟩
    rw [← hR] at hlen
    have HRE := Lib.hid hR
    clear hR
    have SC : ∀ (A : Option Addr) (c : Nat) (W : World), RdP W A xs.length xs → Calls Try.prog 29 #[.slice A xs.length c] W fun e w' => ∃ v, e = .returned v ∧ OwP W.heap.size w' v R ∧ Kp W w' := by
      intro A c W hr
      rw [HRE.out]
      exact sMerge_any _ _ _ xs  W rfl hn hr
    have HSC := Lib.hid SC
    clear SC
    have MC : ∀ (A : Option Addr) (c : Nat) (W : World), RdP W A xs.length xs → Calls Try.prog 30 #[.slice A xs.length c] W fun e w' => ∃ v, e = .returned v ∧ OwP W.heap.size w' v R ∧ Kp W w' := by
      intro A c W hr
      rw [HRE.out]
      exact iMerge_any _ _ _ xs  W rfl hn hr
    have HMC := Lib.hid MC
    clear MC
    go_enter Try.func9, Try.ntmps9
    go_wp2_with fail
    refine (szHangS_any _ _ _ _ _ (by omega) (by omega)).mono ?_
    rintro e w0 ⟨rfl, hk0⟩
    rw [if_neg (show ¬ ((1048576 : Int) < (xs.length : Int)) by omega)]
    go_wp2_with fail
    refine (toHangS_any _ _ _ xs _ rfl hn (hr.kp hk0)).mono ?_
    rintro e w1 ⟨v1, rfl, ho1, hk1'⟩
    have hk1 := hk0.trans hk1'
    obtain ⟨A1, c1, rfl, hr1⟩ := ho1.rd
    go_wp2_with fail
    refine (HSC.out _ _ _ hr1).mono ?_
    rintro e w2 ⟨v2, rfl, ho2, hk2⟩
    obtain ⟨A2, c2, rfl, hr2⟩ := ho2.rd
    have K2 := hk1.trans hk2
    go_wp2_with fail
    refine (toHangS_any _ _ _ xs _ rfl hn (hr.kp K2)).mono ?_
    rintro e w3 ⟨v3, rfl, ho3, hk3⟩
    obtain ⟨A3, c3, rfl, hr3⟩ := ho3.rd
    have K3 := K2.trans hk3
    go_wp2_with fail
    refine (HMC.out _ _ _ hr3).mono ?_
    rintro e w4 ⟨v4, rfl, ho4, hk4⟩
    obtain ⟨A4, c4, rfl, hr4⟩ := ho4.rd
    have K4 := K3.trans hk4
    go_wp2_with fail
    refine (eqHangS_same _ _ _ _ _ R _ rfl hlen hr4 (hr2.kp (hk3.trans hk4))).mono ?_
    rintro e w5 ⟨rfl, hk5⟩
    have K5 := K4.trans hk5
    go_wp2_with fail
    refine (toHangS_any _ _ _ xs _ rfl hn (hr.kp K5)).mono ?_
    rintro e w6 ⟨v6, rfl, ho6, hk6⟩
    obtain ⟨A6, c6, rfl, hr6⟩ := ho6.rd
    have K6 := K5.trans hk6
    go_wp2_with fail
    refine (eqHangS_same _ _ _ _ _ xs _ rfl hn (hr3.kp (hk4.trans (hk5.trans hk6))) hr6).mono ?_
    rintro e w7 ⟨rfl, hk7⟩
    have K7 := K6.trans hk7
    have k47 := hk5.trans (hk6.trans hk7)
    have o3 := ho3.kp (hk4.trans k47)
    have o4 := ho4.kp k47
    have o2 := ho2.kp (hk3.trans (hk4.trans k47))
    go_wp2_with fail
    refine (markHangS_any _ xs _ _ _ o3 hn (by omega)).mono ?_
    rintro e w8 ⟨_, rfl, _, _, _, hg8⟩
    have o4' := o4.far hg8 (OwP.apart' (w2 := w7) ho3 ho4 (Nat.le_refl _))
    have o2' := o2.far hg8 (OwP.apart (w2 := w7) ho2 ho3 (Nat.le_refl _))
    have K8 := K7.grown hg8 (fun g e => by have := (o3.lt g e).1; have := K2.size; omega)
    go_wp2_with fail
    obtain ⟨A4', c4', e4, hr4'⟩ := o4'.rd
    obtain ⟨A2', c2', e2, hr2'⟩ := o2'.rd
    cases e4
    cases e2
    refine (eqHangS_same _ _ _ _ _ R _ rfl hlen hr4' hr2').mono ?_
    rintro e w9 ⟨rfl, hk9⟩
    have K9 := K8.trans hk9
    have p4 := o4'.kp hk9
    have p2 := o2'.kp hk9
    go_wp2_with fail
    refine (markHangS_any _ R _ _ _ p4 hlen (by omega)).mono ?_
    rintro e wa ⟨Lm, rfl, hlm, hmk, oa, hga⟩
    have Ka := K9.grown hga (fun g e => by have := (p4.lt g e).1; have := K3.size; omega)
    have q2 := p2.far hga (OwP.apart (w2 := wa) ho2 ho4 hk3.size)
    obtain ⟨Aa, ca, ea, hra⟩ := oa.rd
    rw [hlm] at hra ea
    cases ea
    go_wp2_with fail
    refine (heldHangS_any _ _ _ Lm _ _ hlm hlen (by omega) hmk hra).mono ?_
    rintro e wb ⟨rfl, hkb⟩
    have Kb := Ka.trans hkb
    go_wp2_with fail
    refine (toHangS_any _ _ _ xs _ rfl hn (hr.kp Kb)).mono ?_
    rintro e wc ⟨vc, rfl, hoc, hkc⟩
    obtain ⟨Ac, cc, rfl, hrc⟩ := hoc.rd
    have Kc := Kb.trans hkc
    have kac := hkb.trans hkc
    go_wp2_with fail
    refine (HMC.out _ _ _ hrc).mono ?_
    rintro e wd ⟨vd, rfl, hod, hkd⟩
    obtain ⟨Ad, cd, rfl, hrd⟩ := hod.rd
    have Kd := Kc.trans hkd
    go_wp2_with fail
    obtain ⟨A2b, c2b, e2b, hr2b⟩ := q2.rd
    cases e2b
    refine (eqHangS_same _ _ _ _ _ R _ rfl hlen hrd (hr2b.kp (kac.trans hkd))).mono ?_
    rintro e we ⟨rfl, hke⟩
    have Ke := Kd.trans hke
    go_wp2_with fail
    refine (heldHangS_any _ _ _ Lm _ _ hlm hlen (by omega) hmk (hra.kp (kac.trans (hkd.trans hke)))).mono ?_
    rintro e wf ⟨rfl, hkf⟩
    go_wp2_with fail
    go_ret
    exact ⟨rfl, Ke.trans hkf⟩
set_option maxRecDepth 100000 in
theorem lifted (os : Os) (started : os.Started) (H : Type) (enc : TypeId × Value → H) :
    ReturnsInHanded {} Try.checked os 9 .any (Rows.fnExactMergeHangsSpec.pre6 enc Try.prog Try.f9 Rows.fnExactMergeHangsRow.domain false) (Rows.fnExactMergeHangsSpec.post enc Try.prog Try.f9 false true false false) := by
  refine returnsInHanded_of_change (C := Try.checked) own started (by kernel_rfl) Try.func9
    (ChangeSpec.witness6 (enc := enc) (C := Try.checked) false ⟨#[], #[.slice none 0 0], []⟩ 8 (by kernel_rfl) (by kernel_rfl) (by kernel_rfl) (by kernel_rfl)) ?_
  intro W base args ds gs before hval hW _ _
  obtain ⟨p, q, hA0, hV, rfl, _, _⟩ := id hW
  have hA : DataW.TrodAll enc Try.prog W 0 (fun _ => true) true Try.f9.params.toList args.toList ds p := hA0
  rw [Try.params9] at hA hval
  obtain ⟨v0, vs0, d0, ds0, p0, q0, hargs, rfl, rfl, h0, r0⟩ := trodAll_cons hA
  obtain ⟨rfl, rfl, rfl⟩ := trodAll_nil r0
  obtain rfl : args = #[v0] := by cases args; simp_all
  obtain ⟨rfl, rfl⟩ := trodVars_none hV
  obtain ⟨A0, n0, c0, x0, rfl, l0, b0, rd0⟩ := open_hanglist Try.underlying22 Try.underlying49 (by kernel_rfl) (by kernel_rfl) (by kernel_rfl) (by kernel_rfl) (by kernel_rfl) (by kernel_rfl) (by kernel_rfl) (hval 0 22 v0 rfl rfl) h0
  refine (walk A0 n0 c0 x0 W l0 b0 rd0).mono fun e W' ⟨he, hb⟩ => ⟨_, he, law_post laidOut (by kernel_rfl) rfl hW hb rfl rfl rfl (by kernel_rfl) (B := 4) Try.underlying4⟩
theorem proved : Rows.FnExactMergeHangsSaid :=
  OpenClaim.holds_of_wide 9 Try.f9 rfl rfl rfl rfl rfl rfl rfl ⟨rfl, rfl, rfl, rfl, rfl⟩ rfl rfl rfl rfl rfl (by kernel_rfl) Try.func9 (by kernel_rfl)
    (of_decide_eq_true (by kernel_rfl)) (by unfold Func.isWrapper; rw [if_neg (of_decide_eq_false (by kernel_rfl))]; exact ⟨rfl, rfl⟩)
    (fun os started H enc _ => lifted os started H enc)
#print axioms proved
end mergeHangs
end Go.Proofs.Ytnfajiokmjkebaa
