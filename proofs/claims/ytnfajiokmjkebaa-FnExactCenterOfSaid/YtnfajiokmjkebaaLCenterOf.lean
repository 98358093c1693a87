/- The program's CenterOf returns what the reference's returns, for all arguments. No condition. -/
import Derived.Test.YtnfajiokmjkebaaCenter
set_option linter.unusedVariables false
namespace Go.Proofs.Ytnfajiokmjkebaa
open Go.ChangeShapes Go.WideShapes Go.ChangeAt Go.RowKit Go.Joins Go.Deep
namespace centerOf
set_option maxHeartbeats 1600000 in
theorem walk (A : Option Addr) (n c : Nat) (xs : List (Int × Int)) (w : World) (hl : xs.length = n) (_ : n ≤ 9223372036854775807) (hr : RdP w A n xs) :
    Calls Try.prog 8 #[.slice A n c] w fun e w' => e = .returned (.bool true) ∧ Below w.heap.size w w' := by
  by_cases hbig : (1048576 : Int) < (n : Int)
  · go_enter Try.func8, Try.ntmps8
    go_wp2_with fail
    refine (szHangS_any _ _ _ _ _ (by omega) (by omega)).mono ?_
    rintro e w0 ⟨rfl, hk0⟩
    rw [if_pos hbig]
    go_wp2_with fail
    go_ret
    exact ⟨rfl, hk0⟩
  · have hn : n ≤ 1048576 := by omega
    have z0 : (0 : Int) ≤ 1048576 - (n : Int) := by omega
    subst hl
    have HS := fun A c W hr => sCenterOf_any A xs.length c xs  W rfl hn hr
    have HI := fun A c W hr => iCenterOf_any A xs.length c xs  W rfl hn hr
    obtain ⟨T, hT⟩ : ∃ z, z = ctT xs := ⟨_, rfl⟩
    obtain ⟨U, hU⟩ : ∃ z, z = ctU xs := ⟨_, rfl⟩
    obtain ⟨B, hB⟩ : ∃ z, z = ctB xs := ⟨_, rfl⟩
    simp only [← hT, ← hU, ← hB] at HS HI
    clear hT hU hB
    have HS := Lib.hid HS
    have HI := Lib.hid HI
    go_enter Try.func8, Try.ntmps8
    go_wp2_with fail
    refine (szHangS_any _ _ _ _ _ (by omega) (by omega)).mono ?_
    rintro e w0 ⟨rfl, hk0⟩
    rw [if_neg (show ¬ ((1048576 : Int) < (xs.length : Int)) by omega)]
    go_wp2_with fail
    refine (toHangS_any _ _ _ xs _ rfl hn (hr.kp hk0)).mono ?_
    rintro e w1 ⟨v1, rfl, ho1, hk1'⟩
    have hk1 := hk0.trans hk1'
    obtain ⟨A1, c1, rfl, hr1⟩ := ho1.rd
    go_wp2_with fail
    refine (HS.out _ _ _ hr1).mono ?_
    rintro e w2 ⟨rfl, hm2⟩
    have hk2 := hk1.trans hm2
    go_wp2_with fail
    refine (toHangS_any _ _ _ xs _ rfl hn (hr.kp (by (repeat (with_reducible first | exact Kp.refl _ | assumption | refine Kp.drew ?_ | refine Kp.drewN ?_ _ | refine Kp.alloc ?_ _ | refine Kp.setCell ?_ (by first | (simp; done) | (simp; omega) | (dsimp only; omega)) _ | refine Kp.trans ?_ (by assumption)))))).mono ?_
    rintro e w3 ⟨v3, rfl, ho3, hk3⟩
    have q0 := hk3.at1 (p := ⟨w2.heap.size, 0, none⟩) (v := .int .i64 T) (by simp [go_sem])
    have q1 := hk3.at1 (p := ⟨w2.heap.size, 1, none⟩) (v := .int .i64 U) (by simp [go_sem])
    have hkw3 : Kp w w3 := by (repeat (with_reducible first | exact Kp.refl _ | assumption | refine Kp.drew ?_ | refine Kp.drewN ?_ _ | refine Kp.alloc ?_ _ | refine Kp.setCell ?_ (by first | (simp; done) | (simp; omega) | (dsimp only; omega)) _ | refine Kp.trans ?_ (by assumption)))
    obtain ⟨A3, c3, rfl, hr3⟩ := ho3.rd
    go_wp2_with fail
    refine (HI.out _ _ _ hr3).mono ?_
    rintro e w4 ⟨rfl, hk34⟩
    have q0 := hk34.at1 q0
    have q1 := hk34.at1 q1
    have hz := cell_lt q0
    simp only at hz
    have hk4 := hkw3.trans hk34
    have hr4 := hr3.kp hk34
    go_wp2_with fail
    refine (eqFraction_same _ _ _).mono ?_
    rintro e w5 ⟨rfl, hk5⟩
    have hk45 : Kp w4 w5 := by (repeat (with_reducible first | exact Kp.refl _ | assumption | refine Kp.drew ?_ | refine Kp.drewN ?_ _ | refine Kp.alloc ?_ _ | refine Kp.setCell ?_ (by first | (simp; done) | (simp; omega) | (dsimp only; omega)) _ | refine Kp.trans ?_ (by assumption)))
    go_wp2_with fail
    refine (toHangS_any _ _ _ xs _ rfl hn (hr.kp (hk4.trans hk45))).mono ?_
    rintro e w6 ⟨v6, rfl, ho6, hk6⟩
    obtain ⟨A6, c6, rfl, hr6⟩ := ho6.rd
    go_wp2_with fail
    refine (eqHangS_same _ _ _ _ _ xs _ rfl hn (hr4.kp (hk45.trans hk6)) hr6).mono ?_
    rintro e w7 ⟨rfl, hk7⟩
    go_wp2_with fail
    go_ret
    exact ⟨rfl, ((hk4.trans hk45).trans hk6).trans hk7⟩
set_option maxRecDepth 100000 in
theorem lifted (os : Os) (started : os.Started) (H : Type) (enc : TypeId × Value → H) :
    ReturnsInHanded {} Try.checked os 8 .any (Rows.fnExactCenterOfSpec.pre6 enc Try.prog Try.f8 Rows.fnExactCenterOfRow.domain false) (Rows.fnExactCenterOfSpec.post enc Try.prog Try.f8 false true false false) := by
  refine returnsInHanded_of_change (C := Try.checked) own started (by kernel_rfl) Try.func8
    (ChangeSpec.witness6 (enc := enc) (C := Try.checked) false ⟨#[], #[.slice none 0 0], []⟩ 8 (by kernel_rfl) (by kernel_rfl) (by kernel_rfl) (by kernel_rfl)) ?_
  intro W base args ds gs before hval hW _ _
  obtain ⟨p, q, hA0, hV, rfl, _, _⟩ := id hW
  have hA : DataW.TrodAll enc Try.prog W 0 (fun _ => true) true Try.f8.params.toList args.toList ds p := hA0
  rw [Try.params8] at hA hval
  obtain ⟨v0, vs0, d0, ds0, p0, q0, hargs, rfl, rfl, h0, r0⟩ := trodAll_cons hA
  obtain ⟨rfl, rfl, rfl⟩ := trodAll_nil r0
  obtain rfl : args = #[v0] := by cases args; simp_all
  obtain ⟨rfl, rfl⟩ := trodVars_none hV
  obtain ⟨A0, n0, c0, x0, rfl, l0, b0, rd0⟩ := open_hanglist Try.underlying22 Try.underlying49 (by kernel_rfl) (by kernel_rfl) (by kernel_rfl) (by kernel_rfl) (by kernel_rfl) (by kernel_rfl) (by kernel_rfl) (hval 0 22 v0 rfl rfl) h0
  refine (walk A0 n0 c0 x0 W l0 b0 rd0).mono fun e W' ⟨he, hb⟩ => ⟨_, he, law_post laidOut (by kernel_rfl) rfl hW hb rfl rfl rfl (by kernel_rfl) (B := 4) Try.underlying4⟩
theorem proved : Rows.FnExactCenterOfSaid :=
  OpenClaim.holds_of_wide 8 Try.f8 rfl rfl rfl rfl rfl rfl rfl ⟨rfl, rfl, rfl, rfl, rfl⟩ rfl rfl rfl rfl rfl (by kernel_rfl) Try.func8 (by kernel_rfl)
    (of_decide_eq_true (by kernel_rfl)) (by unfold Func.isWrapper; rw [if_neg (of_decide_eq_false (by kernel_rfl))]; exact ⟨rfl, rfl⟩)
    (fun os started H enc _ => lifted os started H enc)
#print axioms proved
end centerOf
end Go.Proofs.Ytnfajiokmjkebaa
