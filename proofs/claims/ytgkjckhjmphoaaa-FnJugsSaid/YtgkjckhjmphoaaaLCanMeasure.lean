/- The program's CanMeasure returns what the reference's returns, for all arguments. No condition. -/
import Derived.Test.YtgkjckhjmphoaaaJgX
set_option linter.unusedVariables false
namespace Go.Proofs.Ytgkjckhjmphoaaa
open Go.ChangeShapes Go.WideShapes Go.ChangeAt Go.RowKit Go.Joins Go.Deep
theorem sCan_any (f s m : Int) (w : World) :
    Calls Try.prog 23 #[.int .i64 f, .int .i64 s, .int .i64 m] w fun e w' => e = .returned (.bool (fewOk f s m)) ∧ Kp w w' := by
  have hcc := sFew_any f s m
  obtain ⟨B, hB⟩ : ∃ B, B = fewOk f s m := ⟨_, rfl⟩
  obtain ⟨T, hT⟩ : ∃ T, T = few f s m := ⟨_, rfl⟩
  rw [← hB, ← hT] at hcc
  rw [← hB]
  have HCC := Lib.hid hcc
  clear hB hT hcc
  go_enter Try.func23, Try.ntmps23
  go_wp2_with fail
  refine (HCC.out _).mono ?_
  rintro e w1 ⟨v, rfl, ho, hk1⟩
  go_wp2_with fail
  go_ret
  exact ⟨rfl, hk1⟩
theorem iCan_any (f s m : Int) (w : World) :
    Calls Try.prog 24 #[.int .i64 f, .int .i64 s, .int .i64 m] w fun e w' => e = .returned (.bool (fewOk f s m)) ∧ Kp w w' := by
  have hcc := iFew_any f s m
  obtain ⟨B, hB⟩ : ∃ B, B = fewOk f s m := ⟨_, rfl⟩
  obtain ⟨T, hT⟩ : ∃ T, T = few f s m := ⟨_, rfl⟩
  rw [← hB, ← hT] at hcc
  rw [← hB]
  have HCC := Lib.hid hcc
  clear hB hT hcc
  go_enter Try.func24, Try.ntmps24
  go_wp2_with fail
  refine (HCC.out _).mono ?_
  rintro e w1 ⟨v, rfl, ho, hk1⟩
  go_wp2_with fail
  go_ret
  exact ⟨rfl, hk1⟩
namespace canMeasure
theorem walk (b0 b1 b2 : Int) (w : World) (i0 : I64 b0) (i1 : I64 b1) (i2 : I64 b2) :
    Calls Try.prog 7 #[.int .i64 b0, .int .i64 b1, .int .i64 b2] w fun e w' => e = .returned (.bool true) ∧ Below w.heap.size w w' := by
  have hs := sCan_any b0 b1 b2
  have hi := iCan_any b0 b1 b2
  obtain ⟨bb, hbb⟩ : ∃ bb, bb = fewOk b0 b1 b2 := ⟨_, rfl⟩
  rw [← hbb] at hs hi
  have HS := Lib.hid hs
  have HI := Lib.hid hi
  clear hs hi hbb i0 i1 i2
  go_enter Try.func7, Try.ntmps7
  go_wp2_with fail
  refine (HS.out _).mono ?_
  rintro e w1 ⟨rfl, hk1⟩
  go_wp2_with fail
  refine (HI.out _).mono ?_
  rintro e w2 ⟨rfl, hk2⟩
  have HK := Lib.hid (hk1.trans hk2)
  clear hk1 hk2
  cases bb with
  | false =>
    go_wp2_with fail
    go_ret
    exact ⟨rfl, HK.out⟩
  | true =>
    go_wp2_with fail
    go_ret
    exact ⟨rfl, HK.out⟩
set_option maxRecDepth 100000 in
theorem lifted (os : Os) (started : os.Started) (H : Type) (enc : TypeId × Value → H) :
    ReturnsInHanded {} Try.checked os 7 .any (Rows.fnExactCanMeasureSpec.pre6 enc Try.prog Try.f7 Rows.fnExactCanMeasureRow.domain false) (Rows.fnExactCanMeasureSpec.post enc Try.prog Try.f7 false true false false) := by
  refine returnsInHanded_of_change (C := Try.checked) own started (by kernel_rfl) Try.func7
    (ChangeSpec.witness6 (enc := enc) (C := Try.checked) false ⟨#[], #[.int .i64 0, .int .i64 0, .int .i64 0], []⟩ 8 (by kernel_rfl) (by kernel_rfl) (by kernel_rfl) (by kernel_rfl)) ?_
  intro W base args ds gs before hval hW _ _
  obtain ⟨p, q, hA0, hV, rfl, _, _⟩ := id hW
  have hA : DataW.TrodAll enc Try.prog W 0 (fun _ => true) true Try.f7.params.toList args.toList ds p := hA0
  rw [Try.params7] at hA hval
  obtain ⟨v0, vs0, d0, ds0, p0, q0, hargs, rfl, rfl, h0, r0⟩ := trodAll_cons hA
  obtain ⟨v1, vs1, d1, ds1, p1, q1, rfl, rfl, rfl, h1, r1⟩ := trodAll_cons r0
  obtain ⟨v2, vs2, d2, ds2, p2, q2, rfl, rfl, rfl, h2, r2⟩ := trodAll_cons r1
  obtain ⟨rfl, rfl, rfl⟩ := trodAll_nil r2
  obtain rfl : args = #[v0, v1, v2] := by cases args; simp_all
  obtain ⟨rfl, rfl⟩ := trodVars_none hV
  obtain ⟨a0, rfl, rfl, rfl, w0⟩ := open_int Try.underlying3 (hval 0 3 v0 rfl rfl) h0
  obtain ⟨a1, rfl, rfl, rfl, w1⟩ := open_int Try.underlying3 (hval 1 3 v1 rfl rfl) h1
  obtain ⟨a2, rfl, rfl, rfl, w2⟩ := open_int Try.underlying3 (hval 2 3 v2 rfl rfl) h2
  refine (walk a0 a1 a2 W (i64_wf w0) (i64_wf w1) (i64_wf w2)).mono fun e W' ⟨he, hb⟩ => ⟨_, he, law_post laidOut (by kernel_rfl) rfl hW hb rfl rfl rfl (by kernel_rfl) (B := 4) Try.underlying4⟩
theorem proved : Rows.FnExactCanMeasureSaid :=
  OpenClaim.holds_of_wide 7 Try.f7 rfl rfl rfl rfl rfl rfl rfl ⟨rfl, rfl, rfl, rfl, rfl⟩ rfl rfl rfl rfl rfl (by kernel_rfl) Try.func7 (by kernel_rfl)
    (of_decide_eq_true (by kernel_rfl)) (by unfold Func.isWrapper; rw [if_neg (of_decide_eq_false (by kernel_rfl))]; exact ⟨rfl, rfl⟩)
    (fun os started H enc _ => lifted os started H enc)
#print axioms proved
end canMeasure
end Go.Proofs.Ytgkjckhjmphoaaa
