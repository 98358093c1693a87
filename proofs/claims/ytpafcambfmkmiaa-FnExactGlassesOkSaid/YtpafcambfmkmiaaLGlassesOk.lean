/- The program's GlassesOk returns what the reference's returns, for all arguments. No condition. -/
import Derived.Test.YtpafcambfmkmiaaClose
import Derived.Test.YtpafcambfmkmiaaGlass
set_option linter.unusedVariables false
namespace Go.Proofs.Ytpafcambfmkmiaa
open Go.ChangeShapes Go.WideShapes Go.ChangeAt Go.RowKit Go.Joins Go.Deep
namespace glassesOk
theorem walk (a b c d : Int) (w : World) (_ : I64 a) (_ : I64 b) (_ : I64 c) (_ : I64 d) : Calls Try.prog 3 #[.agg #[.int .i64 a, .int .i64 b, .int .i64 c, .int .i64 d]] w fun e w' => e = .returned (.bool true) ∧ Below w.heap.size w w' := by
  go_enter Try.func3, Try.ntmps3
  go_wp2_with (first | (go_at_call 10; refine (toGlasses_any _ _ _ _ _).mono ?_; rintro e w1 ⟨rfl, hk⟩; have c0_0 : w1.cell? ⟨w.heap.size, 0, none⟩ = some (.int .i64 a) := hk.at1 (by first | with_reducible assumption | simp [go_sem]); have c0_1 : w1.cell? ⟨w.heap.size, 1, none⟩ = some (.int .i64 b) := hk.at1 (by first | with_reducible assumption | simp [go_sem]); have c0_2 : w1.cell? ⟨w.heap.size, 2, none⟩ = some (.int .i64 c) := hk.at1 (by first | with_reducible assumption | simp [go_sem]); have c0_3 : w1.cell? ⟨w.heap.size, 3, none⟩ = some (.int .i64 d) := hk.at1 (by first | with_reducible assumption | simp [go_sem])) | (go_at_call 11; refine (implGlassesOk_any _ _ _ _ _).mono ?_; rintro e w1 ⟨rfl, hk⟩; have c0_0 : w1.cell? ⟨w.heap.size, 0, none⟩ = some (.int .i64 a) := hk.at1 (by first | with_reducible assumption | simp [go_sem]); have c0_1 : w1.cell? ⟨w.heap.size, 1, none⟩ = some (.int .i64 b) := hk.at1 (by first | with_reducible assumption | simp [go_sem]); have c0_2 : w1.cell? ⟨w.heap.size, 2, none⟩ = some (.int .i64 c) := hk.at1 (by first | with_reducible assumption | simp [go_sem]); have c0_3 : w1.cell? ⟨w.heap.size, 3, none⟩ = some (.int .i64 d) := hk.at1 (by first | with_reducible assumption | simp [go_sem])) | (go_at_call 9; refine (specGlassesOk_any _ _ _ _ _).mono ?_; rintro e w1 ⟨rfl, hk⟩; have c0_0 : w1.cell? ⟨w.heap.size, 0, none⟩ = some (.int .i64 a) := hk.at1 (by first | with_reducible assumption | simp [go_sem]); have c0_1 : w1.cell? ⟨w.heap.size, 1, none⟩ = some (.int .i64 b) := hk.at1 (by first | with_reducible assumption | simp [go_sem]); have c0_2 : w1.cell? ⟨w.heap.size, 2, none⟩ = some (.int .i64 c) := hk.at1 (by first | with_reducible assumption | simp [go_sem]); have c0_3 : w1.cell? ⟨w.heap.size, 3, none⟩ = some (.int .i64 d) := hk.at1 (by first | with_reducible assumption | simp [go_sem])))
  all_goals (go_ret; exact ⟨rfl, by show Kp _ _; (repeat (with_reducible first | exact Kp.refl _ | assumption | refine Kp.drew ?_ | refine Kp.drewN ?_ _ | refine Kp.alloc ?_ _ | refine Kp.setCell ?_ (by first | (simp; done) | (simp; omega) | (dsimp only; omega)) _ | refine Kp.trans ?_ (by assumption)))⟩)
set_option maxRecDepth 100000 in
theorem lifted (os : Os) (started : os.Started) (H : Type) (enc : TypeId × Value → H) :
    ReturnsInHanded {} Try.checked os 3 .any (Rows.fnExactGlassesOkSpec.pre6 enc Try.prog Try.f3 Rows.fnExactGlassesOkRow.domain false) (Rows.fnExactGlassesOkSpec.post enc Try.prog Try.f3 false true false false) := by
  refine returnsInHanded_of_change (C := Try.checked) own started (by kernel_rfl) Try.func3
    (ChangeSpec.witness6 (enc := enc) (C := Try.checked) false ⟨#[], #[.agg #[.int .i64 0, .int .i64 0, .int .i64 0, .int .i64 0]], []⟩ 8 (by kernel_rfl) (by kernel_rfl) (by kernel_rfl) (by kernel_rfl)) ?_
  intro W base args ds gs before hval hW _ _
  obtain ⟨p, q, hA0, hV, rfl, _, _⟩ := id hW
  have hA : DataW.TrodAll enc Try.prog W 0 (fun _ => true) true Try.f3.params.toList args.toList ds p := hA0
  rw [Try.params3] at hA hval
  obtain ⟨v0, vs0, d0, ds0, p0, q0, hargs, rfl, rfl, h0, r0⟩ := trodAll_cons hA
  obtain ⟨rfl, rfl, rfl⟩ := trodAll_nil r0
  obtain rfl : args = #[v0] := by cases args; simp_all
  obtain ⟨rfl, rfl⟩ := trodVars_none hV
  obtain ⟨c0_0, c0_1, c0_2, c0_3, y0_0, y0_1, y0_2, y0_3, m0, rfl, rfl, rfl, z0_0, z0_1, z0_2, z0_3⟩ := open_agg4 Try.underlying23 (by kernel_rfl) (by kernel_rfl) (hval 0 23 v0 rfl rfl) h0
  obtain ⟨a0_0, e0_0, rfl, w0_0⟩ := DataW.trod_int Try.underlying3 z0_0
  obtain rfl : c0_0 = .int .i64 a0_0 := by simpa using e0_0
  obtain ⟨a0_1, e0_1, rfl, w0_1⟩ := DataW.trod_int Try.underlying3 z0_1
  obtain rfl : c0_1 = .int .i64 a0_1 := by simpa using e0_1
  obtain ⟨a0_2, e0_2, rfl, w0_2⟩ := DataW.trod_int Try.underlying3 z0_2
  obtain rfl : c0_2 = .int .i64 a0_2 := by simpa using e0_2
  obtain ⟨a0_3, e0_3, rfl, w0_3⟩ := DataW.trod_int Try.underlying3 z0_3
  obtain rfl : c0_3 = .int .i64 a0_3 := by simpa using e0_3
  refine (walk a0_0 a0_1 a0_2 a0_3 W (i64_wf w0_0) (i64_wf w0_1) (i64_wf w0_2) (i64_wf w0_3)).mono fun e W' ⟨he, hb⟩ => ⟨_, he, law_post laidOut (by kernel_rfl) rfl hW hb rfl rfl rfl (by kernel_rfl) (B := 4) Try.underlying4⟩
theorem proved : Rows.FnExactGlassesOkSaid :=
  OpenClaim.holds_of_wide 3 Try.f3 rfl rfl rfl rfl rfl rfl rfl ⟨rfl, rfl, rfl, rfl, rfl⟩ rfl rfl rfl rfl rfl (by kernel_rfl) Try.func3 (by kernel_rfl)
    (of_decide_eq_true (by kernel_rfl)) (by unfold Func.isWrapper; rw [if_neg (of_decide_eq_false (by kernel_rfl))]; exact ⟨rfl, rfl⟩)
    (fun os started H enc _ => lifted os started H enc)
#print axioms proved
end glassesOk
end Go.Proofs.Ytpafcambfmkmiaa
