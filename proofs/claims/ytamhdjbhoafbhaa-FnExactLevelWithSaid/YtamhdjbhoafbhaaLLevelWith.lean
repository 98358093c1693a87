/- The program's LevelWith returns what the reference's returns, for all arguments. No condition. -/
import Derived.Test.YtamhdjbhoafbhaaClose
import Derived.Test.YtamhdjbhoafbhaaSteel
set_option linter.unusedVariables false
namespace Go.Proofs.Ytamhdjbhoafbhaa
open Go.ChangeShapes Go.WideShapes Go.ChangeAt Go.RowKit Go.Joins Go.Deep
namespace levelWith
theorem walk (a b c l q : Int) (w : World) (_ : I64 a) (_ : I64 b) (_ : I64 c) (_ : I64 l) (_ : I64 q) : Calls Try.prog 5 #[.agg #[.int .i64 a, .int .i64 b, .int .i64 c], .int .i64 l, .int .i64 q] w fun e w' => e = .returned (.bool true) ∧ Below w.heap.size w w' := by
  go_enter Try.func5, Try.ntmps5
  go_wp2_with (first | (go_at_call 14; refine (toSteelyard_any _ _ _ _).mono ?_; rintro e w1 ⟨rfl, hk⟩; have c0_0 : w1.cell? ⟨w.heap.size, 0, none⟩ = some (.int .i64 a) := hk.at1 (by first | assumption | simp [go_sem]); have c0_1 : w1.cell? ⟨w.heap.size, 1, none⟩ = some (.int .i64 b) := hk.at1 (by first | assumption | simp [go_sem]); have c0_2 : w1.cell? ⟨w.heap.size, 2, none⟩ = some (.int .i64 c) := hk.at1 (by first | assumption | simp [go_sem])) | (go_at_call 17; refine (implLevelWith_any _ _ _ _ _ _).mono ?_; rintro e w1 ⟨rfl, hk⟩; have c0_0 : w1.cell? ⟨w.heap.size, 0, none⟩ = some (.int .i64 a) := hk.at1 (by first | assumption | simp [go_sem]); have c0_1 : w1.cell? ⟨w.heap.size, 1, none⟩ = some (.int .i64 b) := hk.at1 (by first | assumption | simp [go_sem]); have c0_2 : w1.cell? ⟨w.heap.size, 2, none⟩ = some (.int .i64 c) := hk.at1 (by first | assumption | simp [go_sem])) | (go_at_call 16; refine (specLevelWith_any _ _ _ _ _ _).mono ?_; rintro e w1 ⟨rfl, hk⟩; have c0_0 : w1.cell? ⟨w.heap.size, 0, none⟩ = some (.int .i64 a) := hk.at1 (by first | assumption | simp [go_sem]); have c0_1 : w1.cell? ⟨w.heap.size, 1, none⟩ = some (.int .i64 b) := hk.at1 (by first | assumption | simp [go_sem]); have c0_2 : w1.cell? ⟨w.heap.size, 2, none⟩ = some (.int .i64 c) := hk.at1 (by first | assumption | simp [go_sem])))
  all_goals (go_ret; exact ⟨rfl, by show Kp _ _; repeat (first | exact Kp.refl _ | assumption | refine Kp.drew ?_ | refine Kp.drewN ?_ _ | refine Kp.alloc ?_ _ | refine Kp.setCell ?_ (by simp <;> omega) _ | refine Kp.trans ?_ (by assumption))⟩)
set_option maxRecDepth 100000 in
theorem lifted (os : Os) (started : os.Started) (H : Type) (enc : TypeId × Value → H) :
    ReturnsInHanded {} Try.checked os 5 .any (Rows.fnExactLevelWithSpec.pre6 enc Try.prog Try.f5 Rows.fnExactLevelWithRow.domain false) (Rows.fnExactLevelWithSpec.post enc Try.prog Try.f5 false true false false) := by
  refine returnsInHanded_of_change (C := Try.checked) own started (by kernel_rfl) Try.func5
    (ChangeSpec.witness6 (enc := enc) (C := Try.checked) false ⟨#[], #[.agg #[.int .i64 0, .int .i64 0, .int .i64 0], .int .i64 0, .int .i64 0], []⟩ 8 (by kernel_rfl) (by kernel_rfl) (by kernel_rfl) (by kernel_rfl)) ?_
  intro W base args ds gs before hval hW _ _
  obtain ⟨p, q, hA0, hV, rfl, _, _⟩ := id hW
  have hA : DataW.TrodAll enc Try.prog W 0 (fun _ => true) true Try.f5.params.toList args.toList ds p := hA0
  rw [Try.params5] at hA hval
  obtain ⟨v0, vs0, d0, ds0, p0, q0, hargs, rfl, rfl, h0, r0⟩ := trodAll_cons hA
  obtain ⟨v1, vs1, d1, ds1, p1, q1, rfl, rfl, rfl, h1, r1⟩ := trodAll_cons r0
  obtain ⟨v2, vs2, d2, ds2, p2, q2, rfl, rfl, rfl, h2, r2⟩ := trodAll_cons r1
  obtain ⟨rfl, rfl, rfl⟩ := trodAll_nil r2
  obtain rfl : args = #[v0, v1, v2] := by cases args; simp_all
  obtain ⟨rfl, rfl⟩ := trodVars_none hV
  obtain ⟨c0_0, c0_1, c0_2, y0_0, y0_1, y0_2, m0, rfl, rfl, rfl, z0_0, z0_1, z0_2⟩ := open_agg3 Try.underlying24 (by kernel_rfl) (by kernel_rfl) (hval 0 24 v0 rfl rfl) h0
  obtain ⟨a0_0, e0_0, rfl, w0_0⟩ := DataW.trod_int Try.underlying3 z0_0
  obtain rfl : c0_0 = .int .i64 a0_0 := by simpa using e0_0
  obtain ⟨a0_1, e0_1, rfl, w0_1⟩ := DataW.trod_int Try.underlying3 z0_1
  obtain rfl : c0_1 = .int .i64 a0_1 := by simpa using e0_1
  obtain ⟨a0_2, e0_2, rfl, w0_2⟩ := DataW.trod_int Try.underlying3 z0_2
  obtain rfl : c0_2 = .int .i64 a0_2 := by simpa using e0_2
  obtain ⟨a1, rfl, rfl, rfl, w1⟩ := open_int Try.underlying3 (hval 1 3 v1 rfl rfl) h1
  obtain ⟨a2, rfl, rfl, rfl, w2⟩ := open_int Try.underlying3 (hval 2 3 v2 rfl rfl) h2
  refine (walk a0_0 a0_1 a0_2 a1 a2 W (i64_wf w0_0) (i64_wf w0_1) (i64_wf w0_2) (i64_wf w1) (i64_wf w2)).mono fun e W' ⟨he, hb⟩ => ⟨_, he, law_post laidOut (by kernel_rfl) rfl hW hb rfl rfl rfl (by kernel_rfl) (B := 4) Try.underlying4⟩
theorem proved : Rows.FnExactLevelWithSaid :=
  OpenClaim.holds_of_wide 5 Try.f5 rfl rfl rfl rfl rfl rfl rfl ⟨rfl, rfl, rfl, rfl, rfl⟩ rfl rfl rfl rfl rfl (by kernel_rfl) Try.func5 (by kernel_rfl)
    (of_decide_eq_true (by kernel_rfl)) (by unfold Func.isWrapper; rw [if_neg (of_decide_eq_false (by kernel_rfl))]; exact ⟨rfl, rfl⟩)
    (fun os started H enc _ => lifted os started H enc)
#print axioms proved
end levelWith
end Go.Proofs.Ytamhdjbhoafbhaa
