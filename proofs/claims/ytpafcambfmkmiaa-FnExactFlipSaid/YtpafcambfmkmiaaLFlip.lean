/- The program's Flip returns what the reference's returns, for all arguments. No condition. -/
import Derived.Test.YtpafcambfmkmiaaClose
import Derived.Test.YtpafcambfmkmiaaGlass
import Derived.Deep.RegionHeld3
import Derived.Deep.DeepCutAuto
set_option linter.unusedVariables false
namespace Go.Proofs.Ytpafcambfmkmiaa
open Go.ChangeShapes Go.WideShapes Go.ChangeAt Go.RowKit Go.Joins Go.Deep
namespace flip
set_option maxHeartbeats 1600000 in
theorem walk (f s a b act : Int) (w : World) (_ : I64 f) (_ : I64 s) (_ : I64 a) (_ : I64 b) (_ : I64 act) : Calls Try.prog 4 #[(.agg #[.int .i64 f, .int .i64 s, .int .i64 a, .int .i64 b]), .int .i64 act] w fun e w' => e = .returned (.bool true) ∧ Below w.heap.size w w' := by
  go_enter Try.func4, Try.ntmps4
  go_upto_region 1 with fail
  have x0 : (w.alloc (.cells #[.int .i64 f, .int .i64 s, .int .i64 a, .int .i64 b] 23)).cell? ⟨w.heap.size, 0, none⟩ = some (.int .i64 f) := by simp [go_sem]
  have x1 : (w.alloc (.cells #[.int .i64 f, .int .i64 s, .int .i64 a, .int .i64 b] 23)).cell? ⟨w.heap.size, 1, none⟩ = some (.int .i64 s) := by simp [go_sem]
  have x2 : (w.alloc (.cells #[.int .i64 f, .int .i64 s, .int .i64 a, .int .i64 b] 23)).cell? ⟨w.heap.size, 2, none⟩ = some (.int .i64 a) := by simp [go_sem]
  have x3 : (w.alloc (.cells #[.int .i64 f, .int .i64 s, .int .i64 a, .int .i64 b] 23)).cell? ⟨w.heap.size, 3, none⟩ = some (.int .i64 b) := by simp [go_sem]
  have hkp : Kp w (w.alloc (.cells #[.int .i64 f, .int .i64 s, .int .i64 a, .int .i64 b] 23)) := by (repeat (with_reducible first | exact Kp.refl _ | assumption | refine Kp.drew ?_ | refine Kp.drewN ?_ _ | refine Kp.alloc ?_ _ | refine Kp.setCell ?_ (by first | (simp; done) | (simp; omega) | (dsimp only; omega)) _ | refine Kp.trans ?_ (by assumption)))
  generalize (w.alloc (.cells #[.int .i64 f, .int .i64 s, .int .i64 a, .int .i64 b] 23)) = W at *
  have z0 := cell_lt x0
  have z1 := cell_lt x1
  have z2 := cell_lt x2
  have z3 := cell_lt x3
  simp only at z0 z1 z2 z3
  go_cut [5] (fun sa wx => ∃ g : Nat, W.heap.size ≤ g ∧ sa = .pointer (some ⟨g, 0, none⟩) ∧ wx.cell? ⟨g, 0, none⟩ = some (.int .i64 (f)) ∧ wx.cell? ⟨g, 1, none⟩ = some (.int .i64 (s)) ∧ wx.cell? ⟨g, 2, none⟩ = some (.int .i64 (fA f s a b act)) ∧ wx.cell? ⟨g, 3, none⟩ = some (.int .i64 (fB f s a b act)) ∧ wx.cell? ⟨w.heap.size, 0, none⟩ = some (.int .i64 f) ∧ wx.cell? ⟨w.heap.size, 1, none⟩ = some (.int .i64 s) ∧ wx.cell? ⟨w.heap.size, 2, none⟩ = some (.int .i64 a) ∧ wx.cell? ⟨w.heap.size, 3, none⟩ = some (.int .i64 b) ∧ Kp w wx)
  case first =>
    go_wp2_with (first | (go_at_call 10; refine (toGlasses_any _ _ _ _ _).mono ?_; rintro e w1 ⟨rfl, hk⟩; have hz := hk.size; have x0 := hk.at1 x0; have x1 := hk.at1 x1; have x2 := hk.at1 x2; have x3 := hk.at1 x3) | (go_at_call 12; refine (specFlip_any _ _ _ _ _ _).mono ?_; rintro e w1 ⟨rfl, hk⟩; have hz := hk.size; have x0 := hk.at1 x0; have x1 := hk.at1 x1; have x2 := hk.at1 x2; have x3 := hk.at1 x3))
    all_goals go_meet
    all_goals refine ⟨_, ?_, rfl, ?_, ?_, ?_, ?_, ?_, ?_, ?_, ?_, ?_⟩
    all_goals first
      | with_reducible assumption
      | omega
      | (with_reducible apply cell_alloc; with_reducible assumption)
      | (simp; done)
      | (simp [go_sem]; done)
      | (go_simp; done)
      | ((repeat (with_reducible first | exact Kp.refl _ | assumption | refine Kp.drew ?_ | refine Kp.drewN ?_ _ | refine Kp.alloc ?_ _ | refine Kp.setCell ?_ (by first | (simp; done) | (simp; omega) | (dsimp only; omega)) _ | refine Kp.trans ?_ (by assumption))))
  case rest =>
    clear x0 z0 x1 z1 x2 z2 x3 z3 hkp
    obtain ⟨g, hg, rfl, q0, q1, q2, q3, x0, x1, x2, x3, hkp⟩ := hcut
    have y0 := cell_lt q0
    have y1 := cell_lt q1
    have y2 := cell_lt q2
    have y3 := cell_lt q3
    have z0 := cell_lt x0
    have z1 := cell_lt x1
    have z2 := cell_lt x2
    have z3 := cell_lt x3
    simp only at y0 y1 y2 y3 z0 z1 z2 z3
    go_upto_region 2 with fail
    go_cut [6] (fun sa wx => ∃ h : Nat, sa = .pointer (some ⟨h, 0, none⟩) ∧ wx.cell? ⟨h, 0, none⟩ = some (.int .i64 (f)) ∧ wx.cell? ⟨h, 1, none⟩ = some (.int .i64 (s)) ∧ wx.cell? ⟨h, 2, none⟩ = some (.int .i64 (fA f s a b act)) ∧ wx.cell? ⟨h, 3, none⟩ = some (.int .i64 (fB f s a b act)) ∧ wx.cell? ⟨g, 0, none⟩ = some (.int .i64 (f)) ∧ wx.cell? ⟨g, 1, none⟩ = some (.int .i64 (s)) ∧ wx.cell? ⟨g, 2, none⟩ = some (.int .i64 (fA f s a b act)) ∧ wx.cell? ⟨g, 3, none⟩ = some (.int .i64 (fB f s a b act)) ∧ Kp w wx)
    case first =>
      go_wp2_with (first | (go_at_call 10; refine (toGlasses_any _ _ _ _ _).mono ?_; rintro e w1 ⟨rfl, hk⟩; have hz := hk.size; have x0 := hk.at1 x0; have x1 := hk.at1 x1; have x2 := hk.at1 x2; have x3 := hk.at1 x3; have q0 := hk.at1 q0; have q1 := hk.at1 q1; have q2 := hk.at1 q2; have q3 := hk.at1 q3) | (go_at_call 13; refine (implFlip_any _ _ _ _ _ _).mono ?_; rintro e w1 ⟨rfl, hk⟩; have hz := hk.size; have x0 := hk.at1 x0; have x1 := hk.at1 x1; have x2 := hk.at1 x2; have x3 := hk.at1 x3; have q0 := hk.at1 q0; have q1 := hk.at1 q1; have q2 := hk.at1 q2; have q3 := hk.at1 q3))
      all_goals go_meet
      all_goals refine ⟨_, rfl, ?_, ?_, ?_, ?_, ?_, ?_, ?_, ?_, ?_⟩
      all_goals first
      | with_reducible assumption
      | omega
      | (with_reducible apply cell_alloc; with_reducible assumption)
      | (simp; done)
      | (simp [go_sem]; done)
      | (go_simp; done)
      | ((repeat (with_reducible first | exact Kp.refl _ | assumption | refine Kp.drew ?_ | refine Kp.drewN ?_ _ | refine Kp.alloc ?_ _ | refine Kp.setCell ?_ (by first | (simp; done) | (simp; omega) | (dsimp only; omega)) _ | refine Kp.trans ?_ (by assumption))))
    case rest =>
      obtain ⟨h, rfl, t0, t1, t2, t3, q0, q1, q2, q3, hkq⟩ := hcut
      go_wp2_with (go_at_call 14; refine (eqGlasses_same _ _ _ _ _).mono ?_; rintro e w1 ⟨rfl, hk⟩)
      go_ret
      exact ⟨rfl, by show Kp _ _; (repeat (with_reducible first | exact Kp.refl _ | assumption | refine Kp.drew ?_ | refine Kp.drewN ?_ _ | refine Kp.alloc ?_ _ | refine Kp.setCell ?_ (by first | (simp; done) | (simp; omega) | (dsimp only; omega)) _ | refine Kp.trans ?_ (by assumption)))⟩
set_option maxRecDepth 100000 in
theorem lifted (os : Os) (started : os.Started) (H : Type) (enc : TypeId × Value → H) :
    ReturnsInHanded {} Try.checked os 4 .any (Rows.fnExactFlipSpec.pre6 enc Try.prog Try.f4 Rows.fnExactFlipRow.domain false) (Rows.fnExactFlipSpec.post enc Try.prog Try.f4 false true false false) := by
  refine returnsInHanded_of_change (C := Try.checked) own started (by kernel_rfl) Try.func4
    (ChangeSpec.witness6 (enc := enc) (C := Try.checked) false ⟨#[], #[.agg #[.int .i64 0, .int .i64 0, .int .i64 0, .int .i64 0], .int .i64 0], []⟩ 8 (by kernel_rfl) (by kernel_rfl) (by kernel_rfl) (by kernel_rfl)) ?_
  intro W base args ds gs before hval hW _ _
  obtain ⟨p, q, hA0, hV, rfl, _, _⟩ := id hW
  have hA : DataW.TrodAll enc Try.prog W 0 (fun _ => true) true Try.f4.params.toList args.toList ds p := hA0
  rw [Try.params4] at hA hval
  obtain ⟨v0, vs0, d0, ds0, p0, q0, hargs, rfl, rfl, h0, r0⟩ := trodAll_cons hA
  obtain ⟨v1, vs1, d1, ds1, p1, q1, rfl, rfl, rfl, h1, r1⟩ := trodAll_cons r0
  obtain ⟨rfl, rfl, rfl⟩ := trodAll_nil r1
  obtain rfl : args = #[v0, v1] := by cases args; simp_all
  obtain ⟨rfl, rfl⟩ := trodVars_none hV
  obtain ⟨c0_0, c0_1, c0_2, c0_3, y0_0, y0_1, y0_2, y0_3, m0, rfl, rfl, rfl, z0_0, z0_1, z0_2, z0_3⟩ := open_agg4 Try.underlying23 (by kernel_rfl) (by kernel_rfl) (hval 0 23 v0 rfl rfl) h0
  obtain ⟨a0_0, e0_0, rfl, w0_0⟩ := DataW.trod_int Try.underlying3 z0_0
  obtain rfl : c0_0 = .int .i64 a0_0 := by simpa using e0_0
  obtain ⟨a0_1, e0_1, rfl, w0_1⟩ := DataW.trod_int Try.underlying3 z0_1
  obtain rfl : c0_1 = .int .i64 a0_1 := by simpa using e0_1
  obtain ⟨a0_2, e0_2, rfl, w0_2⟩ := DataW.trod_int Try.underlying3 z0_2
  obtain rfl : c0_2 = .int .i64 a0_2 := by simpa using e0_2
  obtain ⟨a0_3, e0_3, rfl, w0_3⟩ := DataW.trod_int Try.underlying3 z0_3
  obtain rfl : c0_3 = .int .i64 a0_3 := by simpa using e0_3
  obtain ⟨a1, rfl, rfl, rfl, w1⟩ := open_int Try.underlying3 (hval 1 3 v1 rfl rfl) h1
  refine (walk a0_0 a0_1 a0_2 a0_3 a1 W (i64_wf w0_0) (i64_wf w0_1) (i64_wf w0_2) (i64_wf w0_3) (i64_wf w1)).mono fun e W' ⟨he, hb⟩ => ⟨_, he, law_post laidOut (by kernel_rfl) rfl hW hb rfl rfl rfl (by kernel_rfl) (B := 4) Try.underlying4⟩
theorem proved : Rows.FnExactFlipSaid :=
  OpenClaim.holds_of_wide 4 Try.f4 rfl rfl rfl rfl rfl rfl rfl ⟨rfl, rfl, rfl, rfl, rfl⟩ rfl rfl rfl rfl rfl (by kernel_rfl) Try.func4 (by kernel_rfl)
    (of_decide_eq_true (by kernel_rfl)) (by unfold Func.isWrapper; rw [if_neg (of_decide_eq_false (by kernel_rfl))]; exact ⟨rfl, rfl⟩)
    (fun os started H enc _ => lifted os started H enc)
#print axioms proved
end flip
end Go.Proofs.Ytpafcambfmkmiaa
