/- The program's LoadAt returns what the reference's returns, for all arguments. No condition. -/
import Derived.Test.YtamhdjbhoafbhaaClose
import Derived.Test.YtamhdjbhoafbhaaSteel
import Derived.Test.YtamhdjbhoafbhaaKeep
import Derived.Deep.RegionHeld3
import Derived.Deep.DeepCutAuto
set_option linter.unusedVariables false
namespace Go.Proofs.Ytamhdjbhoafbhaa
open Go.ChangeShapes Go.WideShapes Go.ChangeAt Go.RowKit Go.Joins Go.Deep
namespace loadAt
set_option maxHeartbeats 1600000 in
theorem walk (p s e t u : Int) (w : World) (_ : I64 p) (_ : I64 s) (_ : I64 e) (_ : I64 t) (_ : I64 u) : Calls Try.prog 8 #[(.agg #[.int .i64 p, .int .i64 s, .int .i64 e]), (.agg #[.int .i64 t, .int .i64 u])] w fun e w' => e = .returned (.bool true) ∧ Below w.heap.size w w' := by
  go_enter Try.func8, Try.ntmps8
  go_upto_region 1 with fail
  have x0 : ((w.alloc (.cells #[.int .i64 p, .int .i64 s, .int .i64 e] 24)).alloc (.cells #[.int .i64 t, .int .i64 u] 32)).cell? ⟨w.heap.size, 0, none⟩ = some (.int .i64 p) := by simp [go_sem]
  have x1 : ((w.alloc (.cells #[.int .i64 p, .int .i64 s, .int .i64 e] 24)).alloc (.cells #[.int .i64 t, .int .i64 u] 32)).cell? ⟨w.heap.size, 1, none⟩ = some (.int .i64 s) := by simp [go_sem]
  have x2 : ((w.alloc (.cells #[.int .i64 p, .int .i64 s, .int .i64 e] 24)).alloc (.cells #[.int .i64 t, .int .i64 u] 32)).cell? ⟨w.heap.size, 2, none⟩ = some (.int .i64 e) := by simp [go_sem]
  have x3 : ((w.alloc (.cells #[.int .i64 p, .int .i64 s, .int .i64 e] 24)).alloc (.cells #[.int .i64 t, .int .i64 u] 32)).cell? ⟨w.heap.size + 1, 0, none⟩ = some (.int .i64 t) := by simp [go_sem]
  have x4 : ((w.alloc (.cells #[.int .i64 p, .int .i64 s, .int .i64 e] 24)).alloc (.cells #[.int .i64 t, .int .i64 u] 32)).cell? ⟨w.heap.size + 1, 1, none⟩ = some (.int .i64 u) := by simp [go_sem]
  have hkp : Kp w ((w.alloc (.cells #[.int .i64 p, .int .i64 s, .int .i64 e] 24)).alloc (.cells #[.int .i64 t, .int .i64 u] 32)) := by (repeat (with_reducible first | exact Kp.refl _ | assumption | refine Kp.drew ?_ | refine Kp.drewN ?_ _ | refine Kp.alloc ?_ _ | refine Kp.setCell ?_ (by first | (simp; done) | (simp; omega) | (dsimp only; omega)) _ | refine Kp.trans ?_ (by assumption)))
  generalize ((w.alloc (.cells #[.int .i64 p, .int .i64 s, .int .i64 e] 24)).alloc (.cells #[.int .i64 t, .int .i64 u] 32)) = W at *
  have z0 := cell_lt x0
  have z1 := cell_lt x1
  have z2 := cell_lt x2
  have z3 := cell_lt x3
  have z4 := cell_lt x4
  simp only at z0 z1 z2 z3 z4
  go_cut [5, 6] (fun sa sb wx => ∃ g : Nat, W.heap.size ≤ g ∧ sa = .pointer (some ⟨g, 0, none⟩) ∧ sb = .bool (loadB p s e t u) ∧ wx.cell? ⟨g, 0, none⟩ = some (.int .i64 (loadT p s e t u)) ∧ wx.cell? ⟨g, 1, none⟩ = some (.int .i64 (loadU p s e t u)) ∧ wx.cell? ⟨w.heap.size, 0, none⟩ = some (.int .i64 p) ∧ wx.cell? ⟨w.heap.size, 1, none⟩ = some (.int .i64 s) ∧ wx.cell? ⟨w.heap.size, 2, none⟩ = some (.int .i64 e) ∧ wx.cell? ⟨w.heap.size + 1, 0, none⟩ = some (.int .i64 t) ∧ wx.cell? ⟨w.heap.size + 1, 1, none⟩ = some (.int .i64 u) ∧ Kp w wx)
  case first =>
    go_region_held3 (fun w' => w'.cell? ⟨w.heap.size, 0, none⟩ = some (.int .i64 p) ∧ w'.cell? ⟨w.heap.size, 1, none⟩ = some (.int .i64 s) ∧ w'.cell? ⟨w.heap.size, 2, none⟩ = some (.int .i64 e) ∧ w'.cell? ⟨w.heap.size + 1, 0, none⟩ = some (.int .i64 t) ∧ w'.cell? ⟨w.heap.size + 1, 1, none⟩ = some (.int .i64 u))
      (((try go_split_ands); (repeat' apply And.intro) <;> (first | with_reducible assumption | (with_reducible apply cell_drew; with_reducible assumption) | (with_reducible apply cell_drew; with_reducible apply cell_alloc; with_reducible assumption) | (with_reducible apply hk.at1; with_reducible assumption) | (with_reducible apply cell_alloc; with_reducible assumption) | (with_reducible refine cell_set (cell_set ?_ _ ?_) _ ?_ <;> first | with_reducible assumption | (dsimp only; omega)) | (with_reducible apply cell_realloc <;> first | with_reducible assumption | (dsimp only; omega)))))
      (first | (go_at_call 14; refine (toSteelyard_any _ _ _ _).mono ?_; rintro e w1 ⟨rfl, hk⟩; have hz := hk.size; (try simp at hz); (first | have hl := Kp.next2 hl hk | have hl := Kp.last2 hk | have hl := Kp.last2d hk | skip); (try have hl0 := hl.1.1); (try have hl1 := hl.2.1); (try have hf0 := hl.1.2); (try have hf1 := hl.2.2)) | (go_at_call 19; refine (toFraction_any _ _ _).mono ?_; rintro e w1 ⟨rfl, hk⟩; have hz := hk.size; (try simp at hz); (first | have hl := Kp.next2 hl hk | have hl := Kp.last2 hk | have hl := Kp.last2d hk | skip); (try have hl0 := hl.1.1); (try have hl1 := hl.2.1); (try have hf0 := hl.1.2); (try have hf1 := hl.2.2)) | (go_at_call 24; refine (specLoadAt_any _ _ _ _ _ _).mono ?_; rintro e w1 ⟨rfl, hk⟩; have hz := hk.size; (try simp at hz); (first | have hl := Kp.next2 hl hk | have hl := Kp.last2 hk | have hl := Kp.last2d hk | skip); (try have hl0 := hl.1.1); (try have hl1 := hl.2.1); (try have hf0 := hl.1.2); (try have hf1 := hl.2.2)))
    all_goals (go_wp2_with fail; go_meet; (try go_split_ands))
    all_goals refine ⟨_, ?_, rfl, rfl, ?_, ?_, ?_, ?_, ?_, ?_, ?_, ?_⟩
    all_goals first
      | with_reducible assumption
      | omega
      | (with_reducible apply cell_alloc; with_reducible assumption)
      | (simp; done)
      | (simp [go_sem]; done)
      | (go_simp; done)
      | ((repeat (with_reducible first | exact Kp.refl _ | assumption | refine Kp.drew ?_ | refine Kp.drewN ?_ _ | refine Kp.alloc ?_ _ | refine Kp.setCell ?_ (by first | (simp; done) | (simp; omega) | (dsimp only; omega)) _ | refine Kp.trans ?_ (by assumption))))
  case rest =>
    clear x0 z0 x1 z1 x2 z2 x3 z3 x4 z4 hkp
    obtain ⟨g, hg, rfl, rfl, q0, q1, x0, x1, x2, x3, x4, hkp⟩ := hcut
    have y0 := cell_lt q0
    have y1 := cell_lt q1
    have z0 := cell_lt x0
    have z1 := cell_lt x1
    have z2 := cell_lt x2
    have z3 := cell_lt x3
    have z4 := cell_lt x4
    simp only at y0 y1 z0 z1 z2 z3 z4
    go_upto_region 2 with fail
    go_cut [7, 8] (fun sa sb wx => ∃ h : Nat, sa = .pointer (some ⟨h, 0, none⟩) ∧ sb = .bool (loadB p s e t u) ∧ wx.cell? ⟨h, 0, none⟩ = some (.int .i64 (loadT p s e t u)) ∧ wx.cell? ⟨h, 1, none⟩ = some (.int .i64 (loadU p s e t u)) ∧ wx.cell? ⟨g, 0, none⟩ = some (.int .i64 (loadT p s e t u)) ∧ wx.cell? ⟨g, 1, none⟩ = some (.int .i64 (loadU p s e t u)) ∧ Kp w wx)
    case first =>
      go_region_held3 (fun w' => w'.cell? ⟨g, 0, none⟩ = some (.int .i64 (loadT p s e t u)) ∧ w'.cell? ⟨g, 1, none⟩ = some (.int .i64 (loadU p s e t u)) ∧ w'.cell? ⟨w.heap.size, 0, none⟩ = some (.int .i64 p) ∧ w'.cell? ⟨w.heap.size, 1, none⟩ = some (.int .i64 s) ∧ w'.cell? ⟨w.heap.size, 2, none⟩ = some (.int .i64 e) ∧ w'.cell? ⟨w.heap.size + 1, 0, none⟩ = some (.int .i64 t) ∧ w'.cell? ⟨w.heap.size + 1, 1, none⟩ = some (.int .i64 u))
        (((try go_split_ands); (repeat' apply And.intro) <;> (first | with_reducible assumption | (with_reducible apply cell_drew; with_reducible assumption) | (with_reducible apply cell_drew; with_reducible apply cell_alloc; with_reducible assumption) | (with_reducible apply hk.at1; with_reducible assumption) | (with_reducible apply cell_alloc; with_reducible assumption) | (with_reducible refine cell_set (cell_set ?_ _ ?_) _ ?_ <;> first | with_reducible assumption | (dsimp only; omega)) | (with_reducible apply cell_realloc <;> first | with_reducible assumption | (dsimp only; omega)))))
        (first | (go_at_call 14; refine (toSteelyard_any _ _ _ _).mono ?_; rintro e w1 ⟨rfl, hk⟩; have hz := hk.size; (try simp at hz); (first | have hl := Kp.next2 hl hk | have hl := Kp.last2 hk | have hl := Kp.last2d hk | skip); (try have hl0 := hl.1.1); (try have hl1 := hl.2.1); (try have hf0 := hl.1.2); (try have hf1 := hl.2.2)) | (go_at_call 19; refine (toFraction_any _ _ _).mono ?_; rintro e w1 ⟨rfl, hk⟩; have hz := hk.size; (try simp at hz); (first | have hl := Kp.next2 hl hk | have hl := Kp.last2 hk | have hl := Kp.last2d hk | skip); (try have hl0 := hl.1.1); (try have hl1 := hl.2.1); (try have hf0 := hl.1.2); (try have hf1 := hl.2.2)) | (go_at_call 25; refine (implLoadAt_any _ _ _ _ _ _).mono ?_; rintro e w1 ⟨rfl, hk⟩; have hz := hk.size; (try simp at hz); (first | have hl := Kp.next2 hl hk | have hl := Kp.last2 hk | have hl := Kp.last2d hk | skip); (try have hl0 := hl.1.1); (try have hl1 := hl.2.1); (try have hf0 := hl.1.2); (try have hf1 := hl.2.2)))
      all_goals (go_wp2_with fail; go_meet; (try go_split_ands))
      all_goals refine ⟨_, rfl, rfl, ?_, ?_, ?_, ?_, ?_⟩
      all_goals first
      | with_reducible assumption
      | omega
      | (with_reducible apply cell_alloc; with_reducible assumption)
      | (simp; done)
      | (simp [go_sem]; done)
      | (go_simp; done)
      | ((repeat (with_reducible first | exact Kp.refl _ | assumption | refine Kp.drew ?_ | refine Kp.drewN ?_ _ | refine Kp.alloc ?_ _ | refine Kp.setCell ?_ (by first | (simp; done) | (simp; omega) | (dsimp only; omega)) _ | refine Kp.trans ?_ (by assumption))))
    case rest =>
      obtain ⟨h, rfl, rfl, t0, t1, q0, q1, hkq⟩ := hcut
      go_wp2_with (go_at_call 21; refine (eqFraction_same _ _ _).mono ?_; rintro e w1 ⟨rfl, hk⟩)
      go_ret
      exact ⟨rfl, by show Kp _ _; (repeat (with_reducible first | exact Kp.refl _ | assumption | refine Kp.drew ?_ | refine Kp.drewN ?_ _ | refine Kp.alloc ?_ _ | refine Kp.setCell ?_ (by first | (simp; done) | (simp; omega) | (dsimp only; omega)) _ | refine Kp.trans ?_ (by assumption)))⟩
set_option maxRecDepth 100000 in
theorem lifted (os : Os) (started : os.Started) (H : Type) (enc : TypeId × Value → H) :
    ReturnsInHanded {} Try.checked os 8 .any (Rows.fnExactLoadAtSpec.pre6 enc Try.prog Try.f8 Rows.fnExactLoadAtRow.domain false) (Rows.fnExactLoadAtSpec.post enc Try.prog Try.f8 false true false false) := by
  refine returnsInHanded_of_change (C := Try.checked) own started (by kernel_rfl) Try.func8
    (ChangeSpec.witness6 (enc := enc) (C := Try.checked) false ⟨#[], #[.agg #[.int .i64 0, .int .i64 0, .int .i64 0], .agg #[.int .i64 0, .int .i64 0]], []⟩ 8 (by kernel_rfl) (by kernel_rfl) (by kernel_rfl) (by kernel_rfl)) ?_
  intro W base args ds gs before hval hW _ _
  obtain ⟨p, q, hA0, hV, rfl, _, _⟩ := id hW
  have hA : DataW.TrodAll enc Try.prog W 0 (fun _ => true) true Try.f8.params.toList args.toList ds p := hA0
  rw [Try.params8] at hA hval
  obtain ⟨v0, vs0, d0, ds0, p0, q0, hargs, rfl, rfl, h0, r0⟩ := trodAll_cons hA
  obtain ⟨v1, vs1, d1, ds1, p1, q1, rfl, rfl, rfl, h1, r1⟩ := trodAll_cons r0
  obtain ⟨rfl, rfl, rfl⟩ := trodAll_nil r1
  obtain rfl : args = #[v0, v1] := by cases args; simp_all
  obtain ⟨rfl, rfl⟩ := trodVars_none hV
  obtain ⟨c0_0, c0_1, c0_2, y0_0, y0_1, y0_2, m0, rfl, rfl, rfl, z0_0, z0_1, z0_2⟩ := open_agg3 Try.underlying24 (by kernel_rfl) (by kernel_rfl) (hval 0 24 v0 rfl rfl) h0
  obtain ⟨a0_0, e0_0, rfl, w0_0⟩ := DataW.trod_int Try.underlying3 z0_0
  obtain rfl : c0_0 = .int .i64 a0_0 := by simpa using e0_0
  obtain ⟨a0_1, e0_1, rfl, w0_1⟩ := DataW.trod_int Try.underlying3 z0_1
  obtain rfl : c0_1 = .int .i64 a0_1 := by simpa using e0_1
  obtain ⟨a0_2, e0_2, rfl, w0_2⟩ := DataW.trod_int Try.underlying3 z0_2
  obtain rfl : c0_2 = .int .i64 a0_2 := by simpa using e0_2
  obtain ⟨c1_0, c1_1, y1_0, y1_1, m1, rfl, rfl, rfl, z1_0, z1_1⟩ := open_agg2 Try.underlying32 (by kernel_rfl) (by kernel_rfl) (hval 1 32 v1 rfl rfl) h1
  obtain ⟨a1_0, e1_0, rfl, w1_0⟩ := DataW.trod_int Try.underlying3 z1_0
  obtain rfl : c1_0 = .int .i64 a1_0 := by simpa using e1_0
  obtain ⟨a1_1, e1_1, rfl, w1_1⟩ := DataW.trod_int Try.underlying3 z1_1
  obtain rfl : c1_1 = .int .i64 a1_1 := by simpa using e1_1
  refine (walk a0_0 a0_1 a0_2 a1_0 a1_1 W (i64_wf w0_0) (i64_wf w0_1) (i64_wf w0_2) (i64_wf w1_0) (i64_wf w1_1)).mono fun e W' ⟨he, hb⟩ => ⟨_, he, law_post laidOut (by kernel_rfl) rfl hW hb rfl rfl rfl (by kernel_rfl) (B := 4) Try.underlying4⟩
theorem proved : Rows.FnExactLoadAtSaid :=
  OpenClaim.holds_of_wide 8 Try.f8 rfl rfl rfl rfl rfl rfl rfl ⟨rfl, rfl, rfl, rfl, rfl⟩ rfl rfl rfl rfl rfl (by kernel_rfl) Try.func8 (by kernel_rfl)
    (of_decide_eq_true (by kernel_rfl)) (by unfold Func.isWrapper; rw [if_neg (of_decide_eq_false (by kernel_rfl))]; exact ⟨rfl, rfl⟩)
    (fun os started H enc _ => lifted os started H enc)
#print axioms proved
end loadAt
end Go.Proofs.Ytamhdjbhoafbhaa
