/- The program's MarksOf returns what the reference's returns, for all arguments. No condition. -/
import Derived.Test.YtamhdjbhoafbhaaMarksC
set_option linter.unusedVariables false
namespace Go.Proofs.Ytamhdjbhoafbhaa
open Go.ChangeShapes Go.WideShapes Go.ChangeAt Go.RowKit Go.Joins Go.Deep
namespace marksOf
def B3 (w : World) (b : Nat) (p s e : Int) : Prop := w.cell? ⟨b, 0, none⟩ = some (.int .i64 p) ∧ w.cell? ⟨b, 1, none⟩ = some (.int .i64 s) ∧ w.cell? ⟨b, 2, none⟩ = some (.int .i64 e)
theorem B3.kp {w W : World} {b : Nat} {p s e : Int} (h : B3 w b p s e) (hk : Kp w W) : B3 W b p s e := ⟨hk.at1 h.1, hk.at1 h.2.1, hk.at1 h.2.2⟩
set_option maxHeartbeats 6400000 in
theorem walk (p s e u n : Int) (w : World) (_ : I64 p) (_ : I64 s) (_ : I64 e) (_ : I64 u) (_ : I64 n) :
    Calls Try.prog 9 #[.agg #[.int .i64 p, .int .i64 s, .int .i64 e], .int .i64 u, .int .i64 n] w fun x w' => x = .returned (.bool true) ∧ Below w.heap.size w w' := by
  have hlen := mksL_length p s e u n
  have SC := sMarksOf_any p s e u n
  have MC := iMarksOf_any p s e u n
  obtain ⟨R, hR⟩ : ∃ R, R = mksL p s e u n := ⟨_, rfl⟩
  rw [← hR] at hlen
  simp only [← hR] at SC MC
  have HSC := Lib.hid SC
  have HMC := Lib.hid MC
  clear hR SC MC
  go_enter Try.func9, Try.ntmps9
  have kA : Kp w (w.alloc (.cells #[.int .i64 p, .int .i64 s, .int .i64 e] 24)) := (Kp.refl w).alloc _
  have bA : B3 (w.alloc (.cells #[.int .i64 p, .int .i64 s, .int .i64 e] 24)) w.heap.size p s e := ⟨by simp [go_sem], by simp [go_sem], by simp [go_sem]⟩
  have HKA := Lib.hid kA
  have HBA := Lib.hid bA
  clear kA bA
  go_wp2_with fail
  refine (toSteelyard_any _ _ _ _).mono ?_
  rintro x w1 ⟨rfl, hk1⟩
  have K1 := Lib.hid (HKA.out.trans hk1)
  have B1 := Lib.hid (HBA.out.kp hk1)
  clear hk1
  go_wp2_with fail
  refine (HSC.out _).mono ?_
  rintro x w2 ⟨v2, rfl, ho2, hk2⟩
  obtain ⟨A2, c2, rfl, hr2⟩ := ho2.rd
  have K2 := Lib.hid (K1.out.trans hk2)
  have B2 := B1.out.kp hk2
  obtain ⟨x0, x1, x2⟩ := id B2
  have HB2 := Lib.hid B2
  have HO2 := Lib.hid ho2
  have HR2 := Lib.hid hr2
  have hz2 := hk2.size
  clear B2 ho2 hr2 hk2
  go_wp2_with fail
  refine (toSteelyard_any _ _ _ _).mono ?_
  rintro x w3 ⟨rfl, hk3⟩
  have K3 := Lib.hid (K2.out.trans hk3)
  have B3' := Lib.hid (HB2.out.kp hk3)
  have HO3 := Lib.hid (HO2.out.kp hk3)
  have HR3 := Lib.hid (RdP.kp HR2.out hk3)
  have hz3 := hk3.size
  clear x0 x1 x2 hk3
  go_wp2_with fail
  refine (HMC.out _).mono ?_
  rintro x w4 ⟨v4, rfl, ho4, hk4⟩
  obtain ⟨A4, c4, rfl, hr4⟩ := ho4.rd
  have K4 := Lib.hid (K3.out.trans hk4)
  have B4 := Lib.hid (B3'.out.kp hk4)
  have O2 := Lib.hid (HO3.out.kp hk4)
  have O4 := Lib.hid ho4
  have R2 := Lib.hid (RdP.kp HR3.out hk4)
  have R4 := Lib.hid hr4
  clear ho4 hr4 hk4
  go_wp2_with fail
  refine (eqFractionS_same _ _ _ _ _ R _ rfl hlen R4.out R2.out).mono ?_
  rintro x w5 ⟨rfl, hk5⟩
  have K5 := Lib.hid (K4.out.trans hk5)
  have B5 := Lib.hid (B4.out.kp hk5)
  have P2 := Lib.hid (O2.out.kp hk5)
  have P4 := Lib.hid (O4.out.kp hk5)
  clear hk5
  go_wp2_with fail
  refine (markFractionS_any _ R _ _ _ P4.out hlen (by omega)).mono ?_
  rintro x w6 ⟨Lm, rfl, hlm, hmk, oa, hga⟩
  have hz4 := K3.out.size
  have K6 := Lib.hid (K5.out.grown hga (fun g e => by have := (P4.out.lt g e).1; omega))
  have Q2 := Lib.hid (P2.out.far hga (OwP.apart (w2 := w6) HO2.out O4.out hz3))
  obtain ⟨Aa, ca, ea, hra⟩ := oa.rd
  rw [hlm] at hra ea
  cases ea
  have B6 : B3 w6 w.heap.size p s e := by
    have hb := B5.out
    have hz1 := K1.out.size
    have hsz : w.heap.size < w3.heap.size := cell_lt (B3'.out).1
    have hne : ∀ k, (Value.slice A4 R.length c4).ownBlock = some k → w.heap.size ≠ k := fun k e => by have := (P4.out.lt k e).1; omega
    exact ⟨cell_grown hga hne hb.1, cell_grown hga hne hb.2.1, cell_grown hga hne hb.2.2⟩
  have HB6 := Lib.hid B6
  have HMK := Lib.hid hmk
  have HRA := Lib.hid hra
  clear B6 hmk hra oa hga
  go_wp2_with fail
  refine (heldFractionS_any _ _ _ Lm _ _ hlm hlen (by omega) HMK.out HRA.out).mono ?_
  rintro x w7 ⟨rfl, hk7⟩
  have K7 := Lib.hid (K6.out.trans hk7)
  obtain ⟨x0, x1, x2⟩ := HB6.out.kp hk7
  have HRA7 := Lib.hid (RdP.kp HRA.out hk7)
  have Q27 := Lib.hid (Q2.out.kp hk7)
  clear hk7
  go_wp2_with fail
  refine (toSteelyard_any _ _ _ _).mono ?_
  rintro x w8 ⟨rfl, hk8⟩
  have K8 := Lib.hid (K7.out.trans hk8)
  have HRA8 := Lib.hid (RdP.kp HRA7.out hk8)
  have Q28 := Lib.hid (Q27.out.kp hk8)
  clear hk8 x0 x1 x2
  go_wp2_with fail
  refine (HMC.out _).mono ?_
  rintro x w9 ⟨v9, rfl, ho9, hk9⟩
  obtain ⟨A9, c9, rfl, hr9⟩ := ho9.rd
  have K9 := Lib.hid (K8.out.trans hk9)
  have HRA9 := Lib.hid (RdP.kp HRA8.out hk9)
  obtain ⟨A2b, c2b, e2b, hr2b⟩ := (Q28.out.kp hk9).rd
  cases e2b
  have R9 := Lib.hid hr9
  have R29 := Lib.hid hr2b
  clear ho9 hr9 hr2b hk9
  go_wp2_with fail
  refine (eqFractionS_same _ _ _ _ _ R _ rfl hlen R9.out R29.out).mono ?_
  rintro x w10 ⟨rfl, hk10⟩
  have K10 := Lib.hid (K9.out.trans hk10)
  have HRA10 := Lib.hid (RdP.kp HRA9.out hk10)
  clear hk10
  go_wp2_with fail
  refine (heldFractionS_any _ _ _ Lm _ _ hlm hlen (by omega) HMK.out HRA10.out).mono ?_
  rintro x w11 ⟨rfl, hk11⟩
  go_wp2_with fail
  go_ret
  exact ⟨rfl, K10.out.trans hk11⟩
set_option maxRecDepth 100000 in
theorem lifted (os : Os) (started : os.Started) (H : Type) (enc : TypeId × Value → H) :
    ReturnsInHanded {} Try.checked os 9 .any (Rows.fnExactMarksOfSpec.pre6 enc Try.prog Try.f9 Rows.fnExactMarksOfRow.domain false) (Rows.fnExactMarksOfSpec.post enc Try.prog Try.f9 false true false false) := by
  refine returnsInHanded_of_change (C := Try.checked) own started (by kernel_rfl) Try.func9
    (ChangeSpec.witness6 (enc := enc) (C := Try.checked) false ⟨#[], #[.agg #[.int .i64 0, .int .i64 0, .int .i64 0], .int .i64 0, .int .i64 0], []⟩ 8 (by kernel_rfl) (by kernel_rfl) (by kernel_rfl) (by kernel_rfl)) ?_
  intro W base args ds gs before hval hW _ _
  obtain ⟨p, q, hA0, hV, rfl, _, _⟩ := id hW
  have hA : DataW.TrodAll enc Try.prog W 0 (fun _ => true) true Try.f9.params.toList args.toList ds p := hA0
  rw [Try.params9] at hA hval
  obtain ⟨v0, vs0, d0, ds0, p0, q0, hargs, rfl, rfl, h0, r0⟩ := trodAll_cons hA
  obtain ⟨v1, vs1, d1, ds1, p1, q1, rfl, rfl, rfl, h1, r1⟩ := trodAll_cons r0
  obtain ⟨v2, vs2, d2, ds2, p2, q2, rfl, rfl, rfl, h2, r2⟩ := trodAll_cons r1
  obtain ⟨rfl, rfl, rfl⟩ := trodAll_nil r2
  obtain rfl : args = #[v0, v1, v2] := by cases args; simp_all
  obtain ⟨rfl, rfl⟩ := trodVars_none hV
  obtain ⟨c0_0, c0_1, c0_2, y0_0, y0_1, y0_2, m0, rfl, rfl, rfl, z0_0, z0_1, z0_2⟩ := open_agg3 Try.underlying24 (by kernel_rfl) (by kernel_rfl) (hval 0 24 v0 rfl rfl) h0
  obtain ⟨a0_0, e0_0, rfl, w0_0⟩ := DataW.trod_int Try.underlying3 z0_0
  obtain rfl : c0_0 = .int .i64 a0_0 := by simpa using e0_0
  obtain ⟨a0_1, e0_1, rfl, w0_1⟩ := DataW.trod_int Try.underlying3 z0_1
  obtain rfl : c0_1 = .int .i64 a0_1 := by simpa using e0_1
  obtain ⟨a0_2, e0_2, rfl, w0_2⟩ := DataW.trod_int Try.underlying3 z0_2
  obtain rfl : c0_2 = .int .i64 a0_2 := by simpa using e0_2
  obtain ⟨a1, rfl, rfl, rfl, w1⟩ := open_int Try.underlying3 (hval 1 3 v1 rfl rfl) h1
  obtain ⟨a2, rfl, rfl, rfl, w2⟩ := open_int Try.underlying3 (hval 2 3 v2 rfl rfl) h2
  refine (walk a0_0 a0_1 a0_2 a1 a2 W (i64_wf w0_0) (i64_wf w0_1) (i64_wf w0_2) (i64_wf w1) (i64_wf w2)).mono fun e W' ⟨he, hb⟩ => ⟨_, he, law_post laidOut (by kernel_rfl) rfl hW hb rfl rfl rfl (by kernel_rfl) (B := 4) Try.underlying4⟩
theorem proved : Rows.FnExactMarksOfSaid :=
  OpenClaim.holds_of_wide 9 Try.f9 rfl rfl rfl rfl rfl rfl rfl ⟨rfl, rfl, rfl, rfl, rfl⟩ rfl rfl rfl rfl rfl (by kernel_rfl) Try.func9 (by kernel_rfl)
    (of_decide_eq_true (by kernel_rfl)) (by unfold Func.isWrapper; rw [if_neg (of_decide_eq_false (by kernel_rfl))]; exact ⟨rfl, rfl⟩)
    (fun os started H enc _ => lifted os started H enc)
#print axioms proved
end marksOf
end Go.Proofs.Ytamhdjbhoafbhaa
