/- The program's PourAll returns what the reference's returns, for all arguments. No condition. -/
import Derived.Test.YtgkjckhjmphoaaaClose
import Derived.Test.YtgkjckhjmphoaaaPourS
set_option linter.unusedVariables false
namespace Go.Proofs.Ytgkjckhjmphoaaa
open Go.ChangeShapes Go.WideShapes Go.ChangeAt Go.RowKit Go.Joins Go.Deep
namespace pourAll
set_option maxHeartbeats 6400000 in
theorem walk (f s a b : Int) (A : Option Addr) (n c : Nat) (xs : List Int) (w : World) (_ : I64 f) (_ : I64 s) (_ : I64 a) (_ : I64 b) (hl : xs.length = n) (_ : n ≤ 9223372036854775807) (hr : Reads w w.heap.size 1 A n (xs.map (.int .i64))) (_ : ∀ x ∈ xs, I64 x) :
    Calls Try.prog 5 #[.agg #[.int .i64 f, .int .i64 s, .int .i64 a, .int .i64 b], .slice A n c] w fun e w' => e = .returned (.bool true) ∧ Below w.heap.size w w' := by
  by_cases hbig : (1048576 : Int) < (n : Int)
  · go_enter Try.func5, Try.ntmps5
    go_wp2_with fail
    go_ret
    exact ⟨rfl, (Kp.refl w).alloc _⟩
  · have hn : n ≤ 1048576 := by omega
    subst hl
    have HS := fun A c W hr => specPourAll_any f s a b A xs.length c xs W rfl hn hr
    have HI := fun A c W hr => implPourAll_any f s a b A xs.length c xs W rfl hn hr
    obtain ⟨T, hT⟩ : ∃ z, z = paA f s a b xs := ⟨_, rfl⟩
    obtain ⟨U, hU⟩ : ∃ z, z = paB f s a b xs := ⟨_, rfl⟩
    obtain ⟨B, hB⟩ : ∃ z, z = paOk f s a b xs := ⟨_, rfl⟩
    simp only [← hT, ← hU, ← hB] at HS HI
    clear hT hU hB
    have HS := Lib.hid HS
    have HI := Lib.hid HI
    have HR := Lib.hid hr
    clear hr
    have J0 := Lib.hid (Jg.fresh w f s a b 23)
    have K0 := Lib.hid (show Kp w (w.alloc (.cells #[.int .i64 f, .int .i64 s, .int .i64 a, .int .i64 b] 23)) from (Kp.refl w).alloc _)
    go_enter Try.func5, Try.ntmps5
    go_wp2_with fail
    refine (toJugs_any _ _ _ _ _).mono ?_
    rintro e w1 ⟨rfl, hk1⟩
    have K1 := Lib.hid (K0.out.trans hk1)
    have J1 := Lib.hid (J0.out.kp hk1)
    clear hk1
    go_wp2_with fail
    refine (toIntS_any _ _ _ xs _ rfl hn (HR.out.kp K1.out)).mono ?_
    rintro e w2 ⟨v2, rfl, ho2, hk2⟩
    obtain ⟨A2, c2, rfl, hr2⟩ := ho2.rd
    have K2 := Lib.hid (K1.out.trans hk2)
    have J2 := Lib.hid (J1.out.kp hk2)
    have R2 := Lib.hid hr2
    clear hk2 ho2 hr2
    go_wp2_with fail
    refine (HS.out _ _ _ R2.out).mono ?_
    rintro e w3 ⟨rfl, hk3⟩
    have K3 := Lib.hid ((K2.out.trans hk3).alloc (.cells #[.int .i64 f, .int .i64 s, .int .i64 T, .int .i64 U] 25))
    have J3 := Lib.hid ((J2.out.kp hk3).kp ((Kp.refl _).alloc (.cells #[.int .i64 f, .int .i64 s, .int .i64 T, .int .i64 U] 25)))
    have G3 := Lib.hid (Jg.fresh w3 f s T U 25)
    clear hk3
    go_wp2_with fail
    refine (toIntS_any _ _ _ xs _ rfl hn (HR.out.kp K3.out)).mono ?_
    rintro e w4 ⟨v4, rfl, ho4, hk4⟩
    obtain ⟨A4, c4, rfl, hr4⟩ := ho4.rd
    have K4 := Lib.hid (K3.out.trans hk4)
    have J4 := J3.out.kp hk4
    have G4 := Lib.hid (G3.out.kp hk4)
    have R4 := Lib.hid hr4
    obtain ⟨⟨x0, _⟩, ⟨x1, _⟩, ⟨x2, _⟩, ⟨x3, _⟩⟩ := J4
    clear hk4 ho4 hr4
    go_wp2_with fail
    refine (toJugs_any _ _ _ _ _).mono ?_
    rintro e w5 ⟨rfl, hk5⟩
    have K5 := Lib.hid (K4.out.trans hk5)
    have G5 := Lib.hid (G4.out.kp hk5)
    have R5 := Lib.hid (R4.out.kp hk5)
    clear hk5 x0 x1 x2 x3
    go_wp2_with fail
    refine (HI.out _ _ _ R5.out).mono ?_
    rintro e w6 ⟨rfl, hk6⟩
    have K6 := Lib.hid ((K5.out.trans hk6).alloc (.cells #[.int .i64 f, .int .i64 s, .int .i64 T, .int .i64 U] 25))
    have R6 := Lib.hid ((R5.out.kp hk6).alloc (Nat.le_refl _) (.cells #[.int .i64 f, .int .i64 s, .int .i64 T, .int .i64 U] 25))
    obtain ⟨⟨x0, _⟩, ⟨x1, _⟩, ⟨x2, _⟩, ⟨x3, _⟩⟩ := G5.out.kp hk6
    have zg : w3.heap.size < w6.heap.size := cell_lt x0
    clear hk6
    go_wp2_with fail
    refine (eqJugs_same _ _ _ _ _).mono ?_
    rintro e w7 ⟨rfl, hk7⟩
    have K7 := Lib.hid (K6.out.trans hk7)
    have R7 := Lib.hid ((R6.out.more (show w6.heap.size ≤ (w6.alloc (.cells #[.int .i64 f, .int .i64 s, .int .i64 T, .int .i64 U] 25)).heap.size by simp)).kp hk7)
    clear hk7 x0 x1 x2 x3
    go_wp2_with fail
    refine (toIntS_any _ _ _ xs _ rfl hn (HR.out.kp K7.out)).mono ?_
    rintro e w8 ⟨v8, rfl, ho8, hk8⟩
    obtain ⟨A8, c8, rfl, hr8⟩ := ho8.rd
    have K8 := Lib.hid (K7.out.trans hk8)
    have R8 := Lib.hid (R7.out.kp hk8)
    have S8 := Lib.hid hr8
    clear hk8 ho8 hr8
    go_wp2_with fail
    refine (eqIntS_same _ _ _ _ _ xs _ rfl hn R8.out S8.out).mono ?_
    rintro e w9 ⟨rfl, hk9⟩
    go_wp2_with fail
    go_ret
    exact ⟨rfl, K8.out.trans hk9⟩
set_option maxRecDepth 100000 in
theorem lifted (os : Os) (started : os.Started) (H : Type) (enc : TypeId × Value → H) :
    ReturnsInHanded {} Try.checked os 5 .any (Rows.fnExactPourAllSpec.pre6 enc Try.prog Try.f5 Rows.fnExactPourAllRow.domain false) (Rows.fnExactPourAllSpec.post enc Try.prog Try.f5 false true false false) := by
  refine returnsInHanded_of_change (C := Try.checked) own started (by kernel_rfl) Try.func5
    (ChangeSpec.witness6 (enc := enc) (C := Try.checked) false ⟨#[], #[.agg #[.int .i64 0, .int .i64 0, .int .i64 0, .int .i64 0], .slice none 0 0], []⟩ 8 (by kernel_rfl) (by kernel_rfl) (by kernel_rfl) (by kernel_rfl)) ?_
  intro W base args ds gs before hval hW _ _
  obtain ⟨p, q, hA0, hV, rfl, _, _⟩ := id hW
  have hA : DataW.TrodAll enc Try.prog W 0 (fun _ => true) true Try.f5.params.toList args.toList ds p := hA0
  rw [Try.params5] at hA hval
  obtain ⟨v0, vs0, d0, ds0, p0, q0, hargs, rfl, rfl, h0, r0⟩ := trodAll_cons hA
  obtain ⟨v1, vs1, d1, ds1, p1, q1, rfl, rfl, rfl, h1, r1⟩ := trodAll_cons r0
  obtain ⟨rfl, rfl, rfl⟩ := trodAll_nil r1
  obtain rfl : args = #[v0, v1] := by cases args; simp_all
  obtain ⟨rfl, rfl⟩ := trodVars_none hV
  obtain ⟨c0_0, c0_1, c0_2, c0_3, y0_0, y0_1, y0_2, y0_3, m0, rfl, rfl, rfl, z0_0, z0_1, z0_2, z0_3⟩ := open_agg4 Try.underlying23 (by kernel_rfl) (by kernel_rfl) (hval 0 23 v0 rfl rfl) h0
  obtain ⟨a0_0, e0_0, rfl, w0_0⟩ := DataW.trod_int Try.underlying3 z0_0
  obtain rfl : c0_0 = .int .i64 a0_0 := by simpa using e0_0
  obtain ⟨a0_1, e0_1, rfl, w0_1⟩ := DataW.trod_int Try.underlying3 z0_1
  obtain rfl : c0_1 = .int .i64 a0_1 := by simpa using e0_1
  obtain ⟨a0_2, e0_2, rfl, w0_2⟩ := DataW.trod_int Try.underlying3 z0_2
  obtain rfl : c0_2 = .int .i64 a0_2 := by simpa using e0_2
  obtain ⟨a0_3, e0_3, rfl, w0_3⟩ := DataW.trod_int Try.underlying3 z0_3
  obtain rfl : c0_3 = .int .i64 a0_3 := by simpa using e0_3
  obtain ⟨A1, n1, c1, x1, rfl, l1, b1, rd1, wx1⟩ := open_intlist Try.underlying32 Try.underlying3 (by kernel_rfl) (hval 1 32 v1 rfl rfl) h1
  refine (walk a0_0 a0_1 a0_2 a0_3 A1 n1 c1 x1 W (i64_wf w0_0) (i64_wf w0_1) (i64_wf w0_2) (i64_wf w0_3) l1 b1 rd1 (fun x h => i64_wf (wx1 x h))).mono fun e W' ⟨he, hb⟩ => ⟨_, he, law_post laidOut (by kernel_rfl) rfl hW hb rfl rfl rfl (by kernel_rfl) (B := 4) Try.underlying4⟩
theorem proved : Rows.FnExactPourAllSaid :=
  OpenClaim.holds_of_wide 5 Try.f5 rfl rfl rfl rfl rfl rfl rfl ⟨rfl, rfl, rfl, rfl, rfl⟩ rfl rfl rfl rfl rfl (by kernel_rfl) Try.func5 (by kernel_rfl)
    (of_decide_eq_true (by kernel_rfl)) (by unfold Func.isWrapper; rw [if_neg (of_decide_eq_false (by kernel_rfl))]; exact ⟨rfl, rfl⟩)
    (fun os started H enc _ => lifted os started H enc)
#print axioms proved
end pourAll
end Go.Proofs.Ytgkjckhjmphoaaa
