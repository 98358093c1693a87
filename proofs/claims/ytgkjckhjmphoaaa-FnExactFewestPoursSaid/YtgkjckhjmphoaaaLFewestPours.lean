/- The program's FewestPours returns what the reference's returns, for all arguments. No condition. -/
import Derived.Test.YtgkjckhjmphoaaaJgX
import Derived.Test.YtgkjckhjmphoaaaJgL
set_option linter.unusedVariables false
namespace Go.Proofs.Ytgkjckhjmphoaaa
open Go.ChangeShapes Go.WideShapes Go.ChangeAt Go.RowKit Go.Joins Go.Deep
namespace fewestPours
set_option maxHeartbeats 1600000 in
theorem walk (b0 : Int) (b1 : Int) (b2 : Int) (w : World) (i0 : I64 b0) (i1 : I64 b1) (i2 : I64 b2) :
    Calls Try.prog 6 #[.int .i64 b0, .int .i64 b1, .int .i64 b2] w fun e w' => e = .returned (.bool true) ∧ Below w.heap.size w w' := by
  have I0 := Lib.hid i0
  clear i0
  have I1 := Lib.hid i1
  clear i1
  have I2 := Lib.hid i2
  clear i2
  have hlen : (few b0 b1 b2).length ≤ 1048576 := Nat.le_trans (few_len b0 b1 b2) (by omega)
  obtain ⟨R, hR⟩ : ∃ R, R = few b0 b1 b2 := ⟨_, rfl⟩
  rw [← hR] at hlen
  have HR := Lib.hid hR
  clear hR
  obtain ⟨Z, hZ⟩ : ∃ Z, Z = fewOk b0 b1 b2 := ⟨_, rfl⟩
  have HZ := Lib.hid hZ
  clear hZ
  have SC : ∀ (A : Option Addr) (c : Nat) (W : World),  Calls Try.prog 19 #[.int .i64 b0, .int .i64 b1, .int .i64 b2] W fun e w' => ∃ v, e = .returned (.tuple #[v, .bool Z]) ∧ OwI W.heap.size w' v R ∧ Kp W w' := by
    intro A c W
    rw [HR.out, HZ.out]
    exact sFew_any  b0 b1 b2 W
  have MC : ∀ (A : Option Addr) (c : Nat) (W : World),  Calls Try.prog 20 #[.int .i64 b0, .int .i64 b1, .int .i64 b2] W fun e w' => ∃ v, e = .returned (.tuple #[v, .bool Z]) ∧ OwI W.heap.size w' v R ∧ Kp W w' := by
    intro A c W
    rw [HR.out, HZ.out]
    exact iFew_any  b0 b1 b2 W
  have HSC := Lib.hid SC
  have HMC := Lib.hid MC
  clear SC MC
  have HZZ : (Z != Z) = false := by cases Z <;> rfl
  go_enter Try.func6, Try.ntmps6
  go_wp2_with fail
  refine (HSC.out none 0 _).mono ?_
  rintro e w2 ⟨v2, rfl, ho2, hk2⟩
  obtain ⟨A2, c2, rfl, hr2⟩ := ho2.rd
  have K2 := hk2
  go_wp2_with fail
  refine (HMC.out none 0 _).mono ?_
  rintro e w4 ⟨v4, rfl, ho4, hk4⟩
  obtain ⟨A4, c4, rfl, hr4⟩ := ho4.rd
  have K4 := K2.trans hk4
  go_wp2_with fail
  refine (eqIntS_same _ _ _ _ _ R _ rfl hlen hr4 (hr2.kp hk4)).mono ?_
  rintro e w5 ⟨rfl, hk5⟩
  have K5 := K4.trans hk5
  have K9 := K5
  have p4 := ho4.kp hk5
  have p2 := ho2.kp (hk4.trans hk5)
  go_wp2_with fail
  refine (markIntS_any _ R _ _ _ p4 hlen (by omega)).mono ?_
  rintro e wa ⟨rfl, oa, hga⟩
  have Ka := K9.grown hga (fun g e => by have := (p4.lt g e).1; have := K2.size; omega)
  have q2 := p2.far hga (OwI.apart (w2 := wa) ho2 ho4 (Nat.le_refl _))
  obtain ⟨Aa, ca, ea, hra⟩ := oa.rd
  rw [marksI_length] at hra ea
  cases ea
  go_wp2_with fail
  refine (heldIntS_any _ _ _ _ _ hlen (by omega) hra).mono ?_
  rintro e wb ⟨rfl, hkb⟩
  have Kb := Ka.trans hkb
  have Kc := Kb
  have kac := hkb
  go_wp2_with fail
  refine (HMC.out none 0 _).mono ?_
  rintro e wd ⟨vd, rfl, hod, hkd⟩
  obtain ⟨Ad, cd, rfl, hrd⟩ := hod.rd
  have Kd := Kc.trans hkd
  go_wp2_with fail
  obtain ⟨A2b, c2b, e2b, hr2b⟩ := q2.rd
  cases e2b
  refine (eqIntS_same _ _ _ _ _ R _ rfl hlen hrd (hr2b.kp (kac.trans hkd))).mono ?_
  rintro e we ⟨rfl, hke⟩
  have Ke := Kd.trans hke
  go_wp2_with fail
  refine (heldIntS_any _ _ _ _ _ hlen (by omega) (hra.kp (kac.trans (hkd.trans hke)))).mono ?_
  rintro e wf ⟨rfl, hkf⟩
  go_wp2_with fail
  go_ret
  exact ⟨rfl, Ke.trans hkf⟩
set_option maxRecDepth 100000 in
theorem lifted (os : Os) (started : os.Started) (H : Type) (enc : TypeId × Value → H) :
    ReturnsInHanded {} Try.checked os 6 .any (Rows.fnExactFewestPoursSpec.pre6 enc Try.prog Try.f6 Rows.fnExactFewestPoursRow.domain false) (Rows.fnExactFewestPoursSpec.post enc Try.prog Try.f6 false true false false) := by
  refine returnsInHanded_of_change (C := Try.checked) own started (by kernel_rfl) Try.func6
    (ChangeSpec.witness6 (enc := enc) (C := Try.checked) false ⟨#[], #[.int .i64 0, .int .i64 0, .int .i64 0], []⟩ 8 (by kernel_rfl) (by kernel_rfl) (by kernel_rfl) (by kernel_rfl)) ?_
  intro W base args ds gs before hval hW _ _
  obtain ⟨p, q, hA0, hV, rfl, _, _⟩ := id hW
  have hA : DataW.TrodAll enc Try.prog W 0 (fun _ => true) true Try.f6.params.toList args.toList ds p := hA0
  rw [Try.params6] at hA hval
  obtain ⟨v0, vs0, d0, ds0, p0, q0, hargs, rfl, rfl, h0, r0⟩ := trodAll_cons hA
  obtain ⟨v1, vs1, d1, ds1, p1, q1, rfl, rfl, rfl, h1, r1⟩ := trodAll_cons r0
  obtain ⟨v2, vs2, d2, ds2, p2, q2, rfl, rfl, rfl, h2, r2⟩ := trodAll_cons r1
  obtain ⟨rfl, rfl, rfl⟩ := trodAll_nil r2
  obtain rfl : args = #[v0, v1, v2] := by cases args; simp_all
  obtain ⟨rfl, rfl⟩ := trodVars_none hV
  obtain ⟨a0, rfl, rfl, rfl, w0⟩ := open_int Try.underlying3 (hval 0 3 v0 rfl rfl) h0
  obtain ⟨a1, rfl, rfl, rfl, w1⟩ := open_int Try.underlying3 (hval 1 3 v1 rfl rfl) h1
  obtain ⟨a2, rfl, rfl, rfl, w2⟩ := open_int Try.underlying3 (hval 2 3 v2 rfl rfl) h2
  refine (walk a0 a1 a2 W (i64_wf w0) (i64_wf w1) (i64_wf w2)).mono fun e W' ⟨he, hb⟩ => ⟨_, he, law_post laidOut (by kernel_rfl) rfl hW hb rfl rfl rfl (by kernel_rfl) (B := 4) Try.underlying4⟩
theorem proved : Rows.FnExactFewestPoursSaid :=
  OpenClaim.holds_of_wide 6 Try.f6 rfl rfl rfl rfl rfl rfl rfl ⟨rfl, rfl, rfl, rfl, rfl⟩ rfl rfl rfl rfl rfl (by kernel_rfl) Try.func6 (by kernel_rfl)
    (of_decide_eq_true (by kernel_rfl)) (by unfold Func.isWrapper; rw [if_neg (of_decide_eq_false (by kernel_rfl))]; exact ⟨rfl, rfl⟩)
    (fun os started H enc _ => lifted os started H enc)
#print axioms proved
end fewestPours
end Go.Proofs.Ytgkjckhjmphoaaa
