/- The program's CountParts returns what the reference's returns, for all arguments. No condition. -/
import Derived.Test.YtajdppfngnpklaaCntP
set_option linter.unusedVariables false
namespace Go.Proofs.Ytajdppfngnpklaa
open Go.ChangeShapes Go.WideShapes Go.ChangeAt Go.RowKit Go.Joins Go.Deep
namespace countParts
theorem walk (A : Option Addr) (n c : Nat) (xs : List Pt) (w : World) (hl : xs.length = n) (_ : n ≤ 9223372036854775807) (hr : RdP w A n xs) :
    Calls Try.prog 4 #[.slice A n c] w fun e w' => e = .returned (.bool true) ∧ Below w.heap.size w w' := by
  by_cases hbig : (1048576 : Int) < (n : Int)
  · go_enter Try.func4, Try.ntmps4
    go_wp2_with fail
    refine (szPartS_any _ _ _ _ _ (by omega) (by omega)).mono ?_
    rintro e w0 ⟨rfl, hk0⟩
    rw [if_pos hbig]
    go_wp2_with fail
    go_ret
    exact ⟨rfl, hk0⟩
  · have hn : n ≤ 1048576 := by omega
    have z0 : (0 : Int) ≤ 1048576 - (n : Int) := by omega
    subst hl
    go_enter Try.func4, Try.ntmps4
    go_wp2_with fail
    refine (szPartS_any _ _ _ _ _ (by omega) (by omega)).mono ?_
    rintro e w0 ⟨rfl, hk0⟩
    rw [if_neg (show ¬ ((1048576 : Int) < (xs.length : Int)) by omega)]
    go_wp2_with fail
    refine (toPartS_any _ _ _ xs _ rfl hn (hr.kp hk0)).mono ?_
    rintro e w1 ⟨v1, rfl, ho1, hk1'⟩
    have hk1 := hk0.trans hk1'
    obtain ⟨A1, c1, rfl, hr1⟩ := ho1.rd
    go_wp2_with fail
    refine (sCountParts_any _ _ _ xs  _ rfl hn hr1).mono ?_
    rintro e w2 ⟨rfl, hm2⟩
    have hk2 := hk1.trans hm2
    go_wp2_with fail
    refine (toPartS_any _ _ _ xs _ rfl hn (hr.kp hk2)).mono ?_
    rintro e w3 ⟨v3, rfl, ho3, hk3⟩
    obtain ⟨A3, c3, rfl, hr3⟩ := ho3.rd
    go_wp2_with fail
    refine (iCountParts_any _ _ _ xs  _ rfl hn hr3).mono ?_
    rintro e w4 ⟨rfl, hk34⟩
    have hk4 := (hk2.trans hk3).trans hk34
    have hr4 := hr3.kp hk34
    go_wp2_with fail
    refine (toPartS_any _ _ _ xs _ rfl hn (hr.kp hk4)).mono ?_
    rintro e w5 ⟨v5, rfl, ho5, hk5⟩
    obtain ⟨A5, c5, rfl, hr5⟩ := ho5.rd
    go_wp2_with fail
    refine (eqPartS_same _ _ _ _ _ xs _ rfl hn (hr4.kp hk5) hr5).mono ?_
    rintro e w6 ⟨rfl, hk6⟩
    go_wp2_with fail
    go_ret
    exact ⟨rfl, (hk4.trans hk5).trans hk6⟩
set_option maxRecDepth 100000 in
theorem lifted (os : Os) (started : os.Started) (H : Type) (enc : TypeId × Value → H) :
    ReturnsInHanded {} Try.checked os 4 .any (Rows.fnExactCountPartsSpec.pre6 enc Try.prog Try.f4 Rows.fnExactCountPartsRow.domain false) (Rows.fnExactCountPartsSpec.post enc Try.prog Try.f4 false true false false) := by
  refine returnsInHanded_of_change (C := Try.checked) own started (by kernel_rfl) Try.func4
    (ChangeSpec.witness6 (enc := enc) (C := Try.checked) false ⟨#[], #[.slice none 0 0], []⟩ 8 (by kernel_rfl) (by kernel_rfl) (by kernel_rfl) (by kernel_rfl)) ?_
  intro W base args ds gs before hval hW _ _
  obtain ⟨p, q, hA0, hV, rfl, _, _⟩ := id hW
  have hA : DataW.TrodAll enc Try.prog W 0 (fun _ => true) true Try.f4.params.toList args.toList ds p := hA0
  rw [Try.params4] at hA hval
  obtain ⟨v0, vs0, d0, ds0, p0, q0, hargs, rfl, rfl, h0, r0⟩ := trodAll_cons hA
  obtain ⟨rfl, rfl, rfl⟩ := trodAll_nil r0
  obtain rfl : args = #[v0] := by cases args; simp_all
  obtain ⟨rfl, rfl⟩ := trodVars_none hV
  obtain ⟨A0, n0, c0, x0, rfl, l0, b0, rd0⟩ := open_partlist Try.underlying22 Try.underlying44 (by kernel_rfl) ⟨by kernel_rfl, by kernel_rfl, by kernel_rfl, by kernel_rfl, by kernel_rfl⟩ ⟨by kernel_rfl, by kernel_rfl, by kernel_rfl, by kernel_rfl, by kernel_rfl⟩ (by kernel_rfl) (by kernel_rfl) (by kernel_rfl) (by kernel_rfl) (by kernel_rfl) (hval 0 22 v0 rfl rfl) h0
  refine (walk A0 n0 c0 x0 W l0 b0 rd0).mono fun e W' ⟨he, hb⟩ => ⟨_, he, law_post laidOut (by kernel_rfl) rfl hW hb rfl rfl rfl (by kernel_rfl) (B := 4) Try.underlying4⟩
theorem proved : Rows.FnExactCountPartsSaid :=
  OpenClaim.holds_of_wide 4 Try.f4 rfl rfl rfl rfl rfl rfl rfl ⟨rfl, rfl, rfl, rfl, rfl⟩ rfl rfl rfl rfl rfl (by kernel_rfl) Try.func4 (by kernel_rfl)
    (of_decide_eq_true (by kernel_rfl)) (by unfold Func.isWrapper; rw [if_neg (of_decide_eq_false (by kernel_rfl))]; exact ⟨rfl, rfl⟩)
    (fun os started H enc _ => lifted os started H enc)
#print axioms proved
end countParts
end Go.Proofs.Ytajdppfngnpklaa
