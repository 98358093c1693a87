/- FnJugs answers true at every input. No condition. -/
import Derived.Test.YtgkjckhjmphoaaaLCanMeasure
import Derived.Test.YtgkjckhjmphoaaaJgJ
import Derived.Test.YtgkjckhjmphoaaaJgA
set_option linter.unusedVariables false
namespace Go.Proofs.Ytgkjckhjmphoaaa
open Go.ChangeShapes Go.WideShapes Go.ChangeAt Go.RowKit Go.Joins Go.Deep
namespace fnJugs
set_option maxRecDepth 20000 in
set_option maxHeartbeats 12800000 in
theorem walk (A : Option Addr) (n c : Nat) (xs : List Int) (w : World) (hl : xs.length = n) (_ : n ≤ 9223372036854775807) (hr : Reads w w.heap.size 1 A n (xs.map (.int .u8))) (hx : ∀ x ∈ xs, 0 ≤ x ∧ x ≤ 255) :
    Calls Try.prog 8 #[.slice A n c] w fun x w' => x = .returned (.bool true) ∧ Below w.heap.size w w' := by
  have HR := Lib.hid hr
  have HX := Lib.hid hx
  have HL := Lib.hid hl
  clear hr hx hl
  by_cases hbig : (1048576 : Int) < (n : Int)
  · have t0 : decide ((1048576 : Int) < (n : Int)) = true := by simpa using hbig
    go_enter Try.func8, Try.ntmps8
    go_wp2_with (go_at_call 25; refine (big_any _ _ _ _).mono ?_; rintro e w' ⟨rfl, rfl⟩)
    go_ret
    exact ⟨rfl, Below.refl _ _⟩
  · have t0 : decide ((1048576 : Int) < (n : Int)) = false := by simpa using hbig
    have hn : n ≤ 1048576 := by omega
    clear hbig
    go_enter Try.func8, Try.ntmps8
    go_wp2_with (go_at_call 25; refine (big_any _ _ _ _).mono ?_; rintro e w' ⟨rfl, rfl⟩)
    refine (at_any A n c xs 0 _ (by omega) HL.out hn HR.out HX.out).mono ?_
    rintro e w1 ⟨x, rfl, x0, x1, hk1⟩
    have K1 := Lib.hid hk1
    have d1 : x.tmod 20 = x % 20 := Int.tmod_eq_emod_of_nonneg (by omega)
    obtain ⟨F, hF⟩ : ∃ F : Nat, (F : Int) = 1 + x % 20 := ⟨(1 + x % 20).toNat, by omega⟩
    have hFb : 1 ≤ F ∧ F ≤ 20 := by omega
    have hF' : 1 + x % 20 = (F : Int) := hF.symm
    clear hk1 hF
    go_wp2_with fail
    clear d1 hF'
    refine (at_any A n c xs 1 _ (by omega) HL.out hn (HR.out.kp K1.out) HX.out).mono ?_
    rintro e w2 ⟨y, rfl, y0, y1, hk2⟩
    have K2 := Lib.hid (K1.out.trans hk2)
    have d1 : y.tmod 20 = y % 20 := Int.tmod_eq_emod_of_nonneg (by omega)
    obtain ⟨S, hS⟩ : ∃ S : Nat, (S : Int) = 1 + y % 20 := ⟨(1 + y % 20).toNat, by omega⟩
    have hSb : 1 ≤ S ∧ S ≤ 20 := by omega
    have hS' : 1 + y % 20 = (S : Int) := hS.symm
    clear hk2 hS
    go_wp2_with fail
    clear d1 hS'
    refine (at_any A n c xs 2 _ (by omega) HL.out hn (HR.out.kp K2.out) HX.out).mono ?_
    rintro e w3 ⟨z, rfl, z0, z1, hk3⟩
    have K3 := Lib.hid (K2.out.trans hk3)
    have d1 : z.tmod 21 = z % 21 := Int.tmod_eq_emod_of_nonneg (by omega)
    obtain ⟨G, hG⟩ : ∃ G : Nat, (G : Int) = z % 21 := ⟨(z % 21).toNat, by omega⟩
    have hGb : G ≤ 20 := by omega
    rw [← hG] at d1
    clear hk3 hG
    go_wp2_with fail
    clear d1
    have hlaw := jugs_law hFb hSb hGb
    have hlen := few_len (F : Int) (S : Int) (G : Int)
    have hcan := iCan_any (F : Int) (S : Int) (G : Int)
    refine (iFew_any (F : Int) (S : Int) (G : Int) _).mono ?_
    obtain ⟨L, hL⟩ : ∃ L, L = few (F : Int) (S : Int) (G : Int) := ⟨_, rfl⟩
    obtain ⟨B, hB⟩ : ∃ B, B = fewOk (F : Int) (S : Int) (G : Int) := ⟨_, rfl⟩
    rw [← hL] at hlaw hlen ⊢
    rw [← hB] at hlaw hcan ⊢
    have HLAW := Lib.hid hlaw
    have HCAN := Lib.hid hcan
    rintro e w4 ⟨v, rfl, ho, hk4⟩
    have K4 := Lib.hid (K3.out.trans hk4)
    obtain ⟨Av, cv, rfl, hrd⟩ := ho.rd
    obtain ⟨len, hln⟩ : ∃ len, len = L.length := ⟨_, rfl⟩
    rw [← hln] at hrd hlen ⊢
    have HRD := Lib.hid hrd
    have HLN := Lib.hid hln
    clear hk4 ho hrd hL hB hlaw hcan hln
    go_wp2_with fail
    go_loopw [8, 9] (fun dv yv wr => ∃ D Y : Nat, dv = .int .i64 (D : Int) ∧ yv = .int .i64 (Y : Int) ∧ (1 ≤ D ∧ D ≤ 20) ∧ Y ≤ 20 ∧ Nat.gcd D Y = Nat.gcd F S ∧ Kp w4 wr) (fun _ yv _ => (intOf yv).toNat)
    case atStart => exact ⟨F, S, rfl, rfl, by omega, by omega, rfl, Kp.refl _⟩
    case round =>
      obtain ⟨D, Y, rfl, rfl, hD, hY, hgc, hkp⟩ := hrel
      rcases Nat.eq_zero_or_pos Y with h0 | h0
      · have hDg : Nat.gcd F S = D := by rw [← hgc, h0]; exact Nat.gcd_zero_right D
        have y0' : ¬ (0 : Int) < (Y : Int) := by omega
        have HKP := Lib.hid hkp
        have eD : (G : Int).tmod (D : Int) = ((G % D : Nat) : Int) := by rw [Int.tmod_eq_emod_of_nonneg (by omega)]; exact (Int.natCast_emod G D).symm
        have d0 : ((D : Int) == 0) = false := by simp; omega
        have d0n : ¬ D = 0 := by omega
        have hR := Nat.mod_lt G (show 0 < D by omega)
        have hmx : ((max F S : Nat) : Int) = max (F : Int) (S : Int) := by omega
        by_cases hFS : F < S
        all_goals (
          rcases HLAW.out with ⟨q1, q2, rfl, d, q3, q4, q5, q6, q7, q8⟩ | ⟨q1, rfl, q3⟩
          · rw [hDg] at q1
            rw [q1] at eD
            have hle : G ≤ (if F < S then S else F) := by split <;> omega
            first | rw [if_pos hFS] at hle | rw [if_neg hFS] at hle
            have hleI : (G : Int) ≤ _ := Int.ofNat_le.2 hle
            have q7' := okJ_lt q7
            obtain ⟨P, hP⟩ : ∃ P, P = ((ua d : Nat) : Int) := ⟨_, rfl⟩
            obtain ⟨Q, hQ⟩ : ∃ Q, Q = ((vb d : Nat) : Int) := ⟨_, rfl⟩
            have HJB := Lib.hid (show jugsB (F : Int) (S : Int) P Q = true by rw [hP, hQ]; exact q7)
            unfold Gl at q6
            unfold Edge at q8
            rw [← hP, ← hQ] at q6 q8
            rw [← hP] at q4
            rw [← hQ] at q5
            have HPA := Lib.hid (And.intro q3 (And.intro q4 q5))
            have hPb : 0 ≤ P ∧ P ≤ 20 := by omega
            have hQb : 0 ≤ Q ∧ Q ≤ 20 := by have := vb_le d; omega
            have Q6 := Lib.hid q6
            have Q8 := Lib.hid q8
            clear q1 q2 q3 q4 q5 q6 q7 q7' q8 hP hQ hgc hDg hR hmx h0 hkp
            go_wp2_with (go_at_call 24; refine (HCAN.out _).mono ?_; rintro e w5 ⟨rfl, hk5⟩)
            refine (implPourAll_any (F : Int) (S : Int) 0 0 Av len cv L _ HLN.out.symm (by omega) ((HRD.out.kp HKP.out).kp hk5)).mono ?_
            rw [HPA.out.1, HPA.out.2.1, HPA.out.2.2]
            rintro e w6 ⟨rfl, hk6⟩
            have K6 := Lib.hid (((K4.out.trans (HKP.out.trans hk5)).trans hk6).alloc (.cells #[.int .i64 (F : Int), .int .i64 (S : Int), .int .i64 P, .int .i64 Q] 25))
            have j2 : (w6.alloc (.cells #[.int .i64 (F : Int), .int .i64 (S : Int), .int .i64 P, .int .i64 Q] 25)).cell? ⟨w6.heap.size, 2, none⟩ = some (.int .i64 P) := by simp [go_sem]
            have j3 : (w6.alloc (.cells #[.int .i64 (F : Int), .int .i64 (S : Int), .int .i64 P, .int .i64 Q] 25)).cell? ⟨w6.heap.size, 3, none⟩ = some (.int .i64 Q) := by simp [go_sem]
            clear hk5 hk6
            by_cases g1 : P = (G : Int)
            · have t1 : (P == (G : Int)) = true := by simp [g1]
              clear g1
              by_cases e1 : P = 0
              · have u1 : (P == 0) = true := by simp [e1]
                clear e1
                go_wp2_with (go_at_call 11; refine (implJugsOk_any _ _ _ _ _).mono ?_; rw [HJB.out]; rintro e w9 ⟨rfl, hk9⟩; have j2 := hk9.at1 j2; have j3 := hk9.at1 j3)
                go_ret
                exact ⟨rfl, K6.out.trans hk9⟩
              · have u1 : (P == 0) = false := by simp [e1]
                by_cases e2 : P = (F : Int)
                · have u2 : (P == (F : Int)) = true := by simp [e2]
                  clear e1 e2
                  go_wp2_with (go_at_call 11; refine (implJugsOk_any _ _ _ _ _).mono ?_; rw [HJB.out]; rintro e w9 ⟨rfl, hk9⟩; have j2 := hk9.at1 j2; have j3 := hk9.at1 j3)
                  go_ret
                  exact ⟨rfl, K6.out.trans hk9⟩
                · have u2 : (P == (F : Int)) = false := by simp [e2]
                  by_cases e3 : Q = 0
                  · have u3 : (Q == 0) = true := by simp [e3]
                    clear e1 e2 e3
                    go_wp2_with (go_at_call 11; refine (implJugsOk_any _ _ _ _ _).mono ?_; rw [HJB.out]; rintro e w9 ⟨rfl, hk9⟩; have j2 := hk9.at1 j2; have j3 := hk9.at1 j3)
                    go_ret
                    exact ⟨rfl, K6.out.trans hk9⟩
                  · have u3 : (Q == 0) = false := by simp [e3]
                    have u4 : (Q == (S : Int)) = true := by rcases Q8.out with h | h | h | h; exact absurd h e1; exact absurd h e2; exact absurd h e3; simp [h]
                    clear e1 e2 e3
                    go_wp2_with (go_at_call 11; refine (implJugsOk_any _ _ _ _ _).mono ?_; rw [HJB.out]; rintro e w9 ⟨rfl, hk9⟩; have j2 := hk9.at1 j2; have j3 := hk9.at1 j3)
                    go_ret
                    exact ⟨rfl, K6.out.trans hk9⟩
            · have t1 : (P == (G : Int)) = false := by simp [g1]
              have t2 : (Q == (G : Int)) = true := by rcases Q6.out with h | h; exact absurd h g1; simp [h]
              clear g1
              by_cases e1 : P = 0
              · have u1 : (P == 0) = true := by simp [e1]
                clear e1
                go_wp2_with (go_at_call 11; refine (implJugsOk_any _ _ _ _ _).mono ?_; rw [HJB.out]; rintro e w9 ⟨rfl, hk9⟩; have j2 := hk9.at1 j2; have j3 := hk9.at1 j3)
                go_ret
                exact ⟨rfl, K6.out.trans hk9⟩
              · have u1 : (P == 0) = false := by simp [e1]
                by_cases e2 : P = (F : Int)
                · have u2 : (P == (F : Int)) = true := by simp [e2]
                  clear e1 e2
                  go_wp2_with (go_at_call 11; refine (implJugsOk_any _ _ _ _ _).mono ?_; rw [HJB.out]; rintro e w9 ⟨rfl, hk9⟩; have j2 := hk9.at1 j2; have j3 := hk9.at1 j3)
                  go_ret
                  exact ⟨rfl, K6.out.trans hk9⟩
                · have u2 : (P == (F : Int)) = false := by simp [e2]
                  by_cases e3 : Q = 0
                  · have u3 : (Q == 0) = true := by simp [e3]
                    clear e1 e2 e3
                    go_wp2_with (go_at_call 11; refine (implJugsOk_any _ _ _ _ _).mono ?_; rw [HJB.out]; rintro e w9 ⟨rfl, hk9⟩; have j2 := hk9.at1 j2; have j3 := hk9.at1 j3)
                    go_ret
                    exact ⟨rfl, K6.out.trans hk9⟩
                  · have u3 : (Q == 0) = false := by simp [e3]
                    have u4 : (Q == (S : Int)) = true := by rcases Q8.out with h | h | h | h; exact absurd h e1; exact absurd h e2; exact absurd h e3; simp [h]
                    clear e1 e2 e3
                    go_wp2_with (go_at_call 11; refine (implJugsOk_any _ _ _ _ _).mono ?_; rw [HJB.out]; rintro e w9 ⟨rfl, hk9⟩; have j2 := hk9.at1 j2; have j3 := hk9.at1 j3)
                    go_ret
                    exact ⟨rfl, K6.out.trans hk9⟩
          · have HQ3 := Lib.hid q3
            have hl0 : len = 0 := by rw [HLN.out, q3]; rfl
            rw [hDg] at q1
            subst hl0
            obtain ⟨R, hRR⟩ : ∃ R, R = G % D := ⟨_, rfl⟩
            rw [← hRR] at eD q1 hR
            by_cases r0 : R = 0
            · have hle : ¬ G ≤ (if F < S then S else F) := by split <;> omega
              first | rw [if_pos hFS] at hle | rw [if_neg hFS] at hle
              have hleI : ¬ ((G : Int) ≤ _) := fun h => hle (Int.ofNat_le.1 h)
              subst r0
              clear q1 q3 hgc hDg hR hRR h0 hkp hmx
              go_wp2_with (go_at_call 24; refine (HCAN.out _).mono ?_; rintro e w5 ⟨rfl, hk5⟩)
              go_ret
              exact ⟨rfl, K4.out.trans (HKP.out.trans hk5)⟩
            · have r1 : (((R : Nat) : Int) == 0) = false := by simp; exact r0
              clear q1 q3 hgc hDg hR hRR h0 hkp hmx
              go_wp2_with (go_at_call 24; refine (HCAN.out _).mono ?_; rintro e w5 ⟨rfl, hk5⟩)
              go_ret
              exact ⟨rfl, K4.out.trans (HKP.out.trans hk5)⟩)
      · have t1 : (D : Int).tmod (Y : Int) = ((D % Y : Nat) : Int) := by rw [Int.tmod_eq_emod_of_nonneg (by omega)]; exact (Int.natCast_emod D Y).symm
        have t2 : ((Y : Int) == 0) = false := by simp; omega
        have t3 := Nat.mod_lt D h0
        have t4 : (0 : Int) < (Y : Int) := by omega
        have HGC := Lib.hid (show Nat.gcd Y (D % Y) = Nat.gcd F S by rw [← hgc, Nat.gcd_comm Y (D % Y), ← Nat.gcd_rec, Nat.gcd_comm])
        obtain ⟨Q, hQ⟩ : ∃ Q, Q = D % Y := ⟨_, rfl⟩
        rw [← hQ] at t1 t3 HGC
        have hkd := Kp.drew hkp
        clear hgc hQ
        go_wp2_with fail
        go_region
        go_wp2_with fail
        go_roundw
        case rel => exact ⟨Y, Q, rfl, rfl, by omega, by omega, HGC.out, by (repeat (with_reducible first | exact Kp.refl _ | assumption | refine Kp.drew ?_ | refine Kp.drewN ?_ _ | refine Kp.alloc ?_ _ | refine Kp.setCell ?_ (by first | (simp; done) | (simp; omega) | (dsimp only; omega)) _ | refine Kp.trans ?_ (by assumption)))⟩
        case measure => simp [intOf]; omega
set_option maxRecDepth 100000 in
theorem lifted (os : Os) (started : os.Started) (H : Type) (enc : TypeId × Value → H) :
    ReturnsInHanded {} Try.checked os 8 .any (Rows.fnJugsSpec.pre6 enc Try.prog Try.f8 Rows.fnJugsRow.domain false) (Rows.fnJugsSpec.post enc Try.prog Try.f8 false true false false) := by
  refine returnsInHanded_of_change (C := Try.checked) own started (by kernel_rfl) Try.func8
    (ChangeSpec.witness6 (enc := enc) (C := Try.checked) false ⟨#[], #[.slice none 0 0], []⟩ 8 (by kernel_rfl) (by kernel_rfl) (by kernel_rfl) (by kernel_rfl)) ?_
  intro W base args ds gs before hval hW _ _
  obtain ⟨p, q, hA0, hV, rfl, _, _⟩ := id hW
  have hA : DataW.TrodAll enc Try.prog W 0 (fun _ => true) true Try.f8.params.toList args.toList ds p := hA0
  rw [Try.params8] at hA hval
  obtain ⟨v0, vs0, d0, ds0, p0, q0, hargs, rfl, rfl, h0, r0⟩ := trodAll_cons hA
  obtain ⟨rfl, rfl, rfl⟩ := trodAll_nil r0
  obtain rfl : args = #[v0] := by cases args; simp_all
  obtain ⟨rfl, rfl⟩ := trodVars_none hV
  obtain ⟨A0, n0, c0, x0, rfl, l0, b0, rd0, wx0⟩ := open_intlist Try.underlying41 Try.underlying5 (by kernel_rfl) (hval 0 41 v0 rfl rfl) h0
  refine (walk A0 n0 c0 x0 W l0 b0 rd0 (fun x h => u8_wf (wx0 x h))).mono fun e W' ⟨he, hb⟩ => ⟨_, he, law_post laidOut (by kernel_rfl) rfl hW hb rfl rfl rfl (by kernel_rfl) (B := 4) Try.underlying4⟩
theorem proved : Rows.FnJugsSaid :=
  OpenClaim.holds_of_wide 8 Try.f8 rfl rfl rfl rfl rfl rfl rfl ⟨rfl, rfl, rfl, rfl, rfl⟩ rfl rfl rfl rfl rfl (by kernel_rfl) Try.func8 (by kernel_rfl)
    (of_decide_eq_true (by kernel_rfl)) (by unfold Func.isWrapper; rw [if_neg (of_decide_eq_false (by kernel_rfl))]; exact ⟨rfl, rfl⟩)
    (fun os started H enc _ => lifted os started H enc)
#print axioms proved
end fnJugs
end Go.Proofs.Ytgkjckhjmphoaaa
