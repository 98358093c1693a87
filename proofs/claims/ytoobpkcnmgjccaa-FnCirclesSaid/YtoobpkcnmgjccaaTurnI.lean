/- TurnMarks, StretchMarks: the program's contracts. -/
import Derived.Test.YtoobpkcnmgjccaaMoved
set_option linter.unusedVariables false
namespace Go.Proofs.Ytoobpkcnmgjccaa
open Go.RowKit
theorem mv_turn (N q : Int) : mvF N 1 q = fun m => (m + q) % N := by funext m; simp [mvF]
theorem mv_stretch (N q : Int) : mvF N q 0 = fun m => m * q % N := by funext m; simp [mvF]
theorem iTurn_any (A : Option Addr) (n c : Nat) (xs : List Int) (N q : Int) (w : World) (hl : xs.length = n) (hn : n ≤ 1048576) (hr : Reads w w.heap.size 1 A n (xs.map (.int .i64))) :
    Calls Try.prog 23 #[.int .i64 N, .slice A n c, .int .i64 q] w fun e w' => ∃ v, e = .returned v ∧ OwI w.heap.size w' v (tmL N q xs) ∧ Kp w w' := by
  have HR := Lib.hid hr
  have HL := Lib.hid hl
  clear hr hl
  go_enter Try.func23, Try.ntmps23
  go_wp2_with fail
  refine (iCircleOk_any _ _ _ xs _ _ HL.out hn HR.out).mono ?_
  obtain ⟨b1, hb1⟩ : ∃ b, b = circB N xs := ⟨_, rfl⟩
  rw [← hb1]
  have H1 := Lib.hid hb1
  clear hb1
  rintro e w1 ⟨rfl, hm⟩
  have hk1 := Kp.of_drewN hm
  clear hm
  cases b1 with
  | false =>
    have HT := Lib.hid (show tmL N q xs = [] by rw [tmL, tmOk, ← H1.out]; simp)
    go_wp2_with fail
    go_ret
    exact ⟨_, rfl, by rw [HT.out]; exact World.ownsRow_nil _ _ _ _, hk1⟩
  | true =>
    have hcb := circB_bd H1.out.symm
    rw [HL.out] at hcb
    obtain ⟨hN, hn8, _, hall⟩ := hcb
    have HA := Lib.hid hall
    obtain ⟨b2, hb2⟩ : ∃ b, b = inB q 0 (N - 1) := ⟨_, rfl⟩
    cases b2 with
    | false =>
      have H2 := Lib.hid hb2.symm
      have HT := Lib.hid (show tmL N q xs = [] by rw [tmL, tmOk, H2.out]; simp)
      clear hb2 hall
      go_wp2_with (go_at_call 31; refine (in_any _ _ _ _).mono ?_; rintro e w' ⟨rfl, rfl⟩; rw [H2.out])
      go_ret
      exact ⟨_, rfl, by rw [HT.out]; exact World.ownsRow_nil _ _ _ _, hk1⟩
    | true =>
      have H2 := Lib.hid hb2.symm
      have hq := inB_true.1 hb2.symm
      have HT := Lib.hid (show tmL N q xs = srt (xs.map (mvF N 1 q)) by rw [mv_turn, tmL, if_pos (by rw [tmOk, ← H1.out, H2.out]; rfl)])
      clear hb2 hall
      go_wp2_with (go_at_call 31; refine (in_any _ _ _ _).mono ?_; rintro e w' ⟨rfl, rfl⟩; rw [H2.out])
      refine (moved_any _ _ _ xs N 1 q _ HL.out hn8 hN (by omega) (by omega) HA.out (HR.out.kp hk1)).mono ?_
      rintro e w2 ⟨v, rfl, ho, hk2⟩
      have HO := Lib.hid (show OwI w.heap.size w2 v (tmL N q xs) by rw [HT.out]; exact ho.weak hk1.size)
      clear ho
      go_wp2_with fail
      go_ret
      exact ⟨_, rfl, HO.out, hk1.trans hk2⟩
theorem iStretch_any (A : Option Addr) (n c : Nat) (xs : List Int) (N q : Int) (w : World) (hl : xs.length = n) (hn : n ≤ 1048576) (hr : Reads w w.heap.size 1 A n (xs.map (.int .i64))) :
    Calls Try.prog 25 #[.int .i64 N, .slice A n c, .int .i64 q] w fun e w' => ∃ v, e = .returned v ∧ OwI w.heap.size w' v (smL N q xs) ∧ Kp w w' := by
  have HR := Lib.hid hr
  have HL := Lib.hid hl
  clear hr hl
  go_enter Try.func25, Try.ntmps25
  go_wp2_with fail
  refine (iCircleOk_any _ _ _ xs _ _ HL.out hn HR.out).mono ?_
  obtain ⟨b1, hb1⟩ : ∃ b, b = circB N xs := ⟨_, rfl⟩
  rw [← hb1]
  have H1 := Lib.hid hb1
  clear hb1
  rintro e w1 ⟨rfl, hm⟩
  have hk1 := Kp.of_drewN hm
  clear hm
  cases b1 with
  | false =>
    have HT := Lib.hid (show smL N q xs = [] by rw [smL, smOk, ← H1.out]; simp)
    go_wp2_with fail
    go_ret
    exact ⟨_, rfl, by rw [HT.out]; exact World.ownsRow_nil _ _ _ _, hk1⟩
  | true =>
    have hcb := circB_bd H1.out.symm
    rw [HL.out] at hcb
    obtain ⟨hN, hn8, _, hall⟩ := hcb
    have HA := Lib.hid hall
    obtain ⟨b2, hb2⟩ : ∃ b, b = inB q 1 (N - 1) := ⟨_, rfl⟩
    cases b2 with
    | false =>
      have H2 := Lib.hid hb2.symm
      have HT := Lib.hid (show smL N q xs = [] by rw [smL, smOk, H2.out]; simp)
      clear hb2 hall
      go_wp2_with (go_at_call 31; refine (in_any _ _ _ _).mono ?_; rintro e w' ⟨rfl, rfl⟩; rw [H2.out])
      go_ret
      exact ⟨_, rfl, by rw [HT.out]; exact World.ownsRow_nil _ _ _ _, hk1⟩
    | true =>
      have H2 := Lib.hid hb2.symm
      have hq := inB_true.1 hb2.symm
      have hg0 : 1 ≤ (Int.gcd q N : Int) := by
        have : 0 < Int.gcd q N := Int.gcd_pos_of_ne_zero_left _ (by omega)
        omega
      by_cases hg : (Int.gcd q N : Int) = 1
      · have HT := Lib.hid (show smL N q xs = srt (xs.map (mvF N q 0)) by rw [mv_stretch, smL, if_pos (by rw [smOk, ← H1.out, H2.out, hg]; rfl)])
        have HG := Lib.hid hg
        clear hb2 hall hg hg0
        go_wp2_with (first | (go_at_call 31; refine (in_any _ _ _ _).mono ?_; rintro e w' ⟨rfl, rfl⟩; rw [H2.out]) | (go_at_call 38; refine (gcd_any _ _ _ (by omega) (by omega)).mono ?_; rw [HG.out]; rintro e w' ⟨rfl, hm⟩; obtain ⟨mm, rfl⟩ := hm))
        have hk1 := hk1.drewN mm
        refine (moved_any _ _ _ xs N q 0 _ HL.out hn8 hN (by omega) (by omega) HA.out (HR.out.kp hk1)).mono ?_
        rintro e w2 ⟨v, rfl, ho, hk2⟩
        have HO := Lib.hid (show OwI w.heap.size w2 v (smL N q xs) by rw [HT.out]; exact ho.weak hk1.size)
        clear ho
        go_wp2_with fail
        go_ret
        exact ⟨_, rfl, HO.out, hk1.trans hk2⟩
      · have HT := Lib.hid (show smL N q xs = [] by rw [smL, if_neg]; intro h; simp only [smOk, Bool.and_eq_true, beq_iff_eq] at h; exact hg h.2)
        obtain ⟨G, eG⟩ : ∃ G, G = (Int.gcd q N : Int) := ⟨_, rfl⟩
        rw [← eG] at hg hg0
        have HG := Lib.hid eG
        have hg2 : 1 < G := by omega
        clear hb2 hall hg hg0 eG
        go_wp2_with (first | (go_at_call 31; refine (in_any _ _ _ _).mono ?_; rintro e w' ⟨rfl, rfl⟩; rw [H2.out]) | (go_at_call 38; refine (gcd_any _ _ _ (by omega) (by omega)).mono ?_; rw [← HG.out]; rintro e w' ⟨rfl, hm⟩; obtain ⟨mm, rfl⟩ := hm))
        go_ret
        exact ⟨_, rfl, by rw [HT.out]; exact World.ownsRow_nil _ _ _ _, hk1.drewN _⟩
end Go.Proofs.Ytoobpkcnmgjccaa
