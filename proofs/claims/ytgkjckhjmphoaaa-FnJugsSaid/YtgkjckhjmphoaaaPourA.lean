/- PourAll: the plain word and the contracts. -/
import Derived.Test.YtgkjckhjmphoaaaJug
import Derived.Test.YtgkjckhjmphoaaaInts
import Derived.Deep.RegionHeld3
import Derived.Deep.DeepCutAuto
set_option linter.unusedVariables false
namespace Go.Proofs.Ytgkjckhjmphoaaa
open Go.RowKit
def stK (f s a b : Int) (xs : List Int) : Nat → Int × Int
  | 0 => (a, b)
  | k + 1 => (rA f s (stK f s a b xs k).1 (stK f s a b xs k).2 (xs.getD k 0), rB f s (stK f s a b xs k).1 (stK f s a b xs k).2 (xs.getD k 0))
def stOk (f s a b : Int) (xs : List Int) (k : Nat) : Bool := pOk f s (stK f s a b xs k).1 (stK f s a b xs k).2 (xs.getD k 0)
def paOk (f s a b : Int) (xs : List Int) : Bool := jugsB f s a b && decide (xs.length ≤ 100) && (List.range xs.length).all (stOk f s a b xs)
def paA (f s a b : Int) (xs : List Int) : Int := if paOk f s a b xs = true then (stK f s a b xs xs.length).1 else a
def paB (f s a b : Int) (xs : List Int) : Int := if paOk f s a b xs = true then (stK f s a b xs xs.length).2 else b
theorem paOk_all {f s a b : Int} {xs : List Int} {n : Nat} (hl : xs.length = n) (h1 : jugsB f s a b = true) (h2 : n ≤ 100) (h3 : ∀ k, k < n → stOk f s a b xs k = true) : paOk f s a b xs = true := by
  subst hl
  simp only [paOk, Bool.and_eq_true, decide_eq_true_eq, List.all_eq_true, List.mem_range]
  exact ⟨⟨h1, h2⟩, h3⟩
theorem paOk_not {f s a b : Int} {xs : List Int} {n k : Nat} (hl : xs.length = n) (hk : k < n) (h : stOk f s a b xs k = false) : paOk f s a b xs = false := by
  subst hl
  rw [Bool.eq_false_iff]
  intro hp
  simp only [paOk, Bool.and_eq_true, decide_eq_true_eq, List.all_eq_true, List.mem_range] at hp
  rw [hp.2 k hk] at h; cases h
/-- Four ints in a block. -/
def Jg (w : World) (b : Nat) (p q r s : Int) : Prop := ((w.cell? ⟨b, 0, none⟩ = some (.int .i64 p) ∧ w.frozen? ⟨b, 0, none⟩ = false) ∧ (w.cell? ⟨b, 1, none⟩ = some (.int .i64 q) ∧ w.frozen? ⟨b, 1, none⟩ = false) ∧ (w.cell? ⟨b, 2, none⟩ = some (.int .i64 r) ∧ w.frozen? ⟨b, 2, none⟩ = false) ∧ (w.cell? ⟨b, 3, none⟩ = some (.int .i64 s) ∧ w.frozen? ⟨b, 3, none⟩ = false))
theorem Jg.kp {w w' : World} {b : Nat} {p q r s : Int} (h : Jg w b p q r s) (hk : Kp w w') : Jg w' b p q r s :=
  ⟨hk.at2 h.1.1 h.1.2, hk.at2 h.2.1.1 h.2.1.2, hk.at2 h.2.2.1.1 h.2.2.1.2, hk.at2 h.2.2.2.1 h.2.2.2.2⟩
theorem Jg.lt {w : World} {b : Nat} {p q r s : Int} (h : Jg w b p q r s) : b < w.heap.size := cell_lt h.1.1
def put4 (w : World) (b : Nat) (p q r s : Int) : World := (((w.setCell ⟨b, 0, none⟩ (.int .i64 p)).setCell ⟨b, 1, none⟩ (.int .i64 q)).setCell ⟨b, 2, none⟩ (.int .i64 r)).setCell ⟨b, 3, none⟩ (.int .i64 s)
theorem Jg.put {w : World} {b : Nat} {p q r s p' q' r' s' : Int} (h : Jg w b p q r s) : Jg (put4 w b p' q' r' s') b p' q' r' s' := by
  obtain ⟨⟨c0, f0⟩, ⟨c1, f1⟩, ⟨c2, f2⟩, ⟨c3, f3⟩⟩ := h
  refine ⟨⟨?_, ?_⟩, ⟨?_, ?_⟩, ⟨?_, ?_⟩, ⟨?_, ?_⟩⟩ <;> simp [put4, go_sem, c0, c1, c2, c3, f0, f1, f2, f3]
theorem Jg.other {w : World} {b b' : Nat} {p q r s p' q' r' s' : Int} (h : Jg w b p q r s) (hne : b ≠ b') : Jg (put4 w b' p' q' r' s') b p q r s := by
  obtain ⟨⟨c0, f0⟩, ⟨c1, f1⟩, ⟨c2, f2⟩, ⟨c3, f3⟩⟩ := h
  refine ⟨⟨?_, ?_⟩, ⟨?_, ?_⟩, ⟨?_, ?_⟩, ⟨?_, ?_⟩⟩ <;> simp [put4, go_sem, c0, c1, c2, c3, f0, f1, f2, f3, hne, Ne.symm hne]
theorem Jg.fresh (w : World) (p q r s : Int) (t : TypeId) : Jg (w.alloc (.cells #[.int .i64 p, .int .i64 q, .int .i64 r, .int .i64 s] t)) w.heap.size p q r s := by
  refine ⟨⟨?_, ?_⟩, ⟨?_, ?_⟩, ⟨?_, ?_⟩, ⟨?_, ?_⟩⟩ <;> simp [go_sem]
theorem Kp.put4 {w W : World} (h : Kp w W) {b : Nat} (hb : w.heap.size ≤ b) (p q r s : Int) : Kp w (put4 W b p q r s) := (((h.setCell hb _).setCell hb _).setCell hb _).setCell hb _
set_option maxRecDepth 20000 in
set_option maxHeartbeats 6400000 in
theorem implPourAll_any (f s a b : Int) (A : Option Addr) (n c : Nat) (xs : List Int) (w : World) (hl : xs.length = n) (hn : n ≤ 1048576) (hr : Reads w w.heap.size 1 A n (xs.map (.int .i64))) :
    Calls Try.prog 17 #[.agg #[.int .i64 f, .int .i64 s, .int .i64 a, .int .i64 b], .slice A n c] w fun e w' => e = .returned (.tuple #[.agg #[.int .i64 f, .int .i64 s, .int .i64 (paA f s a b xs), .int .i64 (paB f s a b xs)], .bool (paOk f s a b xs)]) ∧ Kp w w' := by
  have HR := Lib.hid hr
  have HL := Lib.hid hl
  clear hr hl
  go_enter Try.func17, Try.ntmps17
  go_wp2_with fail
  refine (implJugsOk_any _ _ _ _ _).mono ?_
  obtain ⟨j, hj⟩ : ∃ j, j = jugsB f s a b := ⟨_, rfl⟩
  rw [← hj]
  have HJ := Lib.hid hj
  clear hj
  rintro e w1 ⟨rfl, hk⟩
  have hkw : Kp w w1 := Kp.trans (by (repeat (with_reducible first | exact Kp.refl _ | assumption | refine Kp.drew ?_ | refine Kp.drewN ?_ _ | refine Kp.alloc ?_ _ | refine Kp.setCell ?_ (by first | (simp; done) | (simp; omega) | (dsimp only; omega)) _ | refine Kp.trans ?_ (by assumption)))) hk
  obtain ⟨⟨c0_0, c0_1, c0_2, c0_3⟩, ⟨⟨c1_0, f1_0⟩, ⟨c1_1, f1_1⟩, ⟨c1_2, f1_2⟩, ⟨c1_3, f1_3⟩⟩, y0, y1⟩ := Kp.two44 hk
  clear hk
  by_cases hgo : j = true ∧ n ≤ 100
  · obtain ⟨rfl, h100⟩ := hgo
    have t100 : decide ((100 : Int) < (n : Int)) = false := by simp; omega
    go_wp2_with fail
    have J0 : Jg (w1.alloc (.cells #[.int .i64 f, .int .i64 s, .int .i64 a, .int .i64 b] 25)) w1.heap.size f s a b := Jg.fresh _ _ _ _ _ _
    have R0 : Jg (w1.alloc (.cells #[.int .i64 f, .int .i64 s, .int .i64 a, .int .i64 b] 25)) (w.heap.size + 1) 0 0 0 0 := Jg.kp ⟨⟨c1_0, f1_0⟩, ⟨c1_1, f1_1⟩, ⟨c1_2, f1_2⟩, ⟨c1_3, f1_3⟩⟩ ((Kp.refl w1).alloc _)
    have a0 := cell_alloc c0_0 (.cells #[.int .i64 f, .int .i64 s, .int .i64 a, .int .i64 b] 25)
    have a1 := cell_alloc c0_1 (.cells #[.int .i64 f, .int .i64 s, .int .i64 a, .int .i64 b] 25)
    have a2 := cell_alloc c0_2 (.cells #[.int .i64 f, .int .i64 s, .int .i64 a, .int .i64 b] 25)
    have a3 := cell_alloc c0_3 (.cells #[.int .i64 f, .int .i64 s, .int .i64 a, .int .i64 b] 25)
    have KA : Kp w (w1.alloc (.cells #[.int .i64 f, .int .i64 s, .int .i64 a, .int .i64 b] 25)) := hkw.alloc _
    have HJ0 := Lib.hid J0
    have HR0 := Lib.hid R0
    have HKA := Lib.hid KA
    clear J0 R0 KA c0_0 c0_1 c0_2 c0_3 c1_0 f1_0 c1_1 f1_1 c1_2 f1_2 c1_3 f1_3
    obtain ⟨g, hg⟩ : ∃ g, g = w1.heap.size := ⟨_, rfl⟩
    rw [← hg] at HJ0 ⊢
    have hgb : w.heap.size + 1 < g := by omega
    clear hg
    go_loopw [23] (fun i wr => ∃ k : Nat, k ≤ n ∧ i = .int .i64 k ∧ (∀ j, j < k → stOk f s a b xs j = true) ∧ (wr.cell? ⟨w.heap.size, 0, none⟩ = some (.int .i64 f) ∧ wr.cell? ⟨w.heap.size, 1, none⟩ = some (.int .i64 s) ∧ wr.cell? ⟨w.heap.size, 2, none⟩ = some (.int .i64 a) ∧ wr.cell? ⟨w.heap.size, 3, none⟩ = some (.int .i64 b)) ∧ Jg wr (w.heap.size + 1) 0 0 0 0 ∧ Jg wr g f s (stK f s a b xs k).1 (stK f s a b xs k).2 ∧ Kp w wr) (fun i _ => n - (intOf i).toNat)
    case atStart => exact ⟨0, by omega, rfl, fun j hj => by omega, ⟨a0, a1, a2, a3⟩, HR0.out, HJ0.out, HKA.out⟩
    case round =>
      obtain ⟨k, hk, rfl, hok, ⟨c0, c1, c2, c3⟩, hres, hout, hkp⟩ := hrel
      have HOK := Lib.hid hok
      have HRES := Lib.hid hres
      have HOUT := Lib.hid hout
      have HKP := Lib.hid hkp
      obtain ⟨⟨r0, s0⟩, ⟨r1, s1⟩, ⟨r2, s2⟩, ⟨r3, s3⟩⟩ := hres
      obtain ⟨⟨o0, u0⟩, ⟨o1, u1⟩, ⟨o2, u2⟩, ⟨o3, u3⟩⟩ := hout
      have zr := HRES.out.lt
      have zo := HOUT.out.lt
      have hstp : stK f s a b xs (k + 1) = (rA f s (stK f s a b xs k).1 (stK f s a b xs k).2 (xs.getD k 0), rB f s (stK f s a b xs k).1 (stK f s a b xs k).2 (xs.getD k 0)) := rfl
      have hsok : stOk f s a b xs k = pOk f s (stK f s a b xs k).1 (stK f s a b xs k).2 (xs.getD k 0) := rfl
      obtain ⟨Y, hY⟩ : ∃ Y, Y = (stK f s a b xs k).1 := ⟨_, rfl⟩
      obtain ⟨Z, hZ⟩ : ∃ Z, Z = (stK f s a b xs k).2 := ⟨_, rfl⟩
      rw [← hY, ← hZ] at hstp hsok
      rw [← hY] at o2
      rw [← hZ] at o3
      have HY := Lib.hid hY
      have HZ := Lib.hid hZ
      have HSP := Lib.hid hstp
      have HSO := Lib.hid hsok
      clear hok hkp hY hZ hstp hsok
      by_cases hlt : k < n
      · obtain ⟨b', off, u', rfl, hb', hu', hc'⟩ := (HR.out.kp HKP.out).cellOf (k := k) (by omega)
        have cx := hc' k _ (by rw [List.getElem?_map, List.getElem?_eq_getElem (by rw [HL.out]; exact hlt)]; rfl)
        have hxx : xs[k]'(by rw [HL.out]; exact hlt) = xs.getD k 0 := by rw [List.getD_eq_getElem?_getD, List.getElem?_eq_getElem (by rw [HL.out]; exact hlt)]; rfl
        rw [hxx] at cx
        obtain ⟨X, hX⟩ : ∃ X, X = xs.getD k 0 := ⟨_, rfl⟩
        rw [← hX] at cx
        have HX := Lib.hid hX
        have i0 : (0 : Int) ≤ (k : Int) := by omega
        have i1 : (k : Int) < (n : Int) := by omega
        clear hc' hu' hX hxx
        go_wp2_with fail
        refine (implPour_any _ _ _ _ _ _).mono ?_
        obtain ⟨P, hP⟩ : ∃ P, P = rA f s Y Z X := ⟨_, rfl⟩
        obtain ⟨Q, hQ⟩ : ∃ Q, Q = rB f s Y Z X := ⟨_, rfl⟩
        obtain ⟨B, hB⟩ : ∃ B, B = pOk f s Y Z X := ⟨_, rfl⟩
        rw [← hP, ← hQ, ← hB]
        have HP := Lib.hid hP
        have HQ := Lib.hid hQ
        have HB := Lib.hid hB
        clear hP hQ hB
        rintro e w2 ⟨rfl, hk2⟩
        have c0 := hk2.at1 c0
        have c1 := hk2.at1 c1
        have c2 := hk2.at1 c2
        have c3 := hk2.at1 c3
        have hRES2 := HRES.out.kp hk2
        have hOUT2 := HOUT.out.kp hk2
        rw [← HY.out, ← HZ.out] at hOUT2
        have HR2 := Lib.hid hRES2
        have HO2 := Lib.hid hOUT2
        obtain ⟨⟨r0, s0⟩, ⟨r1, s1⟩, ⟨r2, s2⟩, ⟨r3, s3⟩⟩ := hRES2
        obtain ⟨⟨o0, u0⟩, ⟨o1, u1⟩, ⟨o2, u2⟩, ⟨o3, u3⟩⟩ := hOUT2
        have zr := HR2.out.lt
        have zo := HO2.out.lt
        have zj : w.heap.size < w2.heap.size := by omega
        have HK2 := Lib.hid (HKP.out.trans hk2)
        cases B with
        | true =>
          go_wp2_with fail
          go_roundw
          case rel =>
            have hne : w.heap.size ≠ g := by omega
            have hne2 : w.heap.size + 1 ≠ g := by omega
            refine ⟨k + 1, by omega, by go_num, fun j hj => ?_, ⟨?_, ?_, ?_, ?_⟩, (HR2.out.other hne2).kp ((Kp.refl _).alloc _), ?_, (HK2.out.put4 (by omega) _ _ _ _).alloc _⟩
            · rcases Nat.lt_or_ge j k with h | h
              · exact HOK.out j h
              · obtain rfl : j = k := by omega
                rw [HSO.out, ← HX.out]; exact HB.out.symm
            · exact cell_alloc (cell_set (cell_set (cell_set (cell_set c0 _ hne) _ hne) _ hne) _ hne) _
            · exact cell_alloc (cell_set (cell_set (cell_set (cell_set c1 _ hne) _ hne) _ hne) _ hne) _
            · exact cell_alloc (cell_set (cell_set (cell_set (cell_set c2 _ hne) _ hne) _ hne) _ hne) _
            · exact cell_alloc (cell_set (cell_set (cell_set (cell_set c3 _ hne) _ hne) _ hne) _ hne) _
            · rw [HSP.out, ← HX.out, ← HP.out, ← HQ.out]
              exact HO2.out.put.kp ((Kp.refl _).alloc _)
          case measure => simp [intOf]; omega
        | false =>
          have HF := Lib.hid (paOk_not (f := f) (s := s) (a := a) (b := b) HL.out hlt (by rw [HSO.out, ← HX.out]; exact HB.out.symm))
          go_wp2_with fail
          refine bodyPost_ret (v := .tuple #[.agg #[.int .i64 f, .int .i64 s, .int .i64 a, .int .i64 b], .bool false]) ?_ rfl ⟨by rw [paA, paB, HF.out]; rfl, ?_⟩
          · simp [results, Try.results17, go_sem, r0, r1, r2, r3, s0, s1, s2, s3, zr]
          · exact (HK2.out.put4 (b := w.heap.size + 1) (by omega) _ _ _ _).alloc _
      · obtain rfl : k = n := by omega
        have HT := Lib.hid (paOk_all (f := f) (s := s) (a := a) (b := b) HL.out HJ.out.symm h100 HOK.out)
        go_wp2_with fail
        refine bodyPost_ret (v := .tuple #[.agg #[.int .i64 f, .int .i64 s, .int .i64 Y, .int .i64 Z], .bool true]) ?_ rfl ⟨by rw [paA, paB, HT.out, HL.out, ← HY.out, ← HZ.out]; rfl, ?_⟩
        · simp [results, Try.results17, go_sem, r0, r1, r2, r3, s0, s1, s2, s3, zr]
        · exact HKP.out.put4 (b := w.heap.size + 1) (by omega) _ _ _ _
  · have HF := Lib.hid (show paOk f s a b xs = false by
      rw [Bool.eq_false_iff]
      intro h
      simp only [paOk, Bool.and_eq_true, decide_eq_true_eq] at h
      exact hgo ⟨HJ.out.trans h.1.1, by rw [← HL.out]; exact h.1.2⟩)
    have kf : Kp w (put4 w1 (w.heap.size + 1) f s a b) := hkw.put4 (by omega) _ _ _ _
    have HKF := Lib.hid kf
    clear kf
    cases j with
    | false =>
      clear hgo
      go_wp2_with fail
      refine bodyPost_ret (v := .tuple #[.agg #[.int .i64 f, .int .i64 s, .int .i64 a, .int .i64 b], .bool false]) ?_ rfl ⟨by rw [paA, paB, HF.out]; rfl, HKF.out⟩
      simp [results, Try.results17, go_sem, c1_0, c1_1, c1_2, c1_3, y1]
    | true =>
      have hgt : ¬ n ≤ 100 := fun h => hgo ⟨rfl, h⟩
      have t100 : decide ((100 : Int) < (n : Int)) = true := by simp; omega
      clear hgo
      go_wp2_with fail
      refine bodyPost_ret (v := .tuple #[.agg #[.int .i64 f, .int .i64 s, .int .i64 a, .int .i64 b], .bool false]) ?_ rfl ⟨by rw [paA, paB, HF.out]; rfl, HKF.out⟩
      simp [results, Try.results17, go_sem, c1_0, c1_1, c1_2, c1_3, y1]
end Go.Proofs.Ytgkjckhjmphoaaa
