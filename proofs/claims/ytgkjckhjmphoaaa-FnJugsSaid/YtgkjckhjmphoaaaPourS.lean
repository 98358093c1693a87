/- PourAll: the reference's contract. -/
import Derived.Test.YtgkjckhjmphoaaaPourA
import Derived.StillTailTactics
set_option linter.unusedVariables false
namespace Go.Proofs.Ytgkjckhjmphoaaa
open Go.RowKit
theorem Kp.realloc {w W : World} {o : Obj} (h : Kp w (W.alloc o)) (hz : w.heap.size ≤ W.heap.size) (o' : Obj) : Kp w (W.alloc o') := by
  have h' : Below w.heap.size w (W.alloc o) := h
  have h2 : Below w.heap.size w W := by
    refine ⟨(show W.os = w.os from h'.os), (show W.tape = w.tape from h'.tape), (show W.output = w.output from h'.output), hz, fun k hk => ?_⟩
    have h1 := h'.block k hk
    rw [Below.heap_alloc W o k (Nat.lt_of_lt_of_le hk hz)] at h1
    exact h1
  exact Kp.alloc h2 o'
theorem Kp.last4x {w0 w1 : World} {x y z u : Value} {t : TypeId} (h : Kp (w0.alloc (.cells #[x, y, z, u] t)).drew w1) :
    (w1.cell? ⟨w0.heap.size, 0, none⟩ = some x ∧ w1.frozen? ⟨w0.heap.size, 0, none⟩ = false) ∧ (w1.cell? ⟨w0.heap.size, 1, none⟩ = some y ∧ w1.frozen? ⟨w0.heap.size, 1, none⟩ = false) ∧
    (w1.cell? ⟨w0.heap.size, 2, none⟩ = some z ∧ w1.frozen? ⟨w0.heap.size, 2, none⟩ = false) ∧ (w1.cell? ⟨w0.heap.size, 3, none⟩ = some u ∧ w1.frozen? ⟨w0.heap.size, 3, none⟩ = false) :=
  ⟨h.at2 (by simp [go_sem]) (by simp [go_sem]), h.at2 (by simp [go_sem]) (by simp [go_sem]), h.at2 (by simp [go_sem]) (by simp [go_sem]), h.at2 (by simp [go_sem]) (by simp [go_sem])⟩
set_option maxRecDepth 20000 in
set_option maxHeartbeats 6400000 in
theorem specPourAll_any (f s a b : Int) (A : Option Addr) (n c : Nat) (xs : List Int) (w : World) (hl : xs.length = n) (hn : n ≤ 1048576) (hr : Reads w w.heap.size 1 A n (xs.map (.int .i64))) :
    Calls Try.prog 15 #[.agg #[.int .i64 f, .int .i64 s, .int .i64 a, .int .i64 b], .slice A n c] w fun e w' => e = .returned (.tuple #[.agg #[.int .i64 f, .int .i64 s, .int .i64 (paA f s a b xs), .int .i64 (paB f s a b xs)], .bool (paOk f s a b xs)]) ∧ Kp w w' := by
  have HR := Lib.hid hr
  have HL := Lib.hid hl
  clear hr hl
  obtain ⟨w0, hw0⟩ : ∃ w0, w0 = ((w.alloc (.cells #[.int .i64 f, .int .i64 s, .int .i64 a, .int .i64 b] 25)).alloc (.cells #[.int .i64 0, .int .i64 0, .int .i64 0, .int .i64 0] 25)).alloc (.cells #[.int .i64 f, .int .i64 s, .int .i64 a, .int .i64 b] 25) := ⟨_, rfl⟩
  have J0 : Jg w0 (w.heap.size + 2) f s a b := by
    have := Jg.fresh ((w.alloc (.cells #[.int .i64 f, .int .i64 s, .int .i64 a, .int .i64 b] 25)).alloc (.cells #[.int .i64 0, .int .i64 0, .int .i64 0, .int .i64 0] 25)) f s a b 25
    rw [hw0]; simpa using this
  have R0 : Jg w0 (w.heap.size + 1) 0 0 0 0 := by
    have := (Jg.fresh (w.alloc (.cells #[.int .i64 f, .int .i64 s, .int .i64 a, .int .i64 b] 25)) 0 0 0 0 25).kp ((Kp.refl _).alloc (.cells #[.int .i64 f, .int .i64 s, .int .i64 a, .int .i64 b] 25))
    rw [hw0]; simpa using this
  have I0 : Jg w0 w.heap.size f s a b := by
    have := (Jg.fresh w f s a b 25).kp (((Kp.refl _).alloc (.cells #[.int .i64 0, .int .i64 0, .int .i64 0, .int .i64 0] 25)).alloc (.cells #[.int .i64 f, .int .i64 s, .int .i64 a, .int .i64 b] 25))
    rw [hw0]; exact this
  have K0 : Kp w w0 := by rw [hw0]; exact (((Kp.refl w).alloc _).alloc _).alloc _
  have HJ0 := Lib.hid J0
  have HR0 := Lib.hid R0
  have HI0 := Lib.hid I0
  have HK0 := Lib.hid K0
  clear J0 R0 I0 K0
  go_enter Try.func15, Try.ntmps15
  go_wp2_with fail
  rw [← hw0]
  clear hw0
  obtain ⟨g, hg⟩ : ∃ g, g = w.heap.size + 2 := ⟨_, rfl⟩
  rw [← hg] at HJ0 ⊢
  have hgb : w.heap.size + 1 < g := by omega
  clear hg
  go_loopw [7] (fun i wr => ∃ k : Nat, k ≤ n ∧ (k = 0 ∨ n ≤ 100) ∧ i = .int .i64 k ∧ (∀ j, j < k → stOk f s a b xs j = true) ∧ Jg wr w.heap.size f s a b ∧ Jg wr (w.heap.size + 1) 0 0 0 0 ∧ Jg wr g f s (stK f s a b xs k).1 (stK f s a b xs k).2 ∧ Kp w wr) (fun i _ => n - (intOf i).toNat)
  case atStart => exact ⟨0, by omega, .inl rfl, rfl, fun j hj => by omega, HI0.out, HR0.out, HJ0.out, HK0.out⟩
  case round =>
    obtain ⟨k, hk, h100, rfl, hok, hin, hres, hout, hkp⟩ := hrel
    have HOK := Lib.hid hok
    have HIN := Lib.hid hin
    have HRES := Lib.hid hres
    have HKP := Lib.hid hkp
    have hstp : stK f s a b xs (k + 1) = (rA f s (stK f s a b xs k).1 (stK f s a b xs k).2 (xs.getD k 0), rB f s (stK f s a b xs k).1 (stK f s a b xs k).2 (xs.getD k 0)) := rfl
    have hsok : stOk f s a b xs k = pOk f s (stK f s a b xs k).1 (stK f s a b xs k).2 (xs.getD k 0) := rfl
    obtain ⟨Y, hY⟩ : ∃ Y, Y = (stK f s a b xs k).1 := ⟨_, rfl⟩
    obtain ⟨Z, hZ⟩ : ∃ Z, Z = (stK f s a b xs k).2 := ⟨_, rfl⟩
    rw [← hY, ← hZ] at hstp hsok hout
    have HOUT := Lib.hid hout
    have HY := Lib.hid hY
    have HZ := Lib.hid hZ
    have HSP := Lib.hid hstp
    have HSO := Lib.hid hsok
    have zi := hin.lt
    have zr := hres.lt
    have zo := hout.lt
    clear hok hkp hY hZ hstp hsok hin hres hout
    by_cases hlt : k < n
    · obtain ⟨b', off, u', rfl, hb', hu', hc'⟩ := (HR.out.kp HKP.out).cellOf (k := k) (by omega)
      have cx := hc' k _ (by rw [List.getElem?_map, List.getElem?_eq_getElem (by rw [HL.out]; exact hlt)]; rfl)
      have hxx : xs[k]'(by rw [HL.out]; exact hlt) = xs.getD k 0 := by rw [List.getD_eq_getElem?_getD, List.getElem?_eq_getElem (by rw [HL.out]; exact hlt)]; rfl
      rw [hxx] at cx
      obtain ⟨X, hX⟩ : ∃ X, X = xs.getD k 0 := ⟨_, rfl⟩
      rw [← hX] at cx
      have HX := Lib.hid hX
      have i0 : (0 : Int) ≤ (k : Int) := by omega
      have i1 : (k : Int) < (n : Int) := by omega
      clear hc' hu' hX hxx
      go_upto_region 5 with fail
      obtain ⟨⟨o0, u0⟩, ⟨o1, u1⟩, ⟨o2, u2⟩, ⟨o3, u3⟩⟩ := HOUT.out
      have hrr : Kp wr wr := Kp.refl wr
      obtain ⟨P, hP⟩ : ∃ P, P = rA f s Y Z X := ⟨_, rfl⟩
      obtain ⟨Q, hQ⟩ : ∃ Q, Q = rB f s Y Z X := ⟨_, rfl⟩
      obtain ⟨B, hB⟩ : ∃ B, B = pOk f s Y Z X := ⟨_, rfl⟩
      have HP := Lib.hid hP
      have HQ := Lib.hid hQ
      have HB := Lib.hid hB
      clear hP hQ hB
      go_cut [8, 9] (fun sa sb wx => ∃ h : Nat, wr.heap.size ≤ h ∧ sa = .pointer (some ⟨h, 0, none⟩) ∧ sb = .bool B ∧ wx.cell? ⟨h, 0, none⟩ = some (.int .i64 f) ∧ wx.cell? ⟨h, 1, none⟩ = some (.int .i64 s) ∧ wx.cell? ⟨h, 2, none⟩ = some (.int .i64 P) ∧ wx.cell? ⟨h, 3, none⟩ = some (.int .i64 Q) ∧ Kp wr wx)
      case first =>
        go_region_held3 (fun w' => w'.cell? ⟨g, 0, none⟩ = some (.int .i64 f) ∧ w'.cell? ⟨g, 1, none⟩ = some (.int .i64 s) ∧ w'.cell? ⟨g, 2, none⟩ = some (.int .i64 Y) ∧ w'.cell? ⟨g, 3, none⟩ = some (.int .i64 Z) ∧ w'.cell? ⟨b', off + k, none⟩ = some (.int .i64 X) ∧ Kp wr w')
          (((try go_split_ands); (repeat' apply And.intro) <;> (first | with_reducible assumption | (with_reducible apply cell_drew; with_reducible assumption) | (with_reducible refine Kp.drew ?_; with_reducible assumption) | (with_reducible apply hk.at1; with_reducible assumption) | (refine Kp.trans ?_ hk; with_reducible assumption) | (with_reducible apply cell_alloc; with_reducible assumption) | (with_reducible refine Kp.alloc ?_ _; with_reducible assumption) | (with_reducible apply cell_drew; with_reducible apply cell_alloc; with_reducible assumption) | (refine Kp.drew (Kp.alloc ?_ _); with_reducible assumption) | (with_reducible apply cell_realloc <;> first | with_reducible assumption | (dsimp only; omega)) | (with_reducible apply Kp.realloc <;> first | with_reducible assumption | omega) | (with_reducible refine cell_set (cell_set (cell_set (cell_set ?_ _ ?_) _ ?_) _ ?_) _ ?_ <;> first | with_reducible assumption | (dsimp only; omega)) | (refine Kp.setCell (Kp.setCell (Kp.setCell (Kp.setCell ?_ ?_ _) ?_ _) ?_ _) ?_ _ <;> first | with_reducible assumption | (dsimp only; omega)))))
          (first | (go_at_call 12; refine (specPour_any _ _ _ _ _ _).mono ?_; rw [← HP.out, ← HQ.out, ← HB.out]; rintro e w2 ⟨rfl, hk⟩; have hz := hk.size; (try simp at hz); (first | have hl := Kp.last4x hk | have hl := Kp.last4 hk | skip); (try have hl0 := hl.1.1); (try have hl1 := hl.2.1.1); (try have hl2 := hl.2.2.1.1); (try have hl3 := hl.2.2.2.1); (try have hf0 := hl.1.2); (try have hf1 := hl.2.1.2); (try have hf2 := hl.2.2.1.2); (try have hf3 := hl.2.2.2.2)))
        all_goals (go_wp2_with fail; go_meet; (try go_split_ands))
        all_goals refine ⟨_, ?_, rfl, rfl, ?_, ?_, ?_, ?_, ?_⟩
        all_goals first
          | with_reducible assumption
          | omega
          | (simp [go_sem]; done)
          | (simp [go_sem, hl0, hl1, hl2, hl3]; done)
      case rest =>
        obtain ⟨h, hh, rfl, rfl, e0, e1, e2, e3, hkx⟩ := hcut
        have zh := cell_lt e0
        simp only at zh
        have HOX := Lib.hid (HOUT.out.kp hkx)
        have HRX := Lib.hid (HRES.out.kp hkx)
        have HIX := Lib.hid (HIN.out.kp hkx)
        have HKX := Lib.hid (HKP.out.trans hkx)
        obtain ⟨⟨r0, s0⟩, ⟨r1, s1⟩, ⟨r2, s2⟩, ⟨r3, s3⟩⟩ := HRX.out
        obtain ⟨⟨o0, u0⟩, ⟨o1, u1⟩, ⟨o2, u2⟩, ⟨o3, u3⟩⟩ := HOX.out
        obtain ⟨⟨a0, b0⟩, ⟨a1, b1⟩, ⟨a2, b2⟩, ⟨a3, b3⟩⟩ := HIX.out
        have zo := HOX.out.lt
        have zr := HRX.out.lt
        have zi := HIX.out.lt
        by_cases hgo : B = true ∧ n ≤ 100
        · obtain ⟨rfl, hle⟩ := hgo
          have t100 : decide ((100 : Int) < (n : Int)) = false := by simp; omega
          have hne : w.heap.size ≠ g := by omega
          have hne2 : w.heap.size + 1 ≠ g := by omega
          have hne3 : h ≠ g := by omega
          go_wp2_with fail
          go_roundw
          case rel =>
            refine ⟨k + 1, by omega, .inr hle, by go_num, fun j hj => ?_, HIX.out.other hne, HRX.out.other hne2, ?_, HKX.out.put4 (by omega) _ _ _ _⟩
            · rcases Nat.lt_or_ge j k with h | h
              · exact HOK.out j h
              · obtain rfl : j = k := by omega
                rw [HSO.out, ← HX.out]; exact HB.out.symm
            · rw [HSP.out, ← HX.out, ← HP.out, ← HQ.out]
              exact HOX.out.put
          case measure => simp [intOf]; omega
        · have HF := Lib.hid (show paOk f s a b xs = false by
            rw [Bool.eq_false_iff]
            intro hp
            have hp2 := hp
            simp only [paOk, Bool.and_eq_true, decide_eq_true_eq] at hp2
            refine hgo ⟨?_, by rw [← HL.out]; exact hp2.1.2⟩
            cases hB : B with
            | true => rfl
            | false =>
              have := paOk_not (f := f) (s := s) (a := a) (b := b) HL.out hlt (by rw [HSO.out, ← HX.out, ← HB.out, hB])
              rw [hp] at this; cases this)
          have kf := HKX.out.put4 (b := w.heap.size + 1) (by omega) f s a b
          have HKF := Lib.hid kf
          clear kf
          cases B with
          | false =>
            clear hgo
            go_wp2_with fail
            refine bodyPost_ret (v := .tuple #[.agg #[.int .i64 f, .int .i64 s, .int .i64 a, .int .i64 b], .bool false]) ?_ rfl ⟨by rw [paA, paB, HF.out]; rfl, HKF.out⟩
            simp [results, Try.results15, go_sem, r0, r1, r2, r3, s0, s1, s2, s3, zr]
          | true =>
            have hgt : ¬ n ≤ 100 := fun h => hgo ⟨rfl, h⟩
            have t100 : decide ((100 : Int) < (n : Int)) = true := by simp; omega
            clear hgo
            go_wp2_with fail
            refine bodyPost_ret (v := .tuple #[.agg #[.int .i64 f, .int .i64 s, .int .i64 a, .int .i64 b], .bool false]) ?_ rfl ⟨by rw [paA, paB, HF.out]; rfl, HKF.out⟩
            simp [results, Try.results15, go_sem, r0, r1, r2, r3, s0, s1, s2, s3, zr]
    · obtain rfl : k = n := by omega
      have hj : paOk f s a b xs = jugsB f s a b := by
        cases hjb : jugsB f s a b with
        | false => simp [paOk, hjb]
        | true =>
          refine paOk_all HL.out hjb ?_ HOK.out
          rcases h100 with h | h
          · omega
          · exact h
      have hA : paA f s a b xs = Y ∧ paB f s a b xs = Z := by
        rw [paA, paB, hj, HL.out]
        cases hjb : jugsB f s a b with
        | true => exact ⟨HY.out.symm, HZ.out.symm⟩
        | false =>
          have hk0 : k = 0 := by
            rcases Nat.eq_zero_or_pos k with h | h
            · exact h
            · have := HOK.out 0 h
              simp only [stOk, stK, pOk, hjb] at this
              cases this
          subst hk0
          rw [HY.out, HZ.out]; exact ⟨rfl, rfl⟩
      obtain ⟨J, hJ⟩ : ∃ J, J = jugsB f s a b := ⟨_, rfl⟩
      rw [← hJ] at hj
      have HA := Lib.hid hA
      have HJ := Lib.hid hJ
      have HPK := Lib.hid hj
      clear hA hJ hj
      obtain ⟨⟨r0, s0⟩, ⟨r1, s1⟩, ⟨r2, s2⟩, ⟨r3, s3⟩⟩ := HRES.out
      obtain ⟨⟨o0, u0⟩, ⟨o1, u1⟩, ⟨o2, u2⟩, ⟨o3, u3⟩⟩ := HOUT.out
      obtain ⟨⟨a0, b0⟩, ⟨a1, b1⟩, ⟨a2, b2⟩, ⟨a3, b3⟩⟩ := HIN.out
      go_upto_region 9 with fail
      have HRD := Lib.hid (HRES.out.kp (Kp.drew (Kp.refl wr)))
      have HOD := Lib.hid (HOUT.out.kp (Kp.drew (Kp.refl wr)))
      go_region_with (go_at_call 9; refine (specJugsOk_any _ _ _ _ _).mono ?_; rw [← HJ.out]; rintro e w3 ⟨rfl, hk⟩; have hz := hk.size; (try simp at hz); (first | (have t := HRD.out.kp hk; obtain ⟨⟨t0, v0⟩, ⟨t1, v1⟩, ⟨t2, v2⟩, ⟨t3, v3⟩⟩ := t; have t := HOD.out.kp hk; obtain ⟨⟨y0, _⟩, ⟨y1, _⟩, ⟨y2, _⟩, ⟨y3, _⟩⟩ := t) | (have t := (HRD.out.put (p' := f) (q' := s) (r' := Y) (s' := Z)).kp hk; obtain ⟨⟨t0, v0⟩, ⟨t1, v1⟩, ⟨t2, v2⟩, ⟨t3, v3⟩⟩ := t)))
      all_goals go_wp2_with fail
      all_goals refine bodyPost_ret (v := .tuple #[.agg #[.int .i64 f, .int .i64 s, .int .i64 Y, .int .i64 Z], .bool J]) ?_ rfl ⟨by rw [HA.out.1, HA.out.2, HPK.out], by have := HKP.out; (repeat (with_reducible first | exact Kp.refl _ | assumption | refine Kp.drew ?_ | refine Kp.drewN ?_ _ | refine Kp.alloc ?_ _ | refine Kp.setCell ?_ (by first | (simp; done) | (simp; omega) | (dsimp only; omega)) _ | refine Kp.trans ?_ (by assumption)))⟩
      all_goals first
        | (simp [results, Try.results15, go_sem, t0, t1, t2, t3, v0, v1, v2, v3]; done)
        | (simp [results, Try.results15, go_sem, r0, r1, r2, r3, s0, s1, s2, s3]; done)
end Go.Proofs.Ytgkjckhjmphoaaa
