/- FnSteelyards: the walk. -/
import Derived.Test.YtamhdjbhoafbhaaSteelD
set_option linter.unusedVariables false
namespace Go.Proofs.Ytamhdjbhoafbhaa
open Go.ChangeShapes Go.WideShapes Go.ChangeAt Go.RowKit Go.Joins Go.Deep
theorem Kp.realloc {w W : World} {o : Obj} (h : Kp w (W.alloc o)) (hz : w.heap.size ≤ W.heap.size) (o' : Obj) : Kp w (W.alloc o') := by
  have h' : Below w.heap.size w (W.alloc o) := h
  have h2 : Below w.heap.size w W := by
    refine ⟨(show W.os = w.os from h'.os), (show W.tape = w.tape from h'.tape), (show W.output = w.output from h'.output), hz, fun k hk => ?_⟩
    have h1 := h'.block k hk
    rw [Below.heap_alloc W o k (Nat.lt_of_lt_of_le hk hz)] at h1
    exact h1
  exact Kp.alloc h2 o'
namespace fnSteelyards
def B3 (w : World) (b : Nat) (p s e : Int) : Prop := w.cell? ⟨b, 0, none⟩ = some (.int .i64 p) ∧ w.cell? ⟨b, 1, none⟩ = some (.int .i64 s) ∧ w.cell? ⟨b, 2, none⟩ = some (.int .i64 e)
theorem B3.kp {w W : World} {b : Nat} {p s e : Int} (h : B3 w b p s e) (hk : Kp w W) : B3 W b p s e := ⟨hk.at1 h.1, hk.at1 h.2.1, hk.at1 h.2.2⟩
theorem B3.fresh (w : World) (p s e : Int) (t : TypeId) : B3 (w.alloc (.cells #[.int .i64 p, .int .i64 s, .int .i64 e] t)) w.heap.size p s e := ⟨by simp [go_sem], by simp [go_sem], by simp [go_sem]⟩
def B2 (w : World) (b : Nat) (p s : Int) : Prop := w.cell? ⟨b, 0, none⟩ = some (.int .i64 p) ∧ w.cell? ⟨b, 1, none⟩ = some (.int .i64 s)
theorem B2.kp {w W : World} {b : Nat} {p s : Int} (h : B2 w b p s) (hk : Kp w W) : B2 W b p s := ⟨hk.at1 h.1, hk.at1 h.2⟩
theorem B2.fresh (w : World) (p s : Int) (t : TypeId) : B2 (w.alloc (.cells #[.int .i64 p, .int .i64 s] t)) w.heap.size p s := ⟨by simp [go_sem], by simp [go_sem]⟩
theorem row_at (p s e u : Int) (n k : Nat) (h : k < n) : pA (mkRow p s e u n) k = markT p s e ((k : Int) * u) ∧ pB (mkRow p s e u n) k = markU p s e ((k : Int) * u) := by
  have : (mkRow p s e u n).getD k (0, 0) = (markT p s e ((k : Int) * u), markU p s e ((k : Int) * u)) := by
    rw [mkRow, List.getD_eq_getElem?_getD, List.getElem?_eq_getElem (by simpa using h)]; simp
  rw [pA, pB, this]; exact ⟨rfl, rfl⟩
theorem mks_small {p s e u : Int} (h : SmallS p s e) (hu : 1 ≤ u ∧ u ≤ 9) : mksL p s e u 4 = mkRow p s e u 5 := by
  rw [mksL, if_pos]
  · rfl
  · refine okMk_yes (N := 4) h.ok (inB_true.2 (by omega)) (by decide) fun k hk => ?_
    have := mul_bd (a := (k : Int)) (b := u) (A := 4) (B := 9) (by omega) (by omega)
    have h0 := Int.mul_nonneg (show (0 : Int) ≤ (k : Int) by omega) (show 0 ≤ u by omega)
    exact (mark_small h (by omega)).1
theorem frac_mark {p s e l : Int} (h : SmallS p s e) (hl : 0 ≤ l ∧ l ≤ 300) : fracB (markT p s e l) (markU p s e l) = true := by
  obtain ⟨m1, m2, m3⟩ := mark_small h hl
  have ht := h.top hl
  rw [m2, m3]
  exact mf_frac (by have := h.2.1; omega) (by omega) (by have := h.2.1; omega)
theorem frac_neg {a b : Int} (h : fracB a b = true) : fracB (-a) b = true := by
  simp only [fracB, Bool.and_eq_true] at h ⊢
  have h1 := inB_true.1 h.1.1
  refine ⟨⟨inB_true.2 (by omega), h.1.2⟩, ?_⟩
  rw [Int.neg_gcd]; exact h.2
set_option maxRecDepth 20000 in
set_option maxHeartbeats 12800000 in
theorem walk (A : Option Addr) (n c : Nat) (xs : List Int) (w : World) (hl : xs.length = n) (_ : n ≤ 9223372036854775807) (hr : Reads w w.heap.size 1 A n (xs.map (.int .u8))) (hx : ∀ x ∈ xs, 0 ≤ x ∧ x ≤ 255) :
    Calls Try.prog 10 #[.slice A n c] w fun x w' => x = .returned (.bool true) ∧ Below w.heap.size w w' := by
  have HR := Lib.hid hr
  have HX := Lib.hid hx
  have HL := Lib.hid hl
  clear hr hx hl
  by_cases hbig : (1048576 : Int) < (n : Int)
  · have t0 : decide ((1048576 : Int) < (n : Int)) = true := by simpa using hbig
    go_enter Try.func10, Try.ntmps10
    go_wp2_with (go_at_call 31; refine (big_any _ _ _ _).mono ?_; rintro e w' ⟨rfl, rfl⟩)
    go_ret
    exact ⟨rfl, Below.refl _ _⟩
  · have t0 : decide ((1048576 : Int) < (n : Int)) = false := by simpa using hbig
    have hn : n ≤ 1048576 := by omega
    clear hbig
    go_enter Try.func10, Try.ntmps10
    go_wp2_with (go_at_call 31; refine (big_any _ _ _ _).mono ?_; rintro e w' ⟨rfl, rfl⟩)
    refine (drawSteelyard_any A n c xs w HL.out hn HR.out HX.out).mono ?_
    rintro x w1 ⟨p, s, e, rfl, hsm, hk1⟩
    have HS := Lib.hid hsm
    have K1 := Lib.hid (hk1.alloc (.cells #[.int .i64 p, .int .i64 s, .int .i64 e] 26))
    have S1 := Lib.hid (B3.fresh w1 p s e 26)
    clear hsm hk1
    go_wp2_with fail
    refine (at_any A n c xs 0 _ (by omega) HL.out hn (HR.out.kp K1.out) HX.out).mono ?_
    rintro x w2 ⟨l, rfl, l0, l1, hk2⟩
    have K2 := Lib.hid (K1.out.trans hk2)
    have S2 := Lib.hid (S1.out.kp hk2)
    obtain ⟨c0, c1, c2⟩ := S1.out.kp hk2
    clear hk2
    have hmk := mark_small HS.out (l := l) (by omega)
    have hld := load_small HS.out (l := l) (by omega)
    have hlv := level_small HS.out (l := l) (by omega)
    obtain ⟨T, hT⟩ : ∃ T, T = markT p s e l := ⟨_, rfl⟩
    obtain ⟨U, hU⟩ : ∃ U, U = markU p s e l := ⟨_, rfl⟩
    rw [← hT, ← hU] at hld
    rw [← hT, ← hU] at hlv
    have hm1 := hmk.1
    have HLV := Lib.hid hlv
    have HT := Lib.hid hT
    have HU := Lib.hid hU
    have HM1 := Lib.hid hm1
    have HLD := Lib.hid hld
    clear hmk hm1 hld hlv hT hU
    go_wp2_with fail
    refine (implMarkFor_any p s e l _).mono ?_
    rw [← HT.out, ← HU.out, HM1.out]
    rintro x w3 ⟨rfl, hk3⟩
    have K3 := Lib.hid ((K2.out.trans hk3).alloc (.cells #[.int .i64 T, .int .i64 U] 33))
    have S3 := Lib.hid ((S2.out.kp hk3).kp ((Kp.refl _).alloc (.cells #[.int .i64 T, .int .i64 U] 33)))
    have F3' := Lib.hid (B2.fresh w3 T U 33)
    have c0 := hk3.at1 c0
    have c1 := hk3.at1 c1
    have c2 := hk3.at1 c2
    have z3 := cell_lt c0
    simp only at z3
    clear hk3
    go_wp2_with fail
    refine (implLoadAt_any p s e T U _).mono ?_
    rw [HLD.out.1, HLD.out.2.1, HLD.out.2.2]
    rintro x w4 ⟨rfl, hk4⟩
    have K4 := Lib.hid ((K3.out.trans hk4).alloc (.cells #[.int .i64 l, .int .i64 1] 33))
    have S4 := Lib.hid ((S3.out.kp hk4).kp ((Kp.refl _).alloc (.cells #[.int .i64 l, .int .i64 1] 33)))
    have F4 := Lib.hid ((F3'.out.kp hk4).kp ((Kp.refl _).alloc (.cells #[.int .i64 l, .int .i64 1] 33)))
    have X4 := Lib.hid (B2.fresh w4 l 1 33)
    obtain ⟨c0, c1, c2⟩ := S3.out.kp hk4
    have z4 := cell_lt c0
    simp only at z4
    clear hk4
    have d1 : l.tmod 9 = l % 9 := Int.tmod_eq_emod_of_nonneg (by omega)
    obtain ⟨u, hu⟩ : ∃ u, u = 1 + l % 9 := ⟨_, rfl⟩
    have hu1 : 1 ≤ u ∧ u ≤ 9 := by omega
    obtain ⟨y, hy⟩ : ∃ y, y = l % 9 := ⟨_, rfl⟩
    rw [← hy] at d1 hu
    have hy2 : y = u - 1 := by omega
    subst hy2
    have e1 : 1 + (u - 1) = u := by omega
    clear hu hy
    go_wp2_with fail
    have hR := mks_small HS.out hu1
    refine (iMarksOf_any p s e u 4 _).mono ?_
    rw [hR]
    rintro x w5 ⟨v5, rfl, ho5, hk5⟩
    obtain ⟨Am, cm, rfl, hrm⟩ := ho5.rd
    rw [mkRow_length] at hrm ⊢
    have K5 := Lib.hid (K4.out.trans hk5)
    have S5 := Lib.hid (S4.out.kp hk5)
    have F5 := Lib.hid (F4.out.kp hk5)
    have X5 := Lib.hid (X4.out.kp hk5)
    clear hR ho5 hk5 d1 e1
    obtain ⟨b, off, rfl, hb, hc⟩ := hrm.cellOf (mkRow_length p s e u 5) (by omega)
    have h0 := hc 0 (by omega)
    have h1 := hc 1 (by omega)
    have h2 := hc 2 (by omega)
    have h3 := hc 3 (by omega)
    have h4 := hc 4 (by omega)
    clear hc hrm
    have r0 := row_at p s e u 5 0 (by omega)
    have hz := zero_small (u := u) HS.out
    rw [show (((0 : Nat) : Int) * u) = 0 * u from rfl] at r0
    have HH0 := Lib.hid h0
    rw [r0.1, r0.2, hz.1, hz.2] at h0
    have m0 : w5.cell? ⟨b, off, none⟩ = some (.int .i64 e) := h0.1
    have m1 : w5.cell? ⟨b, off + 1, none⟩ = some (.int .i64 1) := h0.2
    obtain ⟨y0, y1⟩ := X5.out
    have s2 := S5.out.2.2
    have H0 := Lib.hid h0
    have H1 := Lib.hid h1
    have H2 := Lib.hid h2
    have H3 := Lib.hid h3
    have H4 := Lib.hid h4
    clear h0 h1 h2 h3 h4 r0 hz c0 c1 c2
    go_upto_region 8 with fail
    go_quiet (fail)
    go_wp2_with fail
    go_loopw [10] (fun i wr => ∃ k : Nat, 2 ≤ k ∧ k ≤ 5 ∧ i = .int .i64 k ∧ Kp w5 wr) (fun i _ => 5 - (intOf i).toNat)
    case atStart => exact ⟨2, by omega, by omega, rfl, by first | exact (Kp.refl _).drewN _ | exact Kp.refl _⟩
    case round =>
      obtain ⟨k, hk2, hk5, rfl, hkp⟩ := hrel
      rcases (by omega : k = 2 ∨ k = 3 ∨ k = 4 ∨ k = 5) with hK | hK | hK | hK
      · subst hK
        have a2 := row_at p s e u 5 2 (by omega)
        have a1 := row_at p s e u 5 1 (by omega)
        have a0 := row_at p s e u 5 0 (by omega)
        obtain ⟨d0, d1⟩ := H2.out
        obtain ⟨d2, d3⟩ := H1.out
        obtain ⟨d4, d5⟩ := HH0.out
        rw [a2.1] at d0
        rw [a2.2] at d1
        rw [a1.1] at d2
        rw [a1.2] at d3
        rw [a0.1] at d4
        rw [a0.2] at d5
        have l1 : 0 ≤ ((1 : Nat) : Int) * u ∧ ((1 : Nat) : Int) * u ≤ 200 := by omega
        have l0' : 0 ≤ ((0 : Nat) : Int) * u ∧ ((0 : Nat) : Int) * u ≤ 200 := by omega
        have e1 : ((1 : Nat) : Int) * u + u = ((2 : Nat) : Int) * u := by omega
        have e0 : ((0 : Nat) : Int) * u + u = ((1 : Nat) : Int) * u := by omega
        have gA := gap_small HS.out (l := ((1 : Nat) : Int) * u) (d := u) l1 (by omega)
        have gB := gap_small HS.out (l := ((0 : Nat) : Int) * u) (d := u) l0' (by omega)
        rw [e1] at gA
        rw [e0] at gB
        have s2' := mark_small HS.out (l := ((2 : Nat) : Int) * u) (by omega)
        have s1' := mark_small HS.out (l := ((1 : Nat) : Int) * u) (by omega)
        have s0' := mark_small HS.out (l := ((0 : Nat) : Int) * u) (by omega)
        have f2' := frac_mark HS.out (l := ((2 : Nat) : Int) * u) (by omega)
        have f1' := frac_mark HS.out (l := ((1 : Nat) : Int) * u) (by omega)
        have f0' := frac_mark HS.out (l := ((0 : Nat) : Int) * u) (by omega)
        obtain ⟨P2, hP2⟩ : ∃ z, z = markT p s e (((2 : Nat) : Int) * u) := ⟨_, rfl⟩
        obtain ⟨Q2, hQ2⟩ : ∃ z, z = markU p s e (((2 : Nat) : Int) * u) := ⟨_, rfl⟩
        obtain ⟨P1, hP1⟩ : ∃ z, z = markT p s e (((1 : Nat) : Int) * u) := ⟨_, rfl⟩
        obtain ⟨Q1, hQ1⟩ : ∃ z, z = markU p s e (((1 : Nat) : Int) * u) := ⟨_, rfl⟩
        obtain ⟨P0, hP0⟩ : ∃ z, z = markT p s e (((0 : Nat) : Int) * u) := ⟨_, rfl⟩
        obtain ⟨Q0, hQ0⟩ : ∃ z, z = markU p s e (((0 : Nat) : Int) * u) := ⟨_, rfl⟩
        rw [← hP2] at d0 gA f2'
        rw [← hQ2] at d1 gA f2'
        rw [← hP1] at d2 gA gB f1'
        rw [← hQ1] at d3 gA gB f1'
        rw [← hP0] at d4 gB f0'
        rw [← hQ0] at d5 gB f0'
        have b1 := (fracB_bd f1').1
        have b0 := (fracB_bd f0').1
        have GA := Lib.hid gA
        have GB := Lib.hid gB
        have F2' := Lib.hid f2'
        have F1' := Lib.hid f1'
        have F0' := Lib.hid f0'
        have N1 := Lib.hid (frac_neg f1')
        have N0 := Lib.hid (frac_neg f0')
        obtain ⟨D1, hD1⟩ : ∃ z, z = mfT (u * p) s := ⟨_, rfl⟩
        obtain ⟨D2, hD2⟩ : ∃ z, z = mfU (u * p) s := ⟨_, rfl⟩
        have HD1 := Lib.hid hD1
        have HD2 := Lib.hid hD2
        have v0 : wr.cell? ⟨b, off + 4, none⟩ = some (.int .i64 P2) := hkp.at1 (by simpa using d0)
        have v1 : wr.cell? ⟨b, off + 4 + 1, none⟩ = some (.int .i64 Q2) := hkp.at1 (by simpa using d1)
        have v2 : wr.cell? ⟨b, off + 2, none⟩ = some (.int .i64 P1) := hkp.at1 (by simpa using d2)
        have v3 : wr.cell? ⟨b, off + 2 + 1, none⟩ = some (.int .i64 Q1) := hkp.at1 (by simpa using d3)
        have v4 : wr.cell? ⟨b, off, none⟩ = some (.int .i64 P0) := hkp.at1 (by simpa using d4)
        have v5 : wr.cell? ⟨b, off + 1, none⟩ = some (.int .i64 Q0) := hkp.at1 (by simpa using d5)
        have w1 : IntKind.i64.wrap ((2 : Int) - 1) = 1 := by decide
        have w2 : IntKind.i64.wrap ((2 : Int) - 2) = 0 := by decide
        have w3 : IntKind.i64.wrap (((2 : Nat) : Int) - 1) = 1 := by decide
        have w4 : IntKind.i64.wrap (((2 : Nat) : Int) - 2) = 0 := by decide
        have w5 : IntKind.i64.wrap (0 : Int) = 0 := by decide
        have w6 : IntKind.i64.wrap (1 : Int) = 1 := by decide
        have w7 : IntKind.i64.wrap (2 : Int) = 2 := by decide
        have w8 : IntKind.i64.wrap (3 : Int) = 3 := by decide
        have q1 : IntKind.i64.wrap (-P1) = -P1 := IntWalk.i64_in _ (by omega)
        have q0 : IntKind.i64.wrap (-P0) = -P0 := IntWalk.i64_in _ (by omega)
        have hrr : Kp wr wr := Kp.refl wr
        have hzb : b < wr.heap.size := Nat.lt_of_lt_of_le hb hkp.size
        have HKP := Lib.hid hkp
        clear hP2 hQ2 hP1 hQ1 hP0 hQ0 hD1 hD2 gA gB f2' f1' f0' a2 a1 a0 d0 d1 d2 d3 d4 d5 s2' s1' s0' e1 e0 hkp m0 m1 y0 y1 s2 b1 b0 l1 l0'
        go_upto_region 13 with fail
        go_cut [11, 12] (fun sa sb wx => ∃ h : Nat, wr.heap.size ≤ h ∧ sa = .pointer (some ⟨h, 0, none⟩) ∧ sb = .bool true ∧ wx.cell? ⟨h, 0, none⟩ = some (.int .i64 D1) ∧ wx.cell? ⟨h, 1, none⟩ = some (.int .i64 D2) ∧ Kp wr wx)
        case first =>
          clear v4 v5 q0
          go_region_held3 (fun w' => w'.cell? ⟨b, off + 4, none⟩ = some (.int .i64 P2) ∧ w'.cell? ⟨b, off + 4 + 1, none⟩ = some (.int .i64 Q2) ∧ w'.cell? ⟨b, off + 2, none⟩ = some (.int .i64 P1) ∧ w'.cell? ⟨b, off + 2 + 1, none⟩ = some (.int .i64 Q1) ∧ Kp wr w')
            (((try go_split_ands); (repeat' apply And.intro) <;> (first | with_reducible assumption | (with_reducible apply cell_drew; with_reducible assumption) | (with_reducible refine Kp.drew ?_; with_reducible assumption) | (with_reducible apply hk.at1; with_reducible assumption) | (refine Kp.trans ?_ hk; with_reducible assumption) | (with_reducible apply cell_alloc; with_reducible assumption) | (with_reducible refine Kp.alloc ?_ _; with_reducible assumption) | (with_reducible apply cell_drew; with_reducible apply cell_alloc; with_reducible assumption) | (refine Kp.drew (Kp.alloc ?_ _); with_reducible assumption) | (with_reducible apply cell_realloc <;> first | with_reducible assumption | (dsimp only; omega)) | (with_reducible apply Kp.realloc <;> first | with_reducible assumption | omega) | (with_reducible refine cell_set (cell_set ?_ _ ?_) _ ?_ <;> first | with_reducible assumption | (dsimp only; omega)) | (refine Kp.setCell (Kp.setCell ?_ ?_ _) ?_ _ <;> first | with_reducible assumption | (dsimp only; omega)))))
            (first | (go_at_call 34; refine (addFrac_any _ _ _ _ _ F2'.out N1.out (by have := GA.out.1; omega)).mono ?_; rw [GA.out.2.1, GA.out.2.2.1, GA.out.2.2.2, ← HD1.out, ← HD2.out]; rintro e w2 ⟨rfl, hk⟩; have hz := hk.size; (try simp at hz); (first | have hl := Kp.last2d hk | have hl := Kp.last2 hk | skip); (try have hl0 := hl.1.1); (try have hl1 := hl.2.1); (try have hf0 := hl.1.2); (try have hf1 := hl.2.2)))
          all_goals (go_wp2_with fail; go_meet; (try go_split_ands))
          all_goals refine ⟨_, ?_, rfl, rfl, ?_, ?_, ?_⟩
          all_goals first
            | with_reducible assumption
            | omega
            | (simp [go_sem]; done)
            | (simp [go_sem, hl0, hl1]; done)
        case rest =>
          obtain ⟨h11, hh11, rfl, rfl, j0, j1, hkx⟩ := hcut
          have v2 := hkx.at1 v2
          have v3 := hkx.at1 v3
          have v4 := hkx.at1 v4
          have v5 := hkx.at1 v5
          have HJ0 := Lib.hid j0
          have HJ1 := Lib.hid j1
          have HKX := Lib.hid (HKP.out.trans hkx)
          have hxx : Kp wc wc := Kp.refl wc
          have hzb : b < wc.heap.size := Nat.lt_of_lt_of_le hzb hkx.size
          clear v0 v1 hkx q1 hrr j0 j1
          go_upto_region 14 with fail
          go_cut [13, 14] (fun sa sb wy => ∃ h : Nat, wc.heap.size ≤ h ∧ sa = .pointer (some ⟨h, 0, none⟩) ∧ sb = .bool true ∧ wy.cell? ⟨h, 0, none⟩ = some (.int .i64 D1) ∧ wy.cell? ⟨h, 1, none⟩ = some (.int .i64 D2) ∧ Kp wc wy)
          case first =>
            go_region_held3 (fun w' => w'.cell? ⟨b, off + 2, none⟩ = some (.int .i64 P1) ∧ w'.cell? ⟨b, off + 2 + 1, none⟩ = some (.int .i64 Q1) ∧ w'.cell? ⟨b, off, none⟩ = some (.int .i64 P0) ∧ w'.cell? ⟨b, off + 1, none⟩ = some (.int .i64 Q0) ∧ Kp wc w')
              (((try go_split_ands); (repeat' apply And.intro) <;> (first | with_reducible assumption | (with_reducible apply cell_drew; with_reducible assumption) | (with_reducible refine Kp.drew ?_; with_reducible assumption) | (with_reducible apply hk.at1; with_reducible assumption) | (refine Kp.trans ?_ hk; with_reducible assumption) | (with_reducible apply cell_alloc; with_reducible assumption) | (with_reducible refine Kp.alloc ?_ _; with_reducible assumption) | (with_reducible apply cell_drew; with_reducible apply cell_alloc; with_reducible assumption) | (refine Kp.drew (Kp.alloc ?_ _); with_reducible assumption) | (with_reducible apply cell_realloc <;> first | with_reducible assumption | (dsimp only; omega)) | (with_reducible apply Kp.realloc <;> first | with_reducible assumption | omega) | (with_reducible refine cell_set (cell_set ?_ _ ?_) _ ?_ <;> first | with_reducible assumption | (dsimp only; omega)) | (refine Kp.setCell (Kp.setCell ?_ ?_ _) ?_ _ <;> first | with_reducible assumption | (dsimp only; omega)))))
              (first | (go_at_call 34; refine (addFrac_any _ _ _ _ _ F1'.out N0.out (by have := GB.out.1; omega)).mono ?_; rw [GB.out.2.1, GB.out.2.2.1, GB.out.2.2.2, ← HD1.out, ← HD2.out]; rintro e w2 ⟨rfl, hk⟩; have hz := hk.size; (try simp at hz); (first | have hl := Kp.last2d hk | have hl := Kp.last2 hk | skip); (try have hl0 := hl.1.1); (try have hl1 := hl.2.1); (try have hf0 := hl.1.2); (try have hf1 := hl.2.2)))
            all_goals (go_wp2_with fail; go_meet; (try go_split_ands))
            all_goals refine ⟨_, ?_, rfl, rfl, ?_, ?_, ?_⟩
            all_goals first
              | with_reducible assumption
              | omega
              | (simp [go_sem]; done)
              | (simp [go_sem, hl0, hl1]; done)
          case rest =>
            obtain ⟨h13, hh13, rfl, rfl, i0, i1, hky⟩ := hcut
            have j0 := hky.at1 HJ0.out
            have j1 := hky.at1 HJ1.out
            have HKY := Lib.hid (HKX.out.trans hky)
            clear hky v2 v3 v4 v5 q0 hxx w1 w2 w3 w4
            go_wp2_with fail
            go_roundw
            case rel => exact ⟨3, by omega, by omega, rfl, HKY.out⟩
            case measure => simp [intOf]
      · subst hK
        have a2 := row_at p s e u 5 3 (by omega)
        have a1 := row_at p s e u 5 2 (by omega)
        have a0 := row_at p s e u 5 1 (by omega)
        obtain ⟨d0, d1⟩ := H3.out
        obtain ⟨d2, d3⟩ := H2.out
        obtain ⟨d4, d5⟩ := H1.out
        rw [a2.1] at d0
        rw [a2.2] at d1
        rw [a1.1] at d2
        rw [a1.2] at d3
        rw [a0.1] at d4
        rw [a0.2] at d5
        have l1 : 0 ≤ ((2 : Nat) : Int) * u ∧ ((2 : Nat) : Int) * u ≤ 200 := by omega
        have l0' : 0 ≤ ((1 : Nat) : Int) * u ∧ ((1 : Nat) : Int) * u ≤ 200 := by omega
        have e1 : ((2 : Nat) : Int) * u + u = ((3 : Nat) : Int) * u := by omega
        have e0 : ((1 : Nat) : Int) * u + u = ((2 : Nat) : Int) * u := by omega
        have gA := gap_small HS.out (l := ((2 : Nat) : Int) * u) (d := u) l1 (by omega)
        have gB := gap_small HS.out (l := ((1 : Nat) : Int) * u) (d := u) l0' (by omega)
        rw [e1] at gA
        rw [e0] at gB
        have s2' := mark_small HS.out (l := ((3 : Nat) : Int) * u) (by omega)
        have s1' := mark_small HS.out (l := ((2 : Nat) : Int) * u) (by omega)
        have s0' := mark_small HS.out (l := ((1 : Nat) : Int) * u) (by omega)
        have f2' := frac_mark HS.out (l := ((3 : Nat) : Int) * u) (by omega)
        have f1' := frac_mark HS.out (l := ((2 : Nat) : Int) * u) (by omega)
        have f0' := frac_mark HS.out (l := ((1 : Nat) : Int) * u) (by omega)
        obtain ⟨P2, hP2⟩ : ∃ z, z = markT p s e (((3 : Nat) : Int) * u) := ⟨_, rfl⟩
        obtain ⟨Q2, hQ2⟩ : ∃ z, z = markU p s e (((3 : Nat) : Int) * u) := ⟨_, rfl⟩
        obtain ⟨P1, hP1⟩ : ∃ z, z = markT p s e (((2 : Nat) : Int) * u) := ⟨_, rfl⟩
        obtain ⟨Q1, hQ1⟩ : ∃ z, z = markU p s e (((2 : Nat) : Int) * u) := ⟨_, rfl⟩
        obtain ⟨P0, hP0⟩ : ∃ z, z = markT p s e (((1 : Nat) : Int) * u) := ⟨_, rfl⟩
        obtain ⟨Q0, hQ0⟩ : ∃ z, z = markU p s e (((1 : Nat) : Int) * u) := ⟨_, rfl⟩
        rw [← hP2] at d0 gA f2'
        rw [← hQ2] at d1 gA f2'
        rw [← hP1] at d2 gA gB f1'
        rw [← hQ1] at d3 gA gB f1'
        rw [← hP0] at d4 gB f0'
        rw [← hQ0] at d5 gB f0'
        have b1 := (fracB_bd f1').1
        have b0 := (fracB_bd f0').1
        have GA := Lib.hid gA
        have GB := Lib.hid gB
        have F2' := Lib.hid f2'
        have F1' := Lib.hid f1'
        have F0' := Lib.hid f0'
        have N1 := Lib.hid (frac_neg f1')
        have N0 := Lib.hid (frac_neg f0')
        obtain ⟨D1, hD1⟩ : ∃ z, z = mfT (u * p) s := ⟨_, rfl⟩
        obtain ⟨D2, hD2⟩ : ∃ z, z = mfU (u * p) s := ⟨_, rfl⟩
        have HD1 := Lib.hid hD1
        have HD2 := Lib.hid hD2
        have v0 : wr.cell? ⟨b, off + 6, none⟩ = some (.int .i64 P2) := hkp.at1 (by simpa using d0)
        have v1 : wr.cell? ⟨b, off + 6 + 1, none⟩ = some (.int .i64 Q2) := hkp.at1 (by simpa using d1)
        have v2 : wr.cell? ⟨b, off + 4, none⟩ = some (.int .i64 P1) := hkp.at1 (by simpa using d2)
        have v3 : wr.cell? ⟨b, off + 4 + 1, none⟩ = some (.int .i64 Q1) := hkp.at1 (by simpa using d3)
        have v4 : wr.cell? ⟨b, off + 2, none⟩ = some (.int .i64 P0) := hkp.at1 (by simpa using d4)
        have v5 : wr.cell? ⟨b, off + 2 + 1, none⟩ = some (.int .i64 Q0) := hkp.at1 (by simpa using d5)
        have w1 : IntKind.i64.wrap ((3 : Int) - 1) = 2 := by decide
        have w2 : IntKind.i64.wrap ((3 : Int) - 2) = 1 := by decide
        have w3 : IntKind.i64.wrap (((3 : Nat) : Int) - 1) = 2 := by decide
        have w4 : IntKind.i64.wrap (((3 : Nat) : Int) - 2) = 1 := by decide
        have w5 : IntKind.i64.wrap (0 : Int) = 0 := by decide
        have w6 : IntKind.i64.wrap (1 : Int) = 1 := by decide
        have w7 : IntKind.i64.wrap (2 : Int) = 2 := by decide
        have w8 : IntKind.i64.wrap (3 : Int) = 3 := by decide
        have q1 : IntKind.i64.wrap (-P1) = -P1 := IntWalk.i64_in _ (by omega)
        have q0 : IntKind.i64.wrap (-P0) = -P0 := IntWalk.i64_in _ (by omega)
        have hrr : Kp wr wr := Kp.refl wr
        have hzb : b < wr.heap.size := Nat.lt_of_lt_of_le hb hkp.size
        have HKP := Lib.hid hkp
        clear hP2 hQ2 hP1 hQ1 hP0 hQ0 hD1 hD2 gA gB f2' f1' f0' a2 a1 a0 d0 d1 d2 d3 d4 d5 s2' s1' s0' e1 e0 hkp m0 m1 y0 y1 s2 b1 b0 l1 l0'
        go_upto_region 13 with fail
        go_cut [11, 12] (fun sa sb wx => ∃ h : Nat, wr.heap.size ≤ h ∧ sa = .pointer (some ⟨h, 0, none⟩) ∧ sb = .bool true ∧ wx.cell? ⟨h, 0, none⟩ = some (.int .i64 D1) ∧ wx.cell? ⟨h, 1, none⟩ = some (.int .i64 D2) ∧ Kp wr wx)
        case first =>
          clear v4 v5 q0
          go_region_held3 (fun w' => w'.cell? ⟨b, off + 6, none⟩ = some (.int .i64 P2) ∧ w'.cell? ⟨b, off + 6 + 1, none⟩ = some (.int .i64 Q2) ∧ w'.cell? ⟨b, off + 4, none⟩ = some (.int .i64 P1) ∧ w'.cell? ⟨b, off + 4 + 1, none⟩ = some (.int .i64 Q1) ∧ Kp wr w')
            (((try go_split_ands); (repeat' apply And.intro) <;> (first | with_reducible assumption | (with_reducible apply cell_drew; with_reducible assumption) | (with_reducible refine Kp.drew ?_; with_reducible assumption) | (with_reducible apply hk.at1; with_reducible assumption) | (refine Kp.trans ?_ hk; with_reducible assumption) | (with_reducible apply cell_alloc; with_reducible assumption) | (with_reducible refine Kp.alloc ?_ _; with_reducible assumption) | (with_reducible apply cell_drew; with_reducible apply cell_alloc; with_reducible assumption) | (refine Kp.drew (Kp.alloc ?_ _); with_reducible assumption) | (with_reducible apply cell_realloc <;> first | with_reducible assumption | (dsimp only; omega)) | (with_reducible apply Kp.realloc <;> first | with_reducible assumption | omega) | (with_reducible refine cell_set (cell_set ?_ _ ?_) _ ?_ <;> first | with_reducible assumption | (dsimp only; omega)) | (refine Kp.setCell (Kp.setCell ?_ ?_ _) ?_ _ <;> first | with_reducible assumption | (dsimp only; omega)))))
            (first | (go_at_call 34; refine (addFrac_any _ _ _ _ _ F2'.out N1.out (by have := GA.out.1; omega)).mono ?_; rw [GA.out.2.1, GA.out.2.2.1, GA.out.2.2.2, ← HD1.out, ← HD2.out]; rintro e w2 ⟨rfl, hk⟩; have hz := hk.size; (try simp at hz); (first | have hl := Kp.last2d hk | have hl := Kp.last2 hk | skip); (try have hl0 := hl.1.1); (try have hl1 := hl.2.1); (try have hf0 := hl.1.2); (try have hf1 := hl.2.2)))
          all_goals (go_wp2_with fail; go_meet; (try go_split_ands))
          all_goals refine ⟨_, ?_, rfl, rfl, ?_, ?_, ?_⟩
          all_goals first
            | with_reducible assumption
            | omega
            | (simp [go_sem]; done)
            | (simp [go_sem, hl0, hl1]; done)
        case rest =>
          obtain ⟨h11, hh11, rfl, rfl, j0, j1, hkx⟩ := hcut
          have v2 := hkx.at1 v2
          have v3 := hkx.at1 v3
          have v4 := hkx.at1 v4
          have v5 := hkx.at1 v5
          have HJ0 := Lib.hid j0
          have HJ1 := Lib.hid j1
          have HKX := Lib.hid (HKP.out.trans hkx)
          have hxx : Kp wc wc := Kp.refl wc
          have hzb : b < wc.heap.size := Nat.lt_of_lt_of_le hzb hkx.size
          clear v0 v1 hkx q1 hrr j0 j1
          go_upto_region 14 with fail
          go_cut [13, 14] (fun sa sb wy => ∃ h : Nat, wc.heap.size ≤ h ∧ sa = .pointer (some ⟨h, 0, none⟩) ∧ sb = .bool true ∧ wy.cell? ⟨h, 0, none⟩ = some (.int .i64 D1) ∧ wy.cell? ⟨h, 1, none⟩ = some (.int .i64 D2) ∧ Kp wc wy)
          case first =>
            go_region_held3 (fun w' => w'.cell? ⟨b, off + 4, none⟩ = some (.int .i64 P1) ∧ w'.cell? ⟨b, off + 4 + 1, none⟩ = some (.int .i64 Q1) ∧ w'.cell? ⟨b, off + 2, none⟩ = some (.int .i64 P0) ∧ w'.cell? ⟨b, off + 2 + 1, none⟩ = some (.int .i64 Q0) ∧ Kp wc w')
              (((try go_split_ands); (repeat' apply And.intro) <;> (first | with_reducible assumption | (with_reducible apply cell_drew; with_reducible assumption) | (with_reducible refine Kp.drew ?_; with_reducible assumption) | (with_reducible apply hk.at1; with_reducible assumption) | (refine Kp.trans ?_ hk; with_reducible assumption) | (with_reducible apply cell_alloc; with_reducible assumption) | (with_reducible refine Kp.alloc ?_ _; with_reducible assumption) | (with_reducible apply cell_drew; with_reducible apply cell_alloc; with_reducible assumption) | (refine Kp.drew (Kp.alloc ?_ _); with_reducible assumption) | (with_reducible apply cell_realloc <;> first | with_reducible assumption | (dsimp only; omega)) | (with_reducible apply Kp.realloc <;> first | with_reducible assumption | omega) | (with_reducible refine cell_set (cell_set ?_ _ ?_) _ ?_ <;> first | with_reducible assumption | (dsimp only; omega)) | (refine Kp.setCell (Kp.setCell ?_ ?_ _) ?_ _ <;> first | with_reducible assumption | (dsimp only; omega)))))
              (first | (go_at_call 34; refine (addFrac_any _ _ _ _ _ F1'.out N0.out (by have := GB.out.1; omega)).mono ?_; rw [GB.out.2.1, GB.out.2.2.1, GB.out.2.2.2, ← HD1.out, ← HD2.out]; rintro e w2 ⟨rfl, hk⟩; have hz := hk.size; (try simp at hz); (first | have hl := Kp.last2d hk | have hl := Kp.last2 hk | skip); (try have hl0 := hl.1.1); (try have hl1 := hl.2.1); (try have hf0 := hl.1.2); (try have hf1 := hl.2.2)))
            all_goals (go_wp2_with fail; go_meet; (try go_split_ands))
            all_goals refine ⟨_, ?_, rfl, rfl, ?_, ?_, ?_⟩
            all_goals first
              | with_reducible assumption
              | omega
              | (simp [go_sem]; done)
              | (simp [go_sem, hl0, hl1]; done)
          case rest =>
            obtain ⟨h13, hh13, rfl, rfl, i0, i1, hky⟩ := hcut
            have j0 := hky.at1 HJ0.out
            have j1 := hky.at1 HJ1.out
            have HKY := Lib.hid (HKX.out.trans hky)
            clear hky v2 v3 v4 v5 q0 hxx w1 w2 w3 w4
            go_wp2_with fail
            go_roundw
            case rel => exact ⟨4, by omega, by omega, rfl, HKY.out⟩
            case measure => simp [intOf]
      · subst hK
        have a2 := row_at p s e u 5 4 (by omega)
        have a1 := row_at p s e u 5 3 (by omega)
        have a0 := row_at p s e u 5 2 (by omega)
        obtain ⟨d0, d1⟩ := H4.out
        obtain ⟨d2, d3⟩ := H3.out
        obtain ⟨d4, d5⟩ := H2.out
        rw [a2.1] at d0
        rw [a2.2] at d1
        rw [a1.1] at d2
        rw [a1.2] at d3
        rw [a0.1] at d4
        rw [a0.2] at d5
        have l1 : 0 ≤ ((3 : Nat) : Int) * u ∧ ((3 : Nat) : Int) * u ≤ 200 := by omega
        have l0' : 0 ≤ ((2 : Nat) : Int) * u ∧ ((2 : Nat) : Int) * u ≤ 200 := by omega
        have e1 : ((3 : Nat) : Int) * u + u = ((4 : Nat) : Int) * u := by omega
        have e0 : ((2 : Nat) : Int) * u + u = ((3 : Nat) : Int) * u := by omega
        have gA := gap_small HS.out (l := ((3 : Nat) : Int) * u) (d := u) l1 (by omega)
        have gB := gap_small HS.out (l := ((2 : Nat) : Int) * u) (d := u) l0' (by omega)
        rw [e1] at gA
        rw [e0] at gB
        have s2' := mark_small HS.out (l := ((4 : Nat) : Int) * u) (by omega)
        have s1' := mark_small HS.out (l := ((3 : Nat) : Int) * u) (by omega)
        have s0' := mark_small HS.out (l := ((2 : Nat) : Int) * u) (by omega)
        have f2' := frac_mark HS.out (l := ((4 : Nat) : Int) * u) (by omega)
        have f1' := frac_mark HS.out (l := ((3 : Nat) : Int) * u) (by omega)
        have f0' := frac_mark HS.out (l := ((2 : Nat) : Int) * u) (by omega)
        obtain ⟨P2, hP2⟩ : ∃ z, z = markT p s e (((4 : Nat) : Int) * u) := ⟨_, rfl⟩
        obtain ⟨Q2, hQ2⟩ : ∃ z, z = markU p s e (((4 : Nat) : Int) * u) := ⟨_, rfl⟩
        obtain ⟨P1, hP1⟩ : ∃ z, z = markT p s e (((3 : Nat) : Int) * u) := ⟨_, rfl⟩
        obtain ⟨Q1, hQ1⟩ : ∃ z, z = markU p s e (((3 : Nat) : Int) * u) := ⟨_, rfl⟩
        obtain ⟨P0, hP0⟩ : ∃ z, z = markT p s e (((2 : Nat) : Int) * u) := ⟨_, rfl⟩
        obtain ⟨Q0, hQ0⟩ : ∃ z, z = markU p s e (((2 : Nat) : Int) * u) := ⟨_, rfl⟩
        rw [← hP2] at d0 gA f2'
        rw [← hQ2] at d1 gA f2'
        rw [← hP1] at d2 gA gB f1'
        rw [← hQ1] at d3 gA gB f1'
        rw [← hP0] at d4 gB f0'
        rw [← hQ0] at d5 gB f0'
        have b1 := (fracB_bd f1').1
        have b0 := (fracB_bd f0').1
        have GA := Lib.hid gA
        have GB := Lib.hid gB
        have F2' := Lib.hid f2'
        have F1' := Lib.hid f1'
        have F0' := Lib.hid f0'
        have N1 := Lib.hid (frac_neg f1')
        have N0 := Lib.hid (frac_neg f0')
        obtain ⟨D1, hD1⟩ : ∃ z, z = mfT (u * p) s := ⟨_, rfl⟩
        obtain ⟨D2, hD2⟩ : ∃ z, z = mfU (u * p) s := ⟨_, rfl⟩
        have HD1 := Lib.hid hD1
        have HD2 := Lib.hid hD2
        have v0 : wr.cell? ⟨b, off + 8, none⟩ = some (.int .i64 P2) := hkp.at1 (by simpa using d0)
        have v1 : wr.cell? ⟨b, off + 8 + 1, none⟩ = some (.int .i64 Q2) := hkp.at1 (by simpa using d1)
        have v2 : wr.cell? ⟨b, off + 6, none⟩ = some (.int .i64 P1) := hkp.at1 (by simpa using d2)
        have v3 : wr.cell? ⟨b, off + 6 + 1, none⟩ = some (.int .i64 Q1) := hkp.at1 (by simpa using d3)
        have v4 : wr.cell? ⟨b, off + 4, none⟩ = some (.int .i64 P0) := hkp.at1 (by simpa using d4)
        have v5 : wr.cell? ⟨b, off + 4 + 1, none⟩ = some (.int .i64 Q0) := hkp.at1 (by simpa using d5)
        have w1 : IntKind.i64.wrap ((4 : Int) - 1) = 3 := by decide
        have w2 : IntKind.i64.wrap ((4 : Int) - 2) = 2 := by decide
        have w3 : IntKind.i64.wrap (((4 : Nat) : Int) - 1) = 3 := by decide
        have w4 : IntKind.i64.wrap (((4 : Nat) : Int) - 2) = 2 := by decide
        have w5 : IntKind.i64.wrap (0 : Int) = 0 := by decide
        have w6 : IntKind.i64.wrap (1 : Int) = 1 := by decide
        have w7 : IntKind.i64.wrap (2 : Int) = 2 := by decide
        have w8 : IntKind.i64.wrap (3 : Int) = 3 := by decide
        have q1 : IntKind.i64.wrap (-P1) = -P1 := IntWalk.i64_in _ (by omega)
        have q0 : IntKind.i64.wrap (-P0) = -P0 := IntWalk.i64_in _ (by omega)
        have hrr : Kp wr wr := Kp.refl wr
        have hzb : b < wr.heap.size := Nat.lt_of_lt_of_le hb hkp.size
        have HKP := Lib.hid hkp
        clear hP2 hQ2 hP1 hQ1 hP0 hQ0 hD1 hD2 gA gB f2' f1' f0' a2 a1 a0 d0 d1 d2 d3 d4 d5 s2' s1' s0' e1 e0 hkp m0 m1 y0 y1 s2 b1 b0 l1 l0'
        go_upto_region 13 with fail
        go_cut [11, 12] (fun sa sb wx => ∃ h : Nat, wr.heap.size ≤ h ∧ sa = .pointer (some ⟨h, 0, none⟩) ∧ sb = .bool true ∧ wx.cell? ⟨h, 0, none⟩ = some (.int .i64 D1) ∧ wx.cell? ⟨h, 1, none⟩ = some (.int .i64 D2) ∧ Kp wr wx)
        case first =>
          clear v4 v5 q0
          go_region_held3 (fun w' => w'.cell? ⟨b, off + 8, none⟩ = some (.int .i64 P2) ∧ w'.cell? ⟨b, off + 8 + 1, none⟩ = some (.int .i64 Q2) ∧ w'.cell? ⟨b, off + 6, none⟩ = some (.int .i64 P1) ∧ w'.cell? ⟨b, off + 6 + 1, none⟩ = some (.int .i64 Q1) ∧ Kp wr w')
            (((try go_split_ands); (repeat' apply And.intro) <;> (first | with_reducible assumption | (with_reducible apply cell_drew; with_reducible assumption) | (with_reducible refine Kp.drew ?_; with_reducible assumption) | (with_reducible apply hk.at1; with_reducible assumption) | (refine Kp.trans ?_ hk; with_reducible assumption) | (with_reducible apply cell_alloc; with_reducible assumption) | (with_reducible refine Kp.alloc ?_ _; with_reducible assumption) | (with_reducible apply cell_drew; with_reducible apply cell_alloc; with_reducible assumption) | (refine Kp.drew (Kp.alloc ?_ _); with_reducible assumption) | (with_reducible apply cell_realloc <;> first | with_reducible assumption | (dsimp only; omega)) | (with_reducible apply Kp.realloc <;> first | with_reducible assumption | omega) | (with_reducible refine cell_set (cell_set ?_ _ ?_) _ ?_ <;> first | with_reducible assumption | (dsimp only; omega)) | (refine Kp.setCell (Kp.setCell ?_ ?_ _) ?_ _ <;> first | with_reducible assumption | (dsimp only; omega)))))
            (first | (go_at_call 34; refine (addFrac_any _ _ _ _ _ F2'.out N1.out (by have := GA.out.1; omega)).mono ?_; rw [GA.out.2.1, GA.out.2.2.1, GA.out.2.2.2, ← HD1.out, ← HD2.out]; rintro e w2 ⟨rfl, hk⟩; have hz := hk.size; (try simp at hz); (first | have hl := Kp.last2d hk | have hl := Kp.last2 hk | skip); (try have hl0 := hl.1.1); (try have hl1 := hl.2.1); (try have hf0 := hl.1.2); (try have hf1 := hl.2.2)))
          all_goals (go_wp2_with fail; go_meet; (try go_split_ands))
          all_goals refine ⟨_, ?_, rfl, rfl, ?_, ?_, ?_⟩
          all_goals first
            | with_reducible assumption
            | omega
            | (simp [go_sem]; done)
            | (simp [go_sem, hl0, hl1]; done)
        case rest =>
          obtain ⟨h11, hh11, rfl, rfl, j0, j1, hkx⟩ := hcut
          have v2 := hkx.at1 v2
          have v3 := hkx.at1 v3
          have v4 := hkx.at1 v4
          have v5 := hkx.at1 v5
          have HJ0 := Lib.hid j0
          have HJ1 := Lib.hid j1
          have HKX := Lib.hid (HKP.out.trans hkx)
          have hxx : Kp wc wc := Kp.refl wc
          have hzb : b < wc.heap.size := Nat.lt_of_lt_of_le hzb hkx.size
          clear v0 v1 hkx q1 hrr j0 j1
          go_upto_region 14 with fail
          go_cut [13, 14] (fun sa sb wy => ∃ h : Nat, wc.heap.size ≤ h ∧ sa = .pointer (some ⟨h, 0, none⟩) ∧ sb = .bool true ∧ wy.cell? ⟨h, 0, none⟩ = some (.int .i64 D1) ∧ wy.cell? ⟨h, 1, none⟩ = some (.int .i64 D2) ∧ Kp wc wy)
          case first =>
            go_region_held3 (fun w' => w'.cell? ⟨b, off + 6, none⟩ = some (.int .i64 P1) ∧ w'.cell? ⟨b, off + 6 + 1, none⟩ = some (.int .i64 Q1) ∧ w'.cell? ⟨b, off + 4, none⟩ = some (.int .i64 P0) ∧ w'.cell? ⟨b, off + 4 + 1, none⟩ = some (.int .i64 Q0) ∧ Kp wc w')
              (((try go_split_ands); (repeat' apply And.intro) <;> (first | with_reducible assumption | (with_reducible apply cell_drew; with_reducible assumption) | (with_reducible refine Kp.drew ?_; with_reducible assumption) | (with_reducible apply hk.at1; with_reducible assumption) | (refine Kp.trans ?_ hk; with_reducible assumption) | (with_reducible apply cell_alloc; with_reducible assumption) | (with_reducible refine Kp.alloc ?_ _; with_reducible assumption) | (with_reducible apply cell_drew; with_reducible apply cell_alloc; with_reducible assumption) | (refine Kp.drew (Kp.alloc ?_ _); with_reducible assumption) | (with_reducible apply cell_realloc <;> first | with_reducible assumption | (dsimp only; omega)) | (with_reducible apply Kp.realloc <;> first | with_reducible assumption | omega) | (with_reducible refine cell_set (cell_set ?_ _ ?_) _ ?_ <;> first | with_reducible assumption | (dsimp only; omega)) | (refine Kp.setCell (Kp.setCell ?_ ?_ _) ?_ _ <;> first | with_reducible assumption | (dsimp only; omega)))))
              (first | (go_at_call 34; refine (addFrac_any _ _ _ _ _ F1'.out N0.out (by have := GB.out.1; omega)).mono ?_; rw [GB.out.2.1, GB.out.2.2.1, GB.out.2.2.2, ← HD1.out, ← HD2.out]; rintro e w2 ⟨rfl, hk⟩; have hz := hk.size; (try simp at hz); (first | have hl := Kp.last2d hk | have hl := Kp.last2 hk | skip); (try have hl0 := hl.1.1); (try have hl1 := hl.2.1); (try have hf0 := hl.1.2); (try have hf1 := hl.2.2)))
            all_goals (go_wp2_with fail; go_meet; (try go_split_ands))
            all_goals refine ⟨_, ?_, rfl, rfl, ?_, ?_, ?_⟩
            all_goals first
              | with_reducible assumption
              | omega
              | (simp [go_sem]; done)
              | (simp [go_sem, hl0, hl1]; done)
          case rest =>
            obtain ⟨h13, hh13, rfl, rfl, i0, i1, hky⟩ := hcut
            have j0 := hky.at1 HJ0.out
            have j1 := hky.at1 HJ1.out
            have HKY := Lib.hid (HKX.out.trans hky)
            clear hky v2 v3 v4 v5 q0 hxx w1 w2 w3 w4
            go_wp2_with fail
            go_roundw
            case rel => exact ⟨5, by omega, by omega, rfl, HKY.out⟩
            case measure => simp [intOf]
      · subst hK
        obtain ⟨i0, i1⟩ := F5.out.kp hkp
        obtain ⟨c0, c1, c2⟩ := S5.out.kp hkp
        have HKE := Lib.hid (K5.out.trans hkp)
        by_cases hU : U = 1
        · subst hU
          have HLL := Lib.hid (HLV.out rfl)
          clear m0 m1 y0 y1 s2
          go_wp2_with fail
          refine (implLevelWith_any _ _ _ _ _ _).mono ?_
          rw [HLL.out]
          rintro x w9 ⟨rfl, hk9⟩
          go_wp2_with fail
          go_ret
          exact ⟨rfl, HKE.out.trans hk9⟩
        · have hU2 : (U != 1) = true := by simpa using hU
          clear m0 m1 y0 y1 s2
          go_wp2_with fail
          go_ret
          exact ⟨rfl, HKE.out⟩
set_option maxRecDepth 100000 in
theorem lifted (os : Os) (started : os.Started) (H : Type) (enc : TypeId × Value → H) :
    ReturnsInHanded {} Try.checked os 10 .any (Rows.fnSteelyardsSpec.pre6 enc Try.prog Try.f10 Rows.fnSteelyardsRow.domain false) (Rows.fnSteelyardsSpec.post enc Try.prog Try.f10 false true false false) := by
  refine returnsInHanded_of_change (C := Try.checked) own started (by kernel_rfl) Try.func10
    (ChangeSpec.witness6 (enc := enc) (C := Try.checked) false ⟨#[], #[.slice none 0 0], []⟩ 8 (by kernel_rfl) (by kernel_rfl) (by kernel_rfl) (by kernel_rfl)) ?_
  intro W base args ds gs before hval hW _ _
  obtain ⟨p, q, hA0, hV, rfl, _, _⟩ := id hW
  have hA : DataW.TrodAll enc Try.prog W 0 (fun _ => true) true Try.f10.params.toList args.toList ds p := hA0
  rw [Try.params10] at hA hval
  obtain ⟨v0, vs0, d0, ds0, p0, q0, hargs, rfl, rfl, h0, r0⟩ := trodAll_cons hA
  obtain ⟨rfl, rfl, rfl⟩ := trodAll_nil r0
  obtain rfl : args = #[v0] := by cases args; simp_all
  obtain ⟨rfl, rfl⟩ := trodVars_none hV
  obtain ⟨A0, n0, c0, x0, rfl, l0, b0, rd0, wx0⟩ := open_intlist Try.underlying47 Try.underlying5 (by kernel_rfl) (hval 0 47 v0 rfl rfl) h0
  refine (walk A0 n0 c0 x0 W l0 b0 rd0 (fun x h => u8_wf (wx0 x h))).mono fun e W' ⟨he, hb⟩ => ⟨_, he, law_post laidOut (by kernel_rfl) rfl hW hb rfl rfl rfl (by kernel_rfl) (B := 4) Try.underlying4⟩
theorem proved : Rows.FnSteelyardsSaid :=
  OpenClaim.holds_of_wide 10 Try.f10 rfl rfl rfl rfl rfl rfl rfl ⟨rfl, rfl, rfl, rfl, rfl⟩ rfl rfl rfl rfl rfl (by kernel_rfl) Try.func10 (by kernel_rfl)
    (of_decide_eq_true (by kernel_rfl)) (by unfold Func.isWrapper; rw [if_neg (of_decide_eq_false (by kernel_rfl))]; exact ⟨rfl, rfl⟩)
    (fun os started H enc _ => lifted os started H enc)
#print axioms proved
end fnSteelyards
end Go.Proofs.Ytamhdjbhoafbhaa
