/- ShiftBeam: the contracts. -/
import Derived.Test.YtnfajiokmjkebaaShift
set_option linter.unusedVariables false
namespace Go.Proofs.Ytnfajiokmjkebaa
open Go.RowKit
theorem sh_store {B : Nat} {w : World} {g n cap : Nat} {xs : List (Int × Int)} {q : Int} {k : Nat} (hl : xs.length = n) (hk : k < n) (h : OwP B w (.slice (some ⟨g, 0, none⟩) n cap) (shK xs q k)) :
    w.cell? ⟨g, k * 2, none⟩ = some (.int .i64 (pA xs k)) ∧ w.frozen? ⟨g, k * 2, none⟩ = false ∧ OwP B (w.setCell ⟨g, k * 2, none⟩ (.int .i64 (pA xs k + q))) (.slice (some ⟨g, 0, none⟩) n cap) (shK xs q (k + 1)) := by
  unfold OwP at h ⊢
  have hlen := shK_length xs q k
  rw [hlen, hl] at h
  rw [shK_length, hl]
  have hg := (pC_get (shK xs q k) k (by omega)).1
  have ea : pA (shK xs q k) k = pA xs k := by rw [pA, shK_rest xs q k k (Nat.le_refl _)]; rfl
  have eb : pB (shK xs q k) k = pB xs k := by rw [pB, shK_rest xs q k k (Nat.le_refl _)]; rfl
  refine ⟨by rw [World.ownsRow.cellAt h _ (by omega), hg, ea], World.ownsRow.frozenAt h _, ?_⟩
  have hs := (World.ownsRow.stored h (k * 2) (.int .i64 (pA xs k + q))).1
  rw [pC_set0 _ _ (by omega), eb] at hs
  exact hs
set_option maxHeartbeats 3200000 in
theorem iShift_any (A : Option Addr) (n c : Nat) (xs : List (Int × Int)) (q : Int) (w : World) (hl : xs.length = n) (hn : n ≤ 1048576) (hr : RdP w A n xs) :
    Calls Try.prog 21 #[.slice A n c, .int .i64 q] w fun e w' => ∃ v, e = .returned (.tuple #[v, .bool (okShift xs q)]) ∧ OwP w.heap.size w' v (shiftL xs q) ∧ Kp w w' := by
  have HR := Lib.hid hr
  have HL := Lib.hid hl
  clear hr hl
  by_cases h0 : (beamB xs && inB q (-200) 200) = true
  · obtain ⟨h1, h2⟩ := Bool.and_eq_true_iff.1 h0
    have hq := inB_true.1 h2
    have HB := Lib.hid h1
    have HQ := Lib.hid h2
    clear h0 h1 h2
    go_enter Try.func21, Try.ntmps21
    go_wp2_with (first | (go_at_call 36; refine (in_any _ _ _ _).mono ?_; rintro e w' ⟨rfl, rfl⟩; rw [HQ.out]) | (go_at_call 14; refine (iBeamOk_any _ _ _ xs _ HL.out hn HR.out).mono ?_; rintro e w1 ⟨rfl, hk1⟩; rw [HB.out]))
    refine (copyBeam_any _ _ _ xs _ HL.out hn (HR.out.kp hk1)).mono ?_
    rintro e w2 ⟨v, rfl, ho, hk2⟩
    obtain ⟨A6, c6, rfl, hr6⟩ := ho.rd
    have HO := Lib.hid (ho.weak hk1.size)
    have HK := Lib.hid (hk1.trans hk2)
    rw [HL.out]
    clear ho hr6 hk1 hk2
    go_wp2_with fail
    have HN := Lib.hid (rfl : n = n)
    go_loopw [22] (fun i wr => ∃ k : Nat, k ≤ n ∧ i = .int .i64 k ∧ OwP w.heap.size wr (.slice A6 n c6) (shK xs q k) ∧ Kp w wr) (fun i _ => n - (intOf i).toNat)
    case atStart => exact ⟨0, by omega, rfl, by rw [← HL.out]; exact HO.out, HK.out⟩
    case round =>
      obtain ⟨k, hk, rfl, ho, hkp⟩ := hrel
      by_cases hlt : k < n
      · obtain ⟨g, cap, e, hb, hg⟩ := ho.form (by rw [shK_length, HL.out]; omega)
        obtain rfl : A6 = some ⟨g, 0, none⟩ := by injection e
        obtain ⟨cx, fx, hst⟩ := sh_store HL.out hlt ho
        have hX := (beamB_iff.1 HB.out).1 k (by rw [HL.out]; exact hlt)
        have hX := inB_true.1 (Bool.and_eq_true_iff.1 hX).1
        obtain ⟨X, eX⟩ : ∃ X, X = pA xs k := ⟨_, rfl⟩
        rw [← eX] at cx hX hst
        have i0 : (0 : Int) ≤ (k : Int) := by omega
        have i1 : (k : Int) < (n : Int) := by omega
        have HS := Lib.hid hst
        have HKP := Lib.hid (hkp.setCell (p := ⟨g, k * 2, none⟩) hb (.int .i64 (X + q)))
        clear eX hst ho hkp
        go_wp2_with fail
        go_roundw
        case rel => exact ⟨k + 1, by omega, by go_num, HS.out, HKP.out⟩
        case measure => simp [intOf]; omega
      · obtain rfl : k = n := by omega
        obtain ⟨A7, c7, e7, hr7⟩ := ho.rd
        have HRO := Lib.hid (show RdP wr A6 k (shK xs q k) by
          have e8 : A6 = A7 := by injection e7
          rw [e8]; rw [shK_length, HL.out] at hr7; exact hr7)
        have HO7 := Lib.hid ho
        have HK7 := Lib.hid hkp
        clear ho hkp hr7 e7
        have HLS := Lib.hid (show (shK xs q k).length = k by rw [shK_length, HL.out])
        by_cases h3 : beamB (shK xs q k) = true
        · have HT := Lib.hid h3
          have HOK := Lib.hid (show okShift xs q = true by rw [okShift, HL.out, HB.out, HQ.out, h3]; rfl)
          clear h3
          go_wp2_with (go_at_call 14; refine (iBeamOk_any _ _ _ (shK xs q k) _ HLS.out hn HRO.out).mono ?_; rintro e w1 ⟨rfl, hk1⟩; rw [HT.out])
          exact bodyPost_ret (v := .tuple #[.slice A6 k c6, .bool true]) (by simp [results, Try.results21, go_sem]) rfl ⟨_, by rw [HOK.out], by rw [shiftL, if_pos HOK.out, HL.out]; exact HO7.out.kp (by assumption), HK7.out.trans (by assumption)⟩
        · have HT := Lib.hid (show beamB (shK xs q k) = false by simpa using h3)
          have HOK := Lib.hid (show okShift xs q = false by rw [okShift, HL.out, HB.out, HQ.out, HT.out]; rfl)
          clear h3
          go_wp2_with (go_at_call 14; refine (iBeamOk_any _ _ _ (shK xs q k) _ HLS.out hn HRO.out).mono ?_; rintro e w1 ⟨rfl, hk1⟩; rw [HT.out])
          refine (copyBeam_any _ _ _ xs _ HL.out hn (HR.out.kp (HK7.out.trans (by assumption)))).mono ?_
          rintro e w2 ⟨v, rfl, ho2, hk2⟩
          have HO2 := Lib.hid (ho2.weak (HK7.out.trans (by assumption)).size)
          clear ho2
          go_wp2_with fail
          exact bodyPost_ret (v := .tuple #[v, .bool false]) (by simp [results, Try.results21, go_sem]) rfl ⟨_, by rw [HOK.out], by rw [shiftL, if_neg (by rw [HOK.out]; simp)]; exact HO2.out, (HK7.out.trans (by assumption)).trans (by assumption)⟩
  · have HOK := Lib.hid (show okShift xs q = false by rw [okShift]; simp only [Bool.not_eq_true] at h0; rw [h0]; rfl)
    have HF := Lib.hid h0
    by_cases h2 : inB q (-200) 200 = true
    · have h1 : beamB xs = false := by rw [h2, Bool.and_true] at h0; simpa using h0
      have HB := Lib.hid h1
      have HQ := Lib.hid h2
      clear h0 h1 h2
      go_enter Try.func21, Try.ntmps21
      have hk1 : Kp w w := Kp.refl w
      go_wp2_with (first | (go_at_call 36; refine (in_any _ _ _ _).mono ?_; rintro e w' ⟨rfl, rfl⟩; rw [HQ.out]) | (go_at_call 14; refine (iBeamOk_any _ _ _ xs _ HL.out hn HR.out).mono ?_; rintro e w1 ⟨rfl, hk1⟩; rw [HB.out]))
      refine (copyBeam_any _ _ _ xs _ HL.out hn (HR.out.kp (by assumption))).mono ?_
      rintro e w2 ⟨v, rfl, ho2, hk2⟩
      have HO2 := Lib.hid (ho2.weak (Kp.size (w := w) (by assumption)))
      clear ho2
      go_wp2_with fail
      exact bodyPost_ret (v := .tuple #[v, .bool false]) (by simp [results, Try.results21, go_sem]) rfl ⟨_, by rw [HOK.out], by rw [shiftL, if_neg (by rw [HOK.out]; simp)]; exact HO2.out, Kp.trans (w := w) (by assumption) hk2⟩
    · have HQ := Lib.hid (show inB q (-200) 200 = false by simpa using h2)
      have HB := Lib.hid (rfl : beamB xs = beamB xs)
      clear h0 h2
      go_enter Try.func21, Try.ntmps21
      have hk1 : Kp w w := Kp.refl w
      go_wp2_with (first | (go_at_call 36; refine (in_any _ _ _ _).mono ?_; rintro e w' ⟨rfl, rfl⟩; rw [HQ.out]) | (go_at_call 14; refine (iBeamOk_any _ _ _ xs _ HL.out hn HR.out).mono ?_; rintro e w1 ⟨rfl, hk1⟩; rw [HB.out]))
      refine (copyBeam_any _ _ _ xs _ HL.out hn (HR.out.kp (by assumption))).mono ?_
      rintro e w2 ⟨v, rfl, ho2, hk2⟩
      have HO2 := Lib.hid (ho2.weak (Kp.size (w := w) (by assumption)))
      clear ho2
      go_wp2_with fail
      exact bodyPost_ret (v := .tuple #[v, .bool false]) (by simp [results, Try.results21, go_sem]) rfl ⟨_, by rw [HOK.out], by rw [shiftL, if_neg (by rw [HOK.out]; simp)]; exact HO2.out, Kp.trans (w := w) (by assumption) hk2⟩
theorem owp_empty (w : World) : w.ownsRow w.heap.size 46 2 (.slice (some ⟨w.heap.size, 0, none⟩) 0 0) 0 [] → True := fun _ => trivial
set_option maxHeartbeats 3200000 in
theorem sShift_any (A : Option Addr) (n c : Nat) (xs : List (Int × Int)) (q : Int) (w : World) (hl : xs.length = n) (hn : n ≤ 1048576) (hr : RdP w A n xs) :
    Calls Try.prog 20 #[.slice A n c, .int .i64 q] w fun e w' => ∃ v, e = .returned (.tuple #[v, .bool (okShift xs q)]) ∧ OwP w.heap.size w' v (shiftL xs q) ∧ Kp w w' := by
  obtain ⟨i0, hi0, hz0, hz1, hz2⟩ := info_parts hang_info
  have h1c := oneCell_pairs xs
  have HR := Lib.hid hr
  have HL := Lib.hid hl
  clear hr hl
  by_cases h0 : (beamB xs && inB q (-200) 200) = true
  · obtain ⟨h1, h2⟩ := Bool.and_eq_true_iff.1 h0
    have hq := inB_true.1 h2
    have HB := Lib.hid h1
    have HQ := Lib.hid h2
    clear h0 h1 h2
    go_enter Try.func20, Try.ntmps20
    go_wp2_with (at_builtin; refine wpList_append_any _ rfl (.tmp 8) (.tmp 9) _ rfl w.heap.size 46 i0 _ 2 16 Try.underlying25 hi0 hz0 hz1 hz2 rfl (by omega) (.slice (some ⟨w.heap.size, 0, none⟩) 0 0) 0 [] rfl (World.ownsRow_made w #[] 0 (Nat.le_refl _) (by unfold maxLen; omega) rfl) w.heap.size A n c (pC xs) rfl (HR.out.alloc (Nat.le_refl _) _) h1c (by simp only [maxLen]; omega) (by omega) (by simp) ?_; intro v1 w1 hown1 hg1 hat1)
    have ho1 : OwP w.heap.size w1 v1 xs := by unfold OwP; rw [HL.out]; simpa using hown1
    have hk1 : Kp w w1 := ((Kp.refl w).alloc _).grown hg1 (by intro k e; simp [Value.ownBlock] at e; omega)
    obtain ⟨A6, c6, rfl, hr6⟩ := ho1.rd
    have HO := Lib.hid ho1
    have HK1 := Lib.hid hk1
    rw [HL.out]
    clear hown1 hg1 hat1 ho1 hr6 hk1
    go_wp2_with fail
    refine (sBeamOk_any _ _ _ xs _ HL.out hn (HR.out.kp HK1.out)).mono ?_
    rintro e w2 ⟨rfl, hk2⟩
    have HK := Lib.hid (HK1.out.trans hk2)
    have HO := Lib.hid (HO.out.kp hk2)
    clear hk2
    rw [HB.out]
    go_wp2_with (go_at_call 34; refine (l01In_any _ _ _ _).mono ?_; rintro e w' ⟨rfl, rfl⟩; rw [HQ.out])
    have HN := Lib.hid (rfl : n = n)
    go_loopw [7] (fun i wr => ∃ k : Nat, k ≤ n ∧ i = .int .i64 k ∧ OwP w.heap.size wr (.slice A6 n c6) (shK xs q k) ∧ Kp w wr) (fun i _ => n - (intOf i).toNat)
    case atStart => exact ⟨0, by omega, rfl, by rw [← HL.out]; exact HO.out, HK.out⟩
    case round =>
      obtain ⟨k, hk, rfl, ho, hkp⟩ := hrel
      by_cases hlt : k < n
      · obtain ⟨g, cap, e, hb, hg⟩ := ho.form (by rw [shK_length, HL.out]; omega)
        obtain rfl : A6 = some ⟨g, 0, none⟩ := by injection e
        obtain ⟨cx, fx, hst⟩ := sh_store HL.out hlt ho
        have hX := (beamB_iff.1 HB.out).1 k (by rw [HL.out]; exact hlt)
        have hX := inB_true.1 (Bool.and_eq_true_iff.1 hX).1
        obtain ⟨X, eX⟩ : ∃ X, X = pA xs k := ⟨_, rfl⟩
        rw [← eX] at cx hX hst
        have i0 : (0 : Int) ≤ (k : Int) := by omega
        have i1 : (k : Int) < (n : Int) := by omega
        have HS := Lib.hid hst
        have HKP := Lib.hid (hkp.setCell (p := ⟨g, k * 2, none⟩) hb (.int .i64 (X + q)))
        clear eX hst ho hkp
        go_wp2_with fail
        go_roundw
        case rel => exact ⟨k + 1, by omega, by go_num, HS.out, HKP.out⟩
        case measure => simp [intOf]; omega
      · obtain rfl : k = n := by omega
        obtain ⟨A7, c7, e7, hr7⟩ := ho.rd
        have HRO := Lib.hid (show RdP wr A6 k (shK xs q k) by
          have e8 : A6 = A7 := by injection e7
          rw [e8]; rw [shK_length, HL.out] at hr7; exact hr7)
        have HO7 := Lib.hid ho
        have HK7 := Lib.hid hkp
        clear ho hkp hr7 e7
        have HLS := Lib.hid (show (shK xs q k).length = k by rw [shK_length, HL.out])
        by_cases h3 : beamB (shK xs q k) = true
        · have HT := Lib.hid h3
          have HOK := Lib.hid (show okShift xs q = true by rw [okShift, HL.out, HB.out, HQ.out, h3]; rfl)
          clear h3
          go_wp2_with (go_at_call 12; refine (sBeamOk_any _ _ _ (shK xs q k) _ HLS.out hn HRO.out).mono ?_; rintro e w1 ⟨rfl, hk1⟩; rw [HT.out])
          exact bodyPost_ret (v := .tuple #[.slice A6 k c6, .bool true]) (by simp [results, Try.results20, go_sem]) rfl ⟨_, by rw [HOK.out], by rw [shiftL, if_pos HOK.out, HL.out]; exact HO7.out.kp (by assumption), HK7.out.trans (by assumption)⟩
        · have HT := Lib.hid (show beamB (shK xs q k) = false by simpa using h3)
          have HOK := Lib.hid (show okShift xs q = false by rw [okShift, HL.out, HB.out, HQ.out, HT.out]; rfl)
          clear h3
          go_wp2_with fail
          refine (sBeamOk_any _ _ _ (shK xs q k) _ HLS.out hn HRO.out).mono ?_
          rw [HT.out]
          rintro e w8 ⟨rfl, hk8⟩
          have HKX := Lib.hid (HK7.out.trans hk8)
          clear hk8
          go_wp2_with (at_builtin; refine wpList_append_any _ rfl (.tmp 40) (.tmp 41) _ rfl w8.heap.size 46 i0 _ 2 16 Try.underlying25 hi0 hz0 hz1 hz2 rfl (by omega) (.slice (some ⟨w8.heap.size, 0, none⟩) 0 0) 0 [] rfl (World.ownsRow_made w8 #[] 0 (Nat.le_refl _) (by unfold maxLen; omega) rfl) w8.heap.size A k c (pC xs) rfl ((Reads.kp HR.out HKX.out).alloc (Nat.le_refl _) _) h1c (by simp only [maxLen]; omega) (by omega) (by simp) ?_; intro v2 w9 hown2 hg2 hat2)
          have ho2 : OwP w8.heap.size w9 v2 xs := by unfold OwP; rw [HL.out]; simpa using hown2
          have hk9 : Kp w8 w9 := ((Kp.refl w8).alloc _).grown hg2 (by intro k' e; simp [Value.ownBlock] at e; omega)
          exact bodyPost_ret (v := .tuple #[v2, .bool false]) (by simp [results, Try.results20, go_sem]) rfl ⟨_, by rw [HOK.out], by rw [shiftL, if_neg (by rw [HOK.out]; simp)]; exact ho2.weak HKX.out.size, HKX.out.trans hk9⟩
  · have HOK := Lib.hid (show okShift xs q = false by rw [okShift]; simp only [Bool.not_eq_true] at h0; rw [h0]; rfl)
    have HF := Lib.hid h0
    obtain ⟨b1, hb1⟩ : ∃ b, b = beamB xs := ⟨_, rfl⟩
    obtain ⟨b2, hb2⟩ : ∃ b, b = inB q (-200) 200 := ⟨_, rfl⟩
    rw [← hb1, ← hb2] at h0
    have HB := Lib.hid hb1.symm
    have HQ := Lib.hid hb2.symm
    clear hb1 hb2
    cases b1 with
    | false =>
      clear h0
      go_enter Try.func20, Try.ntmps20
      go_wp2_with (at_builtin; refine wpList_append_any _ rfl (.tmp 8) (.tmp 9) _ rfl w.heap.size 46 i0 _ 2 16 Try.underlying25 hi0 hz0 hz1 hz2 rfl (by omega) (.slice (some ⟨w.heap.size, 0, none⟩) 0 0) 0 [] rfl (World.ownsRow_made w #[] 0 (Nat.le_refl _) (by unfold maxLen; omega) rfl) w.heap.size A n c (pC xs) rfl (HR.out.alloc (Nat.le_refl _) _) h1c (by simp only [maxLen]; omega) (by omega) (by simp) ?_; intro v1 w1 hown1 hg1 hat1)
      have ho1 : OwP w.heap.size w1 v1 xs := by unfold OwP; rw [HL.out]; simpa using hown1
      have hk1 : Kp w w1 := ((Kp.refl w).alloc _).grown hg1 (by intro k e; simp [Value.ownBlock] at e; omega)
      obtain ⟨A6, c6, rfl, hr6⟩ := ho1.rd
      have HO := Lib.hid ho1
      have HK1 := Lib.hid hk1
      rw [HL.out]
      clear hown1 hg1 hat1 ho1 hr6 hk1
      go_wp2_with fail
      refine (sBeamOk_any _ _ _ xs _ HL.out hn (HR.out.kp HK1.out)).mono ?_
      rintro e w2 ⟨rfl, hk2⟩
      have HK := Lib.hid (HK1.out.trans hk2)
      have HO := Lib.hid (HO.out.kp hk2)
      clear hk2
      rw [HB.out]
      go_wp2_with (go_at_call 34; refine (l01In_any _ _ _ _).mono ?_; rintro e w' ⟨rfl, rfl⟩; rw [HQ.out])
      exact bodyPost_ret (v := .tuple #[.slice A6 n c6, .bool false]) (by simp [results, Try.results20, go_sem]) rfl ⟨_, by rw [HOK.out], by rw [shiftL, if_neg (by rw [HOK.out]; simp)]; have := HO.out; rw [HL.out] at this; exact this, HK.out⟩
    | true =>
      cases b2 with
      | true => simp at h0
      | false =>
      clear h0
      go_enter Try.func20, Try.ntmps20
      go_wp2_with (at_builtin; refine wpList_append_any _ rfl (.tmp 8) (.tmp 9) _ rfl w.heap.size 46 i0 _ 2 16 Try.underlying25 hi0 hz0 hz1 hz2 rfl (by omega) (.slice (some ⟨w.heap.size, 0, none⟩) 0 0) 0 [] rfl (World.ownsRow_made w #[] 0 (Nat.le_refl _) (by unfold maxLen; omega) rfl) w.heap.size A n c (pC xs) rfl (HR.out.alloc (Nat.le_refl _) _) h1c (by simp only [maxLen]; omega) (by omega) (by simp) ?_; intro v1 w1 hown1 hg1 hat1)
      have ho1 : OwP w.heap.size w1 v1 xs := by unfold OwP; rw [HL.out]; simpa using hown1
      have hk1 : Kp w w1 := ((Kp.refl w).alloc _).grown hg1 (by intro k e; simp [Value.ownBlock] at e; omega)
      obtain ⟨A6, c6, rfl, hr6⟩ := ho1.rd
      have HO := Lib.hid ho1
      have HK1 := Lib.hid hk1
      rw [HL.out]
      clear hown1 hg1 hat1 ho1 hr6 hk1
      go_wp2_with fail
      refine (sBeamOk_any _ _ _ xs _ HL.out hn (HR.out.kp HK1.out)).mono ?_
      rintro e w2 ⟨rfl, hk2⟩
      have HK := Lib.hid (HK1.out.trans hk2)
      have HO := Lib.hid (HO.out.kp hk2)
      clear hk2
      rw [HB.out]
      go_wp2_with (go_at_call 34; refine (l01In_any _ _ _ _).mono ?_; rintro e w' ⟨rfl, rfl⟩; rw [HQ.out])
      exact bodyPost_ret (v := .tuple #[.slice A6 n c6, .bool false]) (by simp [results, Try.results20, go_sem]) rfl ⟨_, by rw [HOK.out], by rw [shiftL, if_neg (by rw [HOK.out]; simp)]; have := HO.out; rw [HL.out] at this; exact this, HK.out⟩
end Go.Proofs.Ytnfajiokmjkebaa
