/- MergeHangs: the contract of the reference. -/
import Derived.Test.YtnfajiokmjkebaaMgP
import Derived.Test.YtnfajiokmjkebaaShift
set_option linter.unusedVariables false
namespace Go.Proofs.Ytnfajiokmjkebaa
open Go.RowKit
theorem pC_app (xs ys : List (Int × Int)) : pC (xs ++ ys) = pC xs ++ pC ys := by
  induction xs with
  | nil => rfl
  | cons p l ih => simp [pC, ih]
theorem reads_pair (w : World) (a b : Int) (t : TypeId) : Reads (w.alloc (.cells #[.int .i64 a, .int .i64 b] t)) (w.heap.size + 1) 2 (some ⟨w.heap.size, 0, none⟩) 1 (pC [(a, b)]) := by
  refine ⟨rfl, fun _ => ⟨_, rfl, by simp, fun j u hu => ?_⟩⟩
  match j, hu with
  | 0, hu => simp [pC] at hu; subst hu; simp [Addr.add, go_sem]
  | 1, hu => simp [pC] at hu; subst hu; simp [Addr.add, go_sem]
theorem owp_nil (B : Nat) (w : World) (hB : B ≤ w.heap.size) : OwP B (w.alloc (.cells #[] 46)) (.slice (some ⟨w.heap.size, 0, none⟩) 0 0) [] :=
  World.ownsRow_made w #[] 0 hB (by unfold maxLen; omega) rfl
theorem owp_add {B : Nat} {w : World} {v : Value} {L : List (Int × Int)} {n : Nat} {p : Int × Int} (hl : L.length = n) (h : w.ownsRow B 46 2 v (n + 1) (pC L ++ pC [p])) : OwP B w v (L ++ [p]) := by
  unfold OwP; rw [List.length_append, hl, pC_app]; exact h
set_option maxRecDepth 20000 in
set_option maxHeartbeats 6400000 in
theorem sMerge_any (A : Option Addr) (n c : Nat) (xs : List (Int × Int)) (w : World) (hl : xs.length = n) (hn : n ≤ 1048576) (hr : RdP w A n xs) :
    Calls Try.prog 29 #[.slice A n c] w fun e w' => ∃ v, e = .returned v ∧ OwP w.heap.size w' v (mgM xs) ∧ Kp w w' := by
  obtain ⟨i0, hi0, hz0, hz1, hz2⟩ := info_parts hang_info
  have HR := Lib.hid hr
  have HL := Lib.hid hl
  clear hr hl
  have HO0 := Lib.hid (owp_nil w.heap.size w (Nat.le_refl _))
  have HK0 := Lib.hid ((Kp.refl w).alloc (.cells #[] 46))
  by_cases hb : beamB xs = true
  · have HB := Lib.hid hb
    have h12 : n ≤ 12 := by have := (beamB_iff.1 hb).2; rw [← HL.out]; exact this
    clear hb
    go_enter Try.func29, Try.ntmps29
    go_wp2_with fail
    go_loopw [3, 4] (fun o p wr => ∃ i : Nat, ∃ q : Int, p = .int .i64 q ∧ q = (i : Int) - 100 ∧ i ≤ 201 ∧ OwP w.heap.size wr o (mgL xs n i) ∧ okK xs n i ∧ Kp w wr) (fun _ p _ => (101 - intOf p).toNat)
    case atStart => exact ⟨0, _, rfl, by omega, by omega, HO0.out, fun j hj => by omega, HK0.out⟩
    case round =>
      obtain ⟨i, q, rfl, hq, hi, ho, hok, hkp⟩ := hrel
      obtain ⟨wo, hwo⟩ : ∃ wo, wo = wr := ⟨_, rfl⟩
      subst hwo
      have HO := Lib.hid ho
      have HOK := Lib.hid hok
      have HKP := Lib.hid hkp
      have hsz := hkp.size
      clear ho hok hkp
      by_cases h201 : i < 201
      · have hq2 : q ≤ 100 := by omega
        have HQ := Lib.hid hq
        have hq3 : -100 ≤ q := by omega
        clear hq
        go_wp2_with fail
        refine (sBeamOk_any _ _ _ xs _ HL.out hn (HR.out.kp HKP.out)).mono ?_
        rw [HB.out]
        rintro e w1 ⟨rfl, hk1⟩
        have HK1 := Lib.hid hk1
        clear hk1
        go_wp2_with fail
        go_loopw [5, 6, 7] (fun s t k wr => ∃ j : Nat, j ≤ n ∧ k = .int .i64 j ∧ s = .int .i64 (wtK xs q j) ∧ t = .bool (thK xs q j) ∧ Kp w1 wr) (fun _ _ k _ => n - (intOf k).toNat)
        case atStart => exact ⟨0, by omega, rfl, rfl, rfl, Kp.refl _⟩
        case round =>
          obtain ⟨j, hj, rfl, rfl, rfl, hkj⟩ := hrel
          have hsb := wtK_bd HB.out q j (by rw [HL.out]; exact hj)
          by_cases hlt : j < n
          · obtain ⟨b, off, rfl, hbb, hc⟩ := (HR.out.kp (HKP.out.trans (HK1.out.trans hkj))).cellOf HL.out (by omega)
            obtain ⟨cx, cy⟩ := hc j hlt
            have hp := beam_at HB.out (k := j) (by rw [HL.out]; exact hlt)
            have hw : wtK xs q (j + 1) = if pA xs j = q then wtK xs q j + pB xs j else wtK xs q j := rfl
            have ht : thK xs q (j + 1) = (thK xs q j || pA xs j == q) := rfl
            obtain ⟨X, hX⟩ : ∃ X, X = pA xs j := ⟨_, rfl⟩
            obtain ⟨Y, hY⟩ : ∃ Y, Y = pB xs j := ⟨_, rfl⟩
            obtain ⟨S, hS⟩ : ∃ S, S = wtK xs q j := ⟨_, rfl⟩
            obtain ⟨T, hT⟩ : ∃ T, T = thK xs q j := ⟨_, rfl⟩
            rw [← hX] at cx hp hw ht
            rw [← hY] at cy hp hw
            rw [← hS] at hw hsb ⊢
            rw [← hT] at ht ⊢
            have p0 : (0 : Int) ≤ (j : Int) := by omega
            have p1 : (j : Int) < (n : Int) := by omega
            have HKJ := Lib.hid hkj
            by_cases e : X = q
            · subst e
              have HW := Lib.hid (hw.trans (if_pos rfl))
              have HT := Lib.hid (show thK xs X (j + 1) = true by rw [ht]; simp)
              clear hX hY hS hT hw ht hc hkj
              go_wp2_with fail
              go_roundw
              case rel => exact ⟨j + 1, by omega, by go_num, by rw [HW.out], by rw [HT.out], HKJ.out⟩
              case measure => simp [intOf]; omega
            · have HW := Lib.hid (hw.trans (if_neg e))
              have HT := Lib.hid (show thK xs q (j + 1) = T by rw [ht, beq_eq_false_iff_ne.2 e, Bool.or_false])
              clear hX hY hS hT hw ht hc hkj
              go_wp2_with fail
              go_roundw
              case rel => exact ⟨j + 1, by omega, by go_num, by rw [HW.out], by rw [HT.out], HKJ.out⟩
              case measure => simp [intOf]; omega
          · obtain rfl : j = n := by omega
            have hme : mgL xs j (i + 1) = mgL xs j i ++ (if thK xs q j then [(q, wtK xs q j)] else []) := by rw [mgL, ← HQ.out]
            have hoke : 1000 < wtK xs q j → mgM xs = [] := fun h => by
              rw [mgM, if_neg]
              rintro ⟨_, hok⟩
              have := hok i h201
              rw [HL.out, ← HQ.out] at this
              omega
            have hokn : wtK xs q j ≤ 1000 → okK xs j (i + 1) := fun h m hm => by
              by_cases c : m = i
              · subst c; rw [← HQ.out]; exact h
              · exact HOK.out m (by omega)
            obtain ⟨S, hS⟩ : ∃ S, S = wtK xs q j := ⟨_, rfl⟩
            rw [← hS] at hme hoke hokn hsb ⊢
            have HKJ := Lib.hid (HKP.out.trans (HK1.out.trans hkj))
            have HOJ := Lib.hid (HO.out.kp (HK1.out.trans hkj))
            by_cases h1000 : 1000 < S
            · have HE := Lib.hid (hoke h1000)
              clear hme hoke hokn hS hkj
              go_wp2_with fail
              go_ret
              have hs2 := HKJ.out.size
              exact ⟨_, rfl, by rw [HE.out]; exact owp_nil _ _ hs2, HKJ.out.alloc _⟩
            · have HOKN := Lib.hid (hokn (by omega))
              have hml := mgL_len xs j i
              cases ht : thK xs q j with
              | false =>
                rw [ht] at hme
                have HME := Lib.hid (show mgL xs j (i + 1) = mgL xs j i by rw [hme]; simp)
                clear hme hoke hokn hS hkj
                go_wp2_with fail
                go_roundw
                case rel => exact ⟨i + 1, _, rfl, by have := HQ.out; omega, by omega, by rw [HME.out]; exact HOJ.out, HOKN.out, HKJ.out⟩
                case measure => simp [intOf]; omega
              | true =>
                rw [ht, if_pos rfl] at hme
                have HME := Lib.hid hme
                obtain ⟨Lm, hLm⟩ : ∃ Lm, Lm = mgL xs j i := ⟨_, rfl⟩
                have hoj := HOJ.out
                have HLm := Lib.hid hLm
                rw [← hLm] at hml hoj
                obtain ⟨Av, cv, rfl, hrd⟩ := hoj.rd
                have HOJ := Lib.hid hoj
                clear hoj
                have HOW := Lib.hid (show wr.ownsRow w.heap.size 46 2 (.slice Av Lm.length cv) Lm.length (pC Lm) from HOJ.out)
                clear hme hoke hokn hS hkj hLm hrd
                go_wp2_with (at_builtin; refine wpList_append_any _ rfl (.tmp 41) (.tmp 45) _ rfl w.heap.size 46 i0 _ 2 16 Try.underlying25 hi0 hz0 hz1 hz2 rfl (by omega) (.slice Av Lm.length cv) Lm.length (pC Lm) rfl (HOW.out.alloc _) (wr.heap.size + 1) (some ⟨wr.heap.size, 0, none⟩) 1 1 (pC [(q, S)]) rfl (reads_pair _ _ _ _) (oneCell_pairs _) (by simp only [maxLen]; omega) (by omega) (by simp; have := HKJ.out.size; omega) ?_; intro v2 w5 hown2 hg2 hat2; have HO5 := Lib.hid (owp_add rfl hown2); have HK5 := Lib.hid ((HKJ.out.alloc _).grown hg2 (fun k' e => (World.ownsRow.lt HOW.out k' e).1)); clear hown2 hg2 hat2)
                go_roundw
                case rel => exact ⟨i + 1, _, rfl, by have := HQ.out; omega, by omega, by rw [HME.out, ← HLm.out]; exact HO5.out, HOKN.out, HK5.out⟩
                case measure => simp [intOf]; omega
      · obtain rfl : i = 201 := by omega
        obtain rfl : q = 101 := by omega
        have HM := Lib.hid (show mgM xs = mgL xs n 201 by rw [mgM, if_pos ⟨HB.out, by rw [HL.out]; exact HOK.out⟩, HL.out])
        go_wp2_with fail
        go_ret
        exact ⟨_, rfl, by rw [HM.out]; exact HO.out, HKP.out⟩
  · have hb' : beamB xs = false := by simpa using hb
    have HB := Lib.hid hb'
    have HM := Lib.hid (show mgM xs = [] by rw [mgM, if_neg (by rw [hb']; simp)])
    clear hb hb'
    go_enter Try.func29, Try.ntmps29
    go_wp2_with fail
    refine wp_loop_rounds 1 ?_
    rw [rounds_succ]
    go_wp2_with fail
    refine (sBeamOk_any _ _ _ xs _ HL.out hn (HR.out.kp HK0.out)).mono ?_
    rw [HB.out]
    rintro e w1 ⟨rfl, hk1⟩
    go_wp2_with fail
    go_ret
    exact ⟨_, rfl, by rw [HM.out]; exact HO0.out.kp hk1, HK0.out.trans hk1⟩
end Go.Proofs.Ytnfajiokmjkebaa
