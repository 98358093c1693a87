/- CanTime: the contracts. -/
import Derived.Test.YtpafcambfmkmiaaGlX
import Derived.Test.YtpafcambfmkmiaaGlT
set_option linter.unusedVariables false
namespace Go.Proofs.Ytpafcambfmkmiaa
open Go.RowKit
theorem getD_of {xs : List Int} {k : Nat} (hk : k < xs.length) : xs[k] = xs.getD k 0 := by
  rw [List.getD_eq_getElem?_getD, List.getElem?_eq_getElem hk]; rfl
theorem hasInt_any (v : Value) (xs : List Int) (m : Int) (w : World) (hn : xs.length ≤ 1048576) (hr : RdI w v xs) :
    Calls Try.prog 31 #[v, .int .i64 m] w fun e w' => e = .returned (.bool (decide (m ∈ xs))) ∧ Kp w w' := by
  obtain ⟨A, c, rfl, hr⟩ := hr
  obtain ⟨n, hnn⟩ : ∃ n, n = xs.length := ⟨_, rfl⟩
  rw [← hnn] at hn hr ⊢
  have HR := Lib.hid hr
  have HL := Lib.hid hnn
  clear hr hnn
  obtain ⟨bb, hbb⟩ : ∃ bb, bb = decide (m ∈ xs) := ⟨_, rfl⟩
  rw [← hbb]
  have HBB := Lib.hid hbb
  clear hbb
  go_enter Try.func31, Try.ntmps31
  go_wp2
  go_loopw [9] (fun i wr => ∃ k : Nat, k ≤ n ∧ i = .int .i64 k ∧ (∀ j, j < k → xs.getD j 0 ≠ m) ∧ Kp w wr) (fun i _ => n - (intOf i).toNat)
  case atStart => exact ⟨0, by omega, rfl, fun j h => by omega, Kp.refl w⟩
  case round =>
    obtain ⟨k, hk, rfl, hne, hkp⟩ := hrel
    have HNE := Lib.hid hne
    clear hne
    by_cases hlt : k < n
    · have LL := HL.out
      obtain ⟨b, off, u, rfl, hb, hu, hc⟩ := (HR.out.kp hkp).cellOf (k := k) (by omega)
      have cx := hc k _ (get_map (by omega))
      rw [getD_of] at cx
      obtain ⟨x, hx⟩ : ∃ x, x = xs.getD k 0 := ⟨_, rfl⟩
      rw [← hx] at cx
      have HX := Lib.hid hx
      clear hu hc hx LL
      by_cases he : x = m
      · have HE := Lib.hid (show bb = true by rw [HBB.out, ← he, HX.out]; exact decide_eq_true (by rw [← getD_of (by have := HL.out; omega)]; exact List.getElem_mem _))
        go_wp2
        go_ret
        exact ⟨by (rw [HE.out]) <;> rfl, hkp⟩
      · go_wp2
        go_roundw
        case rel => exact ⟨k + 1, by omega, by go_num, fun j hj => by rcases Nat.lt_succ_iff_lt_or_eq.1 hj with h | h; exact HNE.out j h; rw [h, ← HX.out]; exact he, hkp⟩
        case measure => simp [intOf]; omega
    · obtain rfl : k = n := by omega
      have HE := Lib.hid (show bb = false by
        rw [HBB.out]
        refine decide_eq_false fun hm => ?_
        obtain ⟨j, hj, e⟩ := List.mem_iff_getElem.1 hm
        refine HNE.out j (by have := HL.out; omega) ?_
        rw [← getD_of hj]; exact e)
      go_wp2
      go_ret
      exact ⟨by (rw [HE.out]) <;> rfl, hkp⟩
theorem tim_last (f s m : Int) : m ∈ timM f s m ↔ 0 < (timM f s m).length ∧ (timM f s m).getD ((timM f s m).length - 1) 0 = m := by
  rw [timM]
  split
  · rename_i h
    simp only [Bool.and_eq_true] at h
    have hm := inB_true.1 h.2
    obtain ⟨M, rfl⟩ : ∃ M : Nat, m = (M : Int) := ⟨m.toNat, by omega⟩
    rw [Int.toNat_natCast]
    constructor
    · intro hx
      obtain ⟨k, h1, h2, h3, h4⟩ := (mem_tmL (M + 1)).1 hx
      have : k = M := by omega
      subst this
      rw [tmL, if_pos ⟨h2, h3⟩]
      refine ⟨by simp, ?_⟩
      rw [List.length_append, List.length_singleton, Nat.add_sub_cancel, List.getD_eq_getElem?_getD, List.getElem?_append_right (Nat.le_refl _)]
      simp
    · rintro ⟨h1, h2⟩
      rw [← h2]
      rw [← getD_of (by omega)]
      exact List.getElem_mem _
  · simp
theorem iCan_any (f s m : Int) (w : World) :
    Calls Try.prog 23 #[.int .i64 f, .int .i64 s, .int .i64 m] w fun e w' => e = .returned (.bool (decide (m ∈ timM f s m))) ∧ Kp w w' := by
  have hlen : (timM f s m).length ≤ 61 := timM_len _ _ _
  have hcc := iTimes_any f s m
  obtain ⟨T, hT⟩ : ∃ T, T = timM f s m := ⟨_, rfl⟩
  rw [← hT] at hlen hcc ⊢
  have HCC := Lib.hid hcc
  clear hT hcc
  go_enter Try.func23, Try.ntmps23
  go_wp2_with fail
  refine (HCC.out _).mono ?_
  rintro e w1 ⟨v, rfl, ho, hk1⟩
  have HO := Lib.hid ho
  have HK := Lib.hid hk1
  clear ho hk1
  go_wp2_with fail
  refine (hasInt_any v T m _ (by omega) HO.out.rd).mono ?_
  rintro e w2 ⟨rfl, hk2⟩
  have HK2 := Lib.hid (HK.out.trans hk2)
  clear hk2
  go_wp2_with fail
  go_ret
  exact ⟨rfl, HK2.out⟩
theorem sCan_any (f s m : Int) (w : World) :
    Calls Try.prog 22 #[.int .i64 f, .int .i64 s, .int .i64 m] w fun e w' => e = .returned (.bool (decide (m ∈ timM f s m))) ∧ Kp w w' := by
  have htl := tim_last f s m
  have hlen : (timM f s m).length ≤ 61 := timM_len _ _ _
  have hcc := sTimes_any f s m
  obtain ⟨T, hT⟩ : ∃ T, T = timM f s m := ⟨_, rfl⟩
  rw [← hT] at hlen hcc htl ⊢
  have HTL := Lib.hid htl
  have HCC := Lib.hid hcc
  obtain ⟨bb, hbb⟩ : ∃ bb, bb = decide (m ∈ T) := ⟨_, rfl⟩
  rw [← hbb]
  have HBB := Lib.hid hbb
  clear hT hcc htl hbb
  go_enter Try.func22, Try.ntmps22
  go_wp2_with fail
  refine (HCC.out _).mono ?_
  rintro e w1 ⟨v, rfl, ho, hk1⟩
  obtain ⟨A, c, rfl, hr⟩ := ho.rd
  have HR := Lib.hid hr
  have HK := Lib.hid hk1
  clear ho hk1 hr
  have htl := HTL.out
  have hbb := HBB.out
  clear HTL HBB
  obtain ⟨n, hn⟩ : ∃ n, n = T.length := ⟨_, rfl⟩
  rw [← hn] at hlen HR htl ⊢
  rcases Nat.eq_zero_or_pos n with h0 | h0
  · have HB := Lib.hid (show bb = false by rw [hbb]; exact decide_eq_false fun h => by have := (htl.1 h).1; omega)
    clear htl hbb hn
    subst h0
    go_wp2_with fail
    go_ret
    exact ⟨by (rw [HB.out]) <;> rfl, HK.out⟩
  · obtain ⟨k, rfl⟩ : ∃ k, n = k + 1 := ⟨n - 1, by omega⟩
    obtain ⟨b, off, u, rfl, hb, hu, hc⟩ := HR.out.cellOf (k := k) (by omega)
    have cx := hc k _ (get_map (by omega))
    rw [getD_of] at cx
    rw [Nat.add_sub_cancel] at htl
    obtain ⟨x, hx⟩ : ∃ x, x = T.getD k 0 := ⟨_, rfl⟩
    rw [← hx] at cx htl
    have HB := Lib.hid (show bb = decide (x = m) by rw [hbb]; exact decide_eq_decide.2 (htl.trans ⟨fun h => h.2, fun h => ⟨by omega, h⟩⟩))
    clear htl hbb hn hx hu hc
    by_cases he : x = m
    · go_wp2_with fail
      go_ret
      exact ⟨by (rw [HB.out, decide_eq_true he]) <;> rfl, HK.out⟩
    · have hxm : (x == m) = false := by simp [he]
      go_wp2_with fail
      go_ret
      exact ⟨by (rw [HB.out, decide_eq_false he, ← hxm]) <;> rfl, HK.out⟩
end Go.Proofs.Ytpafcambfmkmiaa
