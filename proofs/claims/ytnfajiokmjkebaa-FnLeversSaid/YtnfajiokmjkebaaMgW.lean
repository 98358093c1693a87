/- MergeHangs: the contract of the program's. -/
import Derived.Test.YtnfajiokmjkebaaMgC
import Derived.Maps.RangeWalk
import Derived.Maps.OwnSet
set_option linter.unusedVariables false
namespace Go.Proofs.Ytnfajiokmjkebaa
open Go.RowKit Go.Maps
theorem law3 : Keyed Try.prog 3 := int_keyed Try.underlying3
theorem zero3 (w : World) : (zeroValue 3).run Try.prog w = .ok (.int .i64 0) w := by kernel_rfl
theorem gset (W : World) (b j : Nat) (v : Value) : W.grownBy (W.setCell ⟨b, j, none⟩ v) (some b) :=
  ⟨rfl, rfl, rfl, by simp, fun k _ hk => Below.heap_setCell _ _ _ k (fun e => hk (by rw [e]))⟩
theorem cell_gb {w W : World} {r : Option Nat} {p : Addr} {v : Value} (h : w.grownBy W r) (hne : some p.block ≠ r) (hc : w.cell? p = some v) : W.cell? p = some v :=
  (World.cell?_of_block (h.block p.block (cell_lt hc) hne)).trans hc
theorem froz_gb {w W : World} {r : Option Nat} {p : Addr} {v : Value} {f : Bool} (h : w.grownBy W r) (hne : some p.block ≠ r) (hc : w.cell? p = some v) (hf : w.frozen? p = f) : W.frozen? p = f :=
  (World.frozen?_of_block (h.block p.block (cell_lt hc) hne)).trans hf
theorem owp_none (B : Nat) (w : World) : OwP B w (.slice none 0 0) [] := ⟨rfl, .inl ⟨rfl, rfl⟩⟩
set_option maxRecDepth 100000 in
set_option maxHeartbeats 6400000 in
theorem iMerge_any (A : Option Addr) (n c : Nat) (xs : List (Int × Int)) (w : World) (hl : xs.length = n) (hn : n ≤ 1048576) (hr : RdP w A n xs) :
    Calls Try.prog 30 #[.slice A n c] w fun e w' => ∃ v, e = .returned v ∧ OwP w.heap.size w' v (mgM xs) ∧ Kp w w' := by
  obtain ⟨i0, hi0, hz0, hz1, hz2⟩ := info_parts hang_info
  have HR := Lib.hid hr
  have HL := Lib.hid hl
  clear hr hl
  by_cases hb : beamB xs = true
  · have HB := Lib.hid hb
    have h12 : n ≤ 12 := by have := (beamB_iff.1 hb).2; rw [← HL.out]; exact this
    clear hb
    have hmm := @run_makeMap Try.prog
    go_enter Try.func30, Try.ntmps30
    go_wp2_with fail
    refine (iBeamOk_any _ _ _ xs _ HL.out hn HR.out).mono ?_
    rw [HB.out]
    rintro e w1 ⟨rfl, hk1⟩
    have HK1 := Lib.hid hk1
    have hs1 := hk1.size
    clear hk1
    go_wp2_with fail
    have HM0 := Lib.hid (World.ownsMap_made w1 Try.prog 3 (plainElem (H := Unit) Try.prog 3))
    have HK2 := Lib.hid (HK1.out.alloc (.map #[] 0))
    go_loopw [15] (fun i wr => ∃ k : Nat, k ≤ n ∧ i = .int .i64 k ∧ wr.ownsMap Try.prog 3 (plainElem (H := Unit) Try.prog 3) w1.heap.size k (Ds xs k) ∧ Kp w wr) (fun i _ => n - (intOf i).toNat)
    case atStart => exact ⟨0, by omega, rfl, HM0.out, HK2.out⟩
    case round =>
      obtain ⟨k, hk, rfl, hown, hkp⟩ := hrel
      have HOW := Lib.hid hown
      have HKP := Lib.hid hkp
      have hsz := hkp.size
      by_cases hlt : k < n
      · obtain ⟨b, off, rfl, hbb, hc⟩ := (HR.out.kp hkp).cellOf HL.out (by omega)
        obtain ⟨cx, cy⟩ := hc k hlt
        have hp := beam_at HB.out (k := k) (by rw [HL.out]; exact hlt)
        have hds := ds_at xs (pA xs k) k
        have hsb := wtK_bd HB.out (pA xs k) k (by rw [HL.out]; exact hk)
        have hDs : Ds xs (k + 1) = (Ds xs k).put (ikey (pA xs k)) (.lit (.int .i64 (wtK xs (pA xs k) k + pB xs k))) := by rw [Ds, wtK, if_pos rfl]
        obtain ⟨X, hX⟩ : ∃ X, X = pA xs k := ⟨_, rfl⟩
        obtain ⟨Y, hY⟩ : ∃ Y, Y = pB xs k := ⟨_, rfl⟩
        rw [← hX] at cx hp hds hsb hDs
        rw [← hY] at cy hp hDs
        obtain ⟨S, hS⟩ : ∃ S, S = wtK xs X k := ⟨_, rfl⟩
        rw [← hS] at hds hsb hDs
        have p0 : (0 : Int) ≤ (k : Int) := by omega
        have p1 : (k : Int) < (n : Int) := by omega
        have HDS := Lib.hid hds
        have HDE := Lib.hid hDs
        have hkey : keyOf Try.prog 3 (.int .i64 X) = some (ikey X) := keyOf_int_mk Try.underlying3 (WalkArith.wf_i64 (by omega))
        have HKY := Lib.hid hkey
        clear hX hY hS hc hds hDs hown hkp hkey
        go_wp2_with (first
          | (at_lookup; refine wpList_lookup_own_int _ rfl _ _ 52 rfl 3 3 .i64 law3 Try.underlying52 Try.underlying3 (zero3 _) w1.heap.size k _ rfl (HOW.out.alloc _) _ _ rfl HKY.out ?_; intro c0 hat hwc; obtain rfl : c0 = S := (by have h := hat.symm.trans HDS.out; injection h with h; injection h with _ h); clear hat hwc)
          | (at_mapUpdate; refine wpList_mapUpdate_own _ rfl _ _ _ 52 rfl 3 3 law3 Try.underlying52 _ w1.heap.size k _ rfl (HOW.out.alloc _) (by unfold maxLen; omega) _ _ _ rfl rfl HKY.out _ [] (plainElem_int Try.underlying3 (WalkArith.wf_i64 (by omega))) ?_; intro w2 hown2 hg2; have HO2 := Lib.hid hown2; have HK3 := Lib.hid ((HKP.out.alloc _).grown hg2 (by intro k' e; cases e; exact hs1)); clear hown2 hg2))
        go_roundw
        case rel => exact ⟨k + 1, by omega, by go_num, by rw [HDE.out]; exact HO2.out, HK3.out⟩
        case measure => simp [intOf]; omega
      · obtain rfl : k = n := by omega
        obtain ⟨wo, hwo⟩ : ∃ wo, wo = wr := ⟨_, rfl⟩
        subst hwo
        have hmlt := hown.lt
        have hml1 : w1.heap.size < wo.heap.size := hmlt
        have HSZ := Lib.hid hown.size_le
        have HMI := Lib.hid (mgi_start xs)
        have e1 : (wo.alloc (.cells #[.slice none 0 0] 25)).heap.size = wo.heap.size + 1 := by simp
        have hcb : (wo.alloc (.cells #[.slice none 0 0] 25)).cell? ⟨wo.heap.size, 0, none⟩ = some (.slice none 0 0) := by simp [go_sem]
        have hfb : (wo.alloc (.cells #[.slice none 0 0] 25)).frozen? ⟨wo.heap.size, 0, none⟩ = false := by simp [go_sem]
        have HCB := Lib.hid (And.intro hcb hfb)
        have HKA := Lib.hid (hkp.alloc (.cells #[.slice none 0 0] 25))
        clear hown hkp hcb hfb
        go_wp2_with (first
          | (at_range; refine wpList_range_own _ rfl _ 52 rfl 3 3 law3 Try.underlying52 (plainElem (H := Unit) Try.prog 3) w1.heap.size k _ rfl (HOW.out.alloc _) ?_; intro w0 hrg0 hg0 hs0))
        go_frame
        rw [e1] at hrg0 hs0 ⊢
        have HRG0 := Lib.hid hrg0
        have HK0 := Lib.hid (HKA.out.grown hg0 (by simp))
        have HC0 := Lib.hid (And.intro (cell_gb hg0 (by simp) HCB.out.1) (froz_gb hg0 (by simp) HCB.out.1 HCB.out.2))
        clear hrg0 hg0
        rw [HL.out] at HMI
        go_loopw [7] (fun _ wr => ∃ (left : Lit → Bool) (cnt : Nat) (Ls : List (Int × Int)) (v : Value), wr.ranges Try.prog 3 (plainElem (H := Unit) Try.prog 3) w1.heap.size (wo.heap.size + 1) k (Ds xs k) left cnt ∧ MgI xs left Ls ∧ Ls.length + cnt ≤ k ∧ wr.cell? ⟨wo.heap.size, 0, none⟩ = some v ∧ wr.frozen? ⟨wo.heap.size, 0, none⟩ = false ∧ OwP (wo.heap.size + 2) wr v Ls ∧ Kp w wr)
          (fun _ wr => wr.rangeLeft w1.heap.size (wo.heap.size + 1))
        case atStart => exact ⟨_, _, [], _, HRG0.out, HMI.out, by have := HSZ.out; simpa using this, HC0.out.1, HC0.out.2, owp_none _ _, HK0.out⟩
        case round =>
          obtain ⟨left, cnt, Ls, v, hrg, hmi, hcn, hcv, hfv, hov, hkp⟩ := hrel
          have hzr := hrg.lt
          go_wp2_with (first
            | (at_next; refine wpList_next_ranges_ii _ rfl _ rfl 3 3 .i64 .i64 law3 Try.underlying3 Try.underlying3 w1.heap.size (wo.heap.size + 1) k _ _ _ rfl hrg ?_ ?_))
          · intro hc0 hl0
            have HMI2 := Lib.hid hmi
            have HL0 := Lib.hid hl0
            have HOV := Lib.hid hov
            have HKP2 := Lib.hid hkp
            have hvne : v.ownBlock ≠ some wo.heap.size := fun e => by have := (OwP.lt hov _ e).1; omega
            have HVN := Lib.hid hvne
            clear hmi hl0 hov hkp hrg hvne
            go_wp2_with fail
            refine (sort_any (wo.heap.size + 2) wo.heap.size v Ls _ HOV.out hcv HVN.out (by omega)).mono ?_
            rintro e w5 ⟨rfl, Ms, hp, hso, ho5, hg5⟩
            have hc5 := cell_gb hg5 (fun e => HVN.out e.symm) hcv
            have HME := Lib.hid (HMI2.out.done HB.out HL0.out (fun x => hp.mem_iff) (strict_of hso ((hp.map _).nodup_iff.2 HMI2.out.nd)))
            have HO5 := Lib.hid (ho5.weak (B' := w.heap.size) (by have := HKA.out.size; omega))
            have HK5 := Lib.hid (HKP2.out.grown hg5 (fun k' e => by have := (OwP.lt HOV.out k' e).1; have := HKA.out.size; omega))
            clear hso hg5 ho5
            go_wp2_with fail
            go_ret
            exact ⟨_, rfl, by rw [HME.out]; exact HO5.out, HK5.out⟩
          · intro x c0 w5 cnt1 hwx hwc hlx hat hrg1 hlt1 hg1 hs5 hen
            have hth : thK xs x xs.length = true := by
              have := has_true_of_atKey (D := Ds xs k) (k := ikey x) hat
              rw [ds_has] at this
              rw [HL.out]; exact this
            have hwt : c0 = wtK xs x xs.length := by
              have h := (hat (.lit (.int .i64 0))).symm.trans (ds_at xs x k)
              injection h with h
              injection h with _ h
              rw [HL.out]; exact h
            have hlf : left (ikey x) = true := hlx
            have HTH := Lib.hid hth
            have HWT := Lib.hid hwt
            have hbd := wtK_bd HB.out x xs.length (Nat.le_refl _)
            rw [← hwt, HL.out] at hbd
            have hz5 : wo.heap.size + 2 ≤ w5.heap.size := by omega
            have hcv5 := cell_gb hg1 (by simp) hcv
            have hfv5 := froz_gb hg1 (by simp) hcv hfv
            have HOV := Lib.hid (hov.far hg1 (by
              cases e : v.ownBlock with
              | none => exact .inl rfl
              | some b' => exact .inr (fun e' => by injection e' with e'; have := (OwP.lt hov _ e).1; omega)))
            have HKP2 := Lib.hid (hkp.grown hg1 (by intro k' e; cases e; have := HKA.out.size; omega))
            have HRG := Lib.hid hrg1
            have HMS := Lib.hid (fun h => hmi.step hlf hth hwt h)
            have HLE := Lib.hid hrg.left_eq
            have HVB := Lib.hid (fun b' e => (OwP.lt hov b' e).1)
            clear hth hwt hlf hlx hat hrg1 hg1 hs5 hov hkp hcv hfv hmi hrg hzr
            by_cases h1000 : 1000 < c0
            · have HE := Lib.hid (mg_over HB.out HTH.out (by rw [← HWT.out]; exact h1000))
              go_wp2_with fail
              go_ret
              exact ⟨_, rfl, by rw [HE.out]; exact owp_none _ _, HKP2.out⟩
            · have HMI3 := Lib.hid (HMS.out (by omega))
              obtain ⟨Av, cv, rfl, hrd⟩ := HOV.out.rd
              have HOW5 := Lib.hid (show w5.ownsRow (wo.heap.size + 2) 46 2 (.slice Av Ls.length cv) Ls.length (pC Ls) from HOV.out)
              clear hrd
              go_wp2_with (first
                | (at_builtin; refine wpList_append_any _ rfl (.tmp 36) (.tmp 40) _ rfl (wo.heap.size + 2) 46 i0 _ 2 16 Try.underlying25 hi0 hz0 hz1 hz2 rfl (by omega) (.slice Av Ls.length cv) Ls.length (pC Ls) rfl (HOW5.out.alloc _) (w5.heap.size + 1) (some ⟨w5.heap.size, 0, none⟩) 1 1 (pC [(x, c0)]) rfl (reads_pair _ _ _ _) (oneCell_pairs _) (by simp only [maxLen]; omega) (by omega) (by simp; omega) ?_; intro v6 w6 hown6 hg6 hat6; have HO6 := Lib.hid (owp_add (p := (x, c0)) rfl hown6); have HG6 := Lib.hid hg6; have hc6 := cell_gb hg6 (fun e => by have h := HVB.out wo.heap.size e.symm; omega) (cell_alloc hcv5 _); have hf6 := froz_gb hg6 (fun e => by have h := HVB.out wo.heap.size e.symm; omega) (cell_alloc hcv5 _) (froz_gb (World.grownBy_alloc w5 _ none) (by simp) hcv5 hfv5); clear hown6 hg6 hat6; obtain ⟨A6, c6, e6, hrd6⟩ := (HO6.out).rd; subst e6; clear hrd6))
              have h6 := HO6.out
              simp only [List.length_append, List.length_cons, List.length_nil, Nat.zero_add] at h6
              have hm6 : ∀ m, m < wo.heap.size + 2 → some m ≠ (Value.slice Av Ls.length cv).ownBlock := fun m hm e => by have h := HVB.out m e.symm; omega
              have hsw := HKA.out.size
              rw [e1] at hsw
              have hrg6 := ((HRG.out.alloc (.cells #[.int .i64 x, .int .i64 c0] 46)).kept HG6.out (hm6 _ (by omega)) (hm6 _ (by omega))).kept (gset w6 wo.heap.size 0 (.slice A6 (Ls.length + 1) c6)) (fun e => by injection e with e; omega) (fun e => by injection e with e; omega)
              have hk6 := ((HKP2.out.alloc (.cells #[.int .i64 x, .int .i64 c0] 46)).grown HG6.out (fun m e => by have h := HVB.out m e; omega)).grown (gset w6 wo.heap.size 0 (.slice A6 (Ls.length + 1) c6)) (fun m e => by injection e with e; omega)
              have ho6 := h6.far (gset w6 wo.heap.size 0 (.slice A6 (Ls.length + 1) c6)) (by
                cases e : (Value.slice A6 (Ls.length + 1) c6).ownBlock with
                | none => exact .inl rfl
                | some b' => exact .inr (fun e' => by injection e' with e'; have := (OwP.lt h6 _ e).1; omega))
              go_roundw
              case rel => exact ⟨_, cnt1, _, _, hrg6, HMI3.out, by simp; omega, World.cell?_setCell_same w6 _ _ hc6, by rw [World.frozen?_setCell]; exact hf6, ho6, hk6⟩
              case measure => rw [hrg6.left_eq, HLE.out]; exact hlt1
  · have hb' : beamB xs = false := by simpa using hb
    have HB := Lib.hid hb'
    have HM := Lib.hid (show mgM xs = [] by rw [mgM, if_neg (by rw [hb']; simp)])
    clear hb hb'
    go_enter Try.func30, Try.ntmps30
    go_wp2_with fail
    refine (iBeamOk_any _ _ _ xs _ HL.out hn HR.out).mono ?_
    rw [HB.out]
    rintro e w1 ⟨rfl, hk1⟩
    go_wp2_with fail
    go_ret
    exact ⟨_, rfl, by rw [HM.out]; exact owp_none _ _, hk1⟩
end Go.Proofs.Ytnfajiokmjkebaa
