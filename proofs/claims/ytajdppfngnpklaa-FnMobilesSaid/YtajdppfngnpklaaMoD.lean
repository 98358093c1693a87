/- DrawMobile: what is drawn is a mobile. -/
import Derived.Test.YtajdppfngnpklaaMoG
import Derived.Test.YtajdppfngnpklaaDrawMore
import Derived.Test.YtajdppfngnpklaaLwH
set_option linter.unusedVariables false
namespace Go.Proofs.Ytajdppfngnpklaa
open Go.RowKit
theorem owp_new (w : World) (x : Int) : OwP w.heap.size (w.alloc (.cells #[.int .i64 (-1), .int .i64 (-1), .int .i64 0, .int .i64 0, .int .i64 x] 40)) (.slice (some ⟨w.heap.size, 0, none⟩) 1 1) [⟨-1, -1, 0, 0, x⟩] :=
  ⟨by simp [pC], .inr ⟨w.heap.size, 1, _, rfl, Nat.le_refl _, heap_alloc_new w _, Nat.le_refl _, by unfold maxLen; omega, by simp, by simp [pC]⟩⟩
theorem owi_empty (w : World) : OwI w.heap.size (w.alloc (.cells #[] 3)) (.slice (some ⟨w.heap.size, 0, none⟩) 0 0) [] :=
  World.ownsRow_made w #[] 0 (Nat.le_refl _) (by unfold maxLen; omega) rfl
theorem reads_ten (w : World) (x y : Int) (t : TypeId) : Reads (w.alloc (.cells #[.int .i64 (-1), .int .i64 (-1), .int .i64 0, .int .i64 0, .int .i64 x, .int .i64 (-1), .int .i64 (-1), .int .i64 0, .int .i64 0, .int .i64 y] t)) (w.heap.size + 1) 5 (some ⟨w.heap.size, 0, none⟩) 2 (pC [⟨-1, -1, 0, 0, x⟩, ⟨-1, -1, 0, 0, y⟩]) := by
  refine ⟨rfl, fun _ => ⟨_, rfl, by simp, fun j u hu => ?_⟩⟩
  match j, hu with
  | 0, hu => simp [pC] at hu; subst hu; simp [Addr.add, go_sem]
  | 1, hu => simp [pC] at hu; subst hu; simp [Addr.add, go_sem]
  | 2, hu => simp [pC] at hu; subst hu; simp [Addr.add, go_sem]
  | 3, hu => simp [pC] at hu; subst hu; simp [Addr.add, go_sem]
  | 4, hu => simp [pC] at hu; subst hu; simp [Addr.add, go_sem]
  | 5, hu => simp [pC] at hu; subst hu; simp [Addr.add, go_sem]
  | 6, hu => simp [pC] at hu; subst hu; simp [Addr.add, go_sem]
  | 7, hu => simp [pC] at hu; subst hu; simp [Addr.add, go_sem]
  | 8, hu => simp [pC] at hu; subst hu; simp [Addr.add, go_sem]
  | 9, hu => simp [pC] at hu; subst hu; simp [Addr.add, go_sem]
/-- The weights among the first parts, as listed. -/
def LfI (L : List Pt) (j : Nat) (Ls : List Int) : Prop := Ls.length ≤ j ∧ (∀ i, i < Ls.length → ∃ m : Nat, m < j ∧ Ls.getD i 0 = (m : Int) ∧ (pt L m).l = -1) ∧ (∀ m, m < j → (pt L m).l = -1 → 1 ≤ Ls.length)
theorem lfi_nil (L : List Pt) : LfI L 0 [] := ⟨Nat.le_refl _, fun i hi => by simp at hi, fun m hm => by omega⟩
theorem LfI.skip {L : List Pt} {j : Nat} {Ls : List Int} (h : LfI L j Ls) (hl : ¬ (pt L j).l = -1) : LfI L (j + 1) Ls :=
  ⟨by have := h.1; omega, fun i hi => by obtain ⟨m, a, b, c⟩ := h.2.1 i hi; exact ⟨m, by omega, b, c⟩, fun m hm e => by
    by_cases x : m = j
    · subst x; exact absurd e hl
    · exact h.2.2 m (by omega) e⟩
theorem LfI.push {L : List Pt} {j : Nat} {Ls : List Int} (h : LfI L j Ls) (hl : (pt L j).l = -1) : LfI L (j + 1) (Ls ++ [(j : Int)]) := by
  refine ⟨by have := h.1; simp; omega, fun i hi => ?_, fun m hm e => by simp⟩
  rw [List.length_append, List.length_singleton] at hi
  rcases Nat.lt_or_ge i Ls.length with h3 | h3
  · obtain ⟨m, a, b, c⟩ := h.2.1 i h3
    exact ⟨m, by omega, by rw [List.getD_eq_getElem?_getD, List.getElem?_append_left h3, ← List.getD_eq_getElem?_getD]; exact b, c⟩
  · obtain rfl : i = Ls.length := by omega
    exact ⟨j, by omega, by rw [List.getD_eq_getElem?_getD, List.getElem?_append_right (Nat.le_refl _), Nat.sub_self]; rfl, hl⟩
theorem pC_app (xs ys : List Pt) : pC (xs ++ ys) = pC xs ++ pC ys := by
  induction xs with
  | nil => rfl
  | cons p l ih => simp [pC, ih]
theorem lw_mob {L : List Pt} (h : okLw L = true) : mobB (lwL L) = true := by
  simp only [okLw, Bool.and_eq_true] at h
  obtain ⟨hm, h⟩ := h
  have h1 := mob_n1 hm
  cases e : leO 16 L 0 with
  | none => rw [e] at h; cases h
  | some zs => rw [(ok_some hm e).2]; exact (leO_mob hm (by omega) (by omega) e).1
set_option maxRecDepth 20000 in
set_option maxHeartbeats 12800000 in
theorem l14Mobile_any (g : Nat) (A : Option Addr) (n c : Nat) (xs : List Int) (w : World) (hc : Cur w g A n c xs) :
    Calls Try.prog 39 #[.pointer (some ⟨g, 0, none⟩)] w fun e w' => ∃ v L, e = .returned v ∧ mobB L = true ∧ OwP w.heap.size w' v L ∧ w.grownBy w' (some g) := by
  have HC := Lib.hid hc
  have hgz : g < w.heap.size := hc.lt
  clear hc
  obtain ⟨i0, hi0, hz0, hz1, hz2⟩ := info_parts int_info
  obtain ⟨j0, hj0, hy0, hy1, hy2⟩ := info_parts part_info
  go_enter Try.func39, Try.ntmps39
  go_wp2_with fail
  refine (l01Below_any g A n c xs 9 _ (by omega) HC.out).mono ?_
  rintro e w1 ⟨X0, rfl, x0, x1, hc1, hg1⟩
  have HM0 := Lib.hid (one_mob (x := 1 + X0) (by omega))
  have HC1 := Lib.hid hc1
  have HG1 := Lib.hid hg1
  have hs1 := hg1.size
  clear hc1 hg1
  go_wp2_with fail
  have hW : w1.grownBy (w1.alloc (.cells #[.int .i64 (-1), .int .i64 (-1), .int .i64 0, .int .i64 0, .int .i64 (1 + X0)] 40)) none := grown_alloc _ _
  have hO : OwP w.heap.size (w1.alloc (.cells #[.int .i64 (-1), .int .i64 (-1), .int .i64 0, .int .i64 0, .int .i64 (1 + X0)] 40)) (.slice (some ⟨w1.heap.size, 0, none⟩) 1 1) [⟨-1, -1, 0, 0, 1 + X0⟩] := (owp_new w1 (1 + X0)).weak hs1
  refine (l01Below_any g A n c xs 5 _ (by omega) (HC1.out.carry (row := none) hW (by simp))).mono ?_
  rintro e w2 ⟨N, rfl, n0, n1, hc2, hg2⟩
  have HO2 := Lib.hid (hO.far hg2 (.inr (by simp [Value.ownBlock]; omega)))
  have HC2 := Lib.hid hc2
  have HG2 := Lib.hid (grown_trans (grown_over HG1.out hW (by simp)) hg2)
  clear hc2 hg2 hW hO
  go_wp2_with fail
  go_loopw [3, 5] (fun o i wr => ∃ k : Nat, ∃ L : List Pt, (k : Int) ≤ N ∧ i = .int .i64 k ∧ L.length = 1 + 2 * k ∧ mobB L = true ∧ OwP w.heap.size wr o L ∧ Cur wr g A n c xs ∧ w.grownBy wr (some g)) (fun _ i _ => 10 - (intOf i).toNat)
  case atStart => exact ⟨0, _, by omega, rfl, rfl, HM0.out, HO2.out, HC2.out, HG2.out⟩
  case round =>
    obtain ⟨k, L, hk, rfl, hLl, hmo, ho, hcu, hgr⟩ := hrel
    obtain ⟨wo, hwo⟩ : ∃ wo, wo = wr := ⟨_, rfl⟩
    subst hwo
    have HMO := Lib.hid hmo
    have HO := Lib.hid ho
    have HCU := Lib.hid hcu
    have HG := Lib.hid hgr
    have hsz := hgr.size
    obtain ⟨b, cap, rfl, hb, hbs⟩ := ho.form (by omega)
    obtain ⟨m, hm⟩ : ∃ m, m = L.length := ⟨_, rfl⟩
    have hm9 : m ≤ 9 ∧ 1 ≤ m := by omega
    have HM9 := Lib.hid (show m = 1 + 2 * k by omega)
    rw [← hm]
    have HOB := Lib.hid (show OwP w.heap.size wo (.slice (some ⟨b, 0, none⟩) m cap) L by rw [hm]; exact ho)
    have HLL := Lib.hid hm.symm
    have hgwr : g < wo.heap.size := by omega
    clear hmo ho hcu hgr hm hLl HO
    by_cases hlt : (k : Int) < N
    · go_wp2_with fail
      have hI : OwI wo.heap.size (wo.alloc (.cells #[] 3)) (.slice (some ⟨wo.heap.size, 0, none⟩) 0 0) [] := owi_empty wo
      have hK0 : Kp wo (wo.alloc (.cells #[] 3)) := (Kp.refl _).alloc _
      have HI0 := Lib.hid hI
      have HK0 := Lib.hid hK0
      clear hI hK0
      go_loopw [6, 7] (fun v j wq => ∃ i : Nat, ∃ Ls : List Int, i ≤ m ∧ j = .int .i64 i ∧ LfI L i Ls ∧ OwI wo.heap.size wq v Ls ∧ Kp wo wq) (fun _ j _ => m - (intOf j).toNat)
      case atStart => exact ⟨0, [], by omega, rfl, lfi_nil _, HI0.out, HK0.out⟩
      case round =>
        obtain ⟨i, Ls, hi, rfl, hlf, hoi, hkp⟩ := hrel
        have hzq := hkp.size
        have HOQ := Lib.hid (HOB.out.kp hkp)
        have HLF := Lib.hid hlf
        have HKP := Lib.hid hkp
        have hl1 := hlf.1
        by_cases hlt2 : i < m
        · have hC := OwP.at5 HOQ.out HLL.out hlt2
          obtain ⟨q, hq⟩ : ∃ q, q = (pt L i).l := ⟨_, rfl⟩
          have c0 := hC.1
          rw [← hq] at c0
          have p0 : (0 : Int) ≤ (i : Int) := by omega
          have p1 : (i : Int) < (m : Int) := by omega
          by_cases hl : q = -1
          · subst hl
            have HPU := Lib.hid (hlf.push hq.symm)
            obtain ⟨Av, cv, rfl, hrd⟩ := hoi.rd
            have HOW := Lib.hid (show wr.ownsRow wo.heap.size 3 1 (.slice Av Ls.length cv) Ls.length (Ls.map (.int .i64)) from hoi)
            clear hC hq hlf hoi hkp hrd
            go_wp2_with (at_builtin; refine wpList_append_any _ rfl (.tmp 36) (.tmp 38) _ rfl wo.heap.size 3 i0 _ 1 8 Try.underlying42 hi0 hz0 hz1 hz2 rfl (by omega) (.slice Av Ls.length cv) Ls.length (Ls.map (.int .i64)) rfl (HOW.out.alloc _) (wr.heap.size + 1) (some ⟨wr.heap.size, 0, none⟩) 1 1 [.int .i64 (i : Int)] rfl (reads_one _ _ _) (oneCell_one _) (by simp only [maxLen]; omega) (by omega) (by simp; omega) ?_; intro v2 w5 hown2 hg2 hat2; have HO5 := Lib.hid (show OwI wo.heap.size w5 v2 (Ls ++ [(i : Int)]) by unfold OwI; rw [List.length_append, List.map_append]; exact hown2); have HK5 := Lib.hid ((HKP.out.alloc _).grown hg2 (fun k' e => (World.ownsRow.lt HOW.out k' e).1)); clear hown2 hg2 hat2)
            go_roundw
            case rel => exact ⟨i + 1, _, by omega, by go_num, HPU.out, HO5.out, HK5.out⟩
            case measure => simp [intOf]; omega
          · have HSK := Lib.hid (hlf.skip (by rw [← hq]; exact hl))
            have HOI := Lib.hid hoi
            clear hC hq hlf hoi hkp
            go_wp2_with fail
            go_roundw
            case rel => exact ⟨i + 1, _, by omega, by go_num, HSK.out, HOI.out, HKP.out⟩
            case measure => simp [intOf]; omega
        · obtain rfl : i = m := by omega
          have hne : 1 ≤ Ls.length := hlf.2.2 (i - 1) (by omega) (by have := last_leaf HMO.out; rw [HLL.out] at this; exact this)
          obtain ⟨b2, cap2, rfl, hb2, hbs2⟩ := hoi.form hne
          have HOI := Lib.hid hoi
          have HC3 := Lib.hid (HCU.out.carry (row := none) (gb_kp hkp none) (by simp))
          have HG3 := Lib.hid (grown_over HG.out (gb_kp hkp none) (by simp))
          clear hoi hlf hkp
          obtain ⟨z, hz⟩ : ∃ z, z = Ls.length := ⟨_, rfl⟩
          rw [← hz] at hne hl1 ⊢
          have HZ := Lib.hid hz.symm
          have HOI := Lib.hid (show OwI wo.heap.size wr (.slice (some ⟨b2, 0, none⟩) z cap2) Ls by rw [hz]; exact HOI.out)
          clear hz
          go_wp2_with fail
          refine (l01Below_any g A n c xs (z : Int) _ (by omega) HC3.out).mono ?_
          rintro e w5 ⟨D, rfl, D0, D1, hc5, hg5⟩
          obtain ⟨d, rfl⟩ : ∃ d : Nat, D = (d : Int) := ⟨D.toNat, by omega⟩
          obtain ⟨k0, hk0, hd0, hlf0⟩ := HLF.out.2.1 d (by rw [HZ.out]; omega)
          have hcd := (row_cell HZ.out (show d < z by omega) (HOI.out.far hg5 (.inr (by simp [Value.ownBlock]; omega)))).1
          rw [hd0] at hcd
          have HLF0 := Lib.hid hlf0
          have HO5 := Lib.hid (HOQ.out.far hg5 (.inr (by simp [Value.ownBlock]; omega)))
          have HC5 := Lib.hid hc5
          have HG5 := Lib.hid (grown_trans HG3.out hg5)
          clear hc5 hg5 hd0 hlf0
          go_wp2_with fail
          refine (l01Below_any g A n c xs 4 _ (by omega) HC5.out).mono ?_
          rintro e w6 ⟨P, rfl, P0, P1, hc6, hg6⟩
          have HO6 := Lib.hid (HO5.out.far hg6 (.inr (by simp [Value.ownBlock]; omega)))
          have HC6 := Lib.hid hc6
          have HG6 := Lib.hid (grown_trans HG5.out hg6)
          clear hc6 hg6 hcd
          go_wp2_with fail
          refine (l01Below_any g A n c xs 4 _ (by omega) HC6.out).mono ?_
          rintro e w7 ⟨Q, rfl, Q0, Q1, hc7, hg7⟩
          have HO7 := Lib.hid (HO6.out.far hg7 (.inr (by simp [Value.ownBlock]; omega)))
          have HC7 := Lib.hid hc7
          have HG7 := Lib.hid (grown_trans HG6.out hg7)
          clear hc7 hg7
          obtain ⟨hcs, hst, hg2⟩ := five_store ⟨(i : Int), (i : Int) + 1, 1 + P, 1 + Q, 0⟩ HLL.out hk0 HO7.out
          obtain ⟨⟨u0, cg0⟩, fg0⟩ := hcs 0 (by omega)
          obtain ⟨⟨u1, cg1⟩, fg1⟩ := hcs 1 (by omega)
          obtain ⟨⟨u2, cg2⟩, fg2⟩ := hcs 2 (by omega)
          obtain ⟨⟨u3, cg3⟩, fg3⟩ := hcs 3 (by omega)
          obtain ⟨⟨u4, cg4⟩, fg4⟩ := hcs 4 (by omega)
          rw [Nat.add_zero] at cg0 fg0
          have HST := Lib.hid hst
          have HGS := Lib.hid hg2
          have q0 : (0 : Int) ≤ (k0 : Int) := by omega
          have q1 : (k0 : Int) < (i : Int) := by omega
          clear hst hg2 hcs
          go_wp2_with fail
          refine (l01Below_any g A n c xs 9 _ (by omega) (HC7.out.carry HGS.out (by intro k' e; cases e; omega))).mono ?_
          rintro e w8 ⟨X1, rfl, x10, x11, hc8, hg8⟩
          have HO8 := Lib.hid (HST.out.far hg8 (.inr (by simp [Value.ownBlock]; omega)))
          have HC8 := Lib.hid hc8
          have HG8 := Lib.hid (grown_trans (grown_over HG7.out HGS.out (by intro k' e; cases e; exact hb)) hg8)
          clear hc8 hg8 cg0 cg1 cg2 cg3 cg4 fg0 fg1 fg2 fg3 fg4
          go_wp2_with fail
          refine (l01Below_any g A n c xs 9 _ (by omega) HC8.out).mono ?_
          rintro e w9 ⟨Y1, rfl, y10, y11, hc9, hg9⟩
          have HO9 := Lib.hid (HO8.out.far hg9 (.inr (by simp [Value.ownBlock]; omega)))
          have HC9 := Lib.hid hc9
          have HG9 := Lib.hid (grown_trans HG8.out hg9)
          have hs9 := (grown_trans HG8.out hg9).size
          clear hc9 hg9
          have HOW := Lib.hid (show w9.ownsRow w.heap.size 40 5 (.slice (some ⟨b, 0, none⟩) i cap) i (pC (L.set k0 ⟨(i : Int), (i : Int) + 1, 1 + P, 1 + Q, 0⟩)) by have := HO9.out; unfold OwP at this; rw [List.length_set, HLL.out] at this; exact this)
          have HMG := Lib.hid (grow_mob HMO.out (k := k0) (by rw [HLL.out]; exact hk0) HLF0.out (by rw [HLL.out]; omega) (p := 1 + P) (q := 1 + Q) (x := 1 + X1) (y := 1 + Y1) (by omega) (by omega) (by omega) (by omega))
          go_wp2_with (at_builtin; refine wpList_append_any _ rfl (.tmp 62) (.tmp 71) _ rfl w.heap.size 40 j0 _ 5 40 Try.underlying25 hj0 hy0 hy1 hy2 rfl (by omega) (.slice (some ⟨b, 0, none⟩) i cap) i (pC (L.set k0 ⟨(i : Int), (i : Int) + 1, 1 + P, 1 + Q, 0⟩)) rfl (HOW.out.alloc _) (w9.heap.size + 1) (some ⟨w9.heap.size, 0, none⟩) 2 2 (pC [⟨-1, -1, 0, 0, 1 + X1⟩, ⟨-1, -1, 0, 0, 1 + Y1⟩]) rfl (reads_ten _ _ _ _) (oneCell_parts _) (by simp only [maxLen]; omega) (by omega) (by simp; omega) ?_; intro v10 w10 hown10 hg10 hat10; have HO10 := Lib.hid hown10; have HG10 := Lib.hid hg10; clear hown10 hg10 hat10)
          have HNEW := Lib.hid (show OwP w.heap.size w10 v10 (grow L k0 (1 + P) (1 + Q) (1 + X1) (1 + Y1)) by unfold OwP; rw [grow_length, grow, HLL.out, pC_app]; exact HO10.out)
          have HGL := Lib.hid (show (grow L k0 (1 + P) (1 + Q) (1 + X1) (1 + Y1)).length = 1 + 2 * (k + 1) by rw [grow_length, HLL.out, HM9.out]; omega)
          have HC10 := Lib.hid ((HC9.out.carry (row := none) (grown_alloc w9 (.cells #[.int .i64 (-1), .int .i64 (-1), .int .i64 0, .int .i64 0, .int .i64 (1 + X1), .int .i64 (-1), .int .i64 (-1), .int .i64 0, .int .i64 0, .int .i64 (1 + Y1)] 40)) (by simp)).carry HG10.out (by intro k' e; cases e; show g < b; omega))
          have HGW := Lib.hid (grown_over (grown_over HG9.out (grown_alloc w9 (.cells #[.int .i64 (-1), .int .i64 (-1), .int .i64 0, .int .i64 0, .int .i64 (1 + X1), .int .i64 (-1), .int .i64 (-1), .int .i64 0, .int .i64 0, .int .i64 (1 + Y1)] 40)) (by simp)) HG10.out (by intro k' e; cases e; exact hb))
          go_roundw
          case rel => exact ⟨k + 1, _, by omega, by go_num, HGL.out, HMG.out, HNEW.out, HC10.out, HGW.out⟩
          case measure => simp [intOf]; omega
    · obtain ⟨A2, cc2, hA2, hrd⟩ := HOB.out.rd
      rw [HLL.out] at hrd hA2
      cases hA2
      have HRD := Lib.hid hrd
      clear hrd
      go_wp2_with fail
      refine (l01Once_any g A n c xs 2 _ (by omega) HCU.out).mono ?_
      rintro e w5 ⟨ob, rfl, hc5, hg5⟩
      have HO5 := Lib.hid (HOB.out.far hg5 (.inr (by simp [Value.ownBlock]; omega)))
      have HG5 := Lib.hid (grown_trans HG.out hg5)
      obtain ⟨A5, cc5, hA5, hrd5⟩ := HO5.out.rd
      rw [HLL.out] at hrd5 hA5
      cases hA5
      have HRD5 := Lib.hid hrd5
      clear hc5 hg5 hrd5 HRD
      cases ob with
      | false =>
        go_wp2_with fail
        go_ret
        exact ⟨_, L, rfl, HMO.out, HO5.out, HG5.out⟩
      | true =>
        go_wp2_with fail
        refine (sLeast_any _ m _ L _ HLL.out (by omega) HRD5.out).mono ?_
        rintro e w6 ⟨v6, rfl, ho6, hk6⟩
        have hs5 := HG5.out.size
        have HO6 := Lib.hid (ho6.weak hs5)
        have HG6 := Lib.hid (grown_over HG5.out (gb_kp hk6 none) (by simp))
        have HO7 := Lib.hid (HO5.out.kp hk6)
        clear ho6 hk6
        cases hok : okLw L with
        | false =>
          go_wp2_with fail
          go_ret
          exact ⟨_, L, rfl, HMO.out, HO7.out, HG6.out⟩
        | true =>
          have HML := Lib.hid (lw_mob hok)
          go_wp2_with fail
          go_ret
          exact ⟨_, _, rfl, HML.out, HO6.out, HG6.out⟩
set_option maxHeartbeats 3200000 in
theorem drawMobile_any (A : Option Addr) (n c : Nat) (xs : List Int) (w : World) (hl : xs.length = n) (hn : n ≤ 1048576) (hr : Reads w w.heap.size 1 A n (xs.map (.int .u8))) (hx : ∀ x ∈ xs, 0 ≤ x ∧ x ≤ 255) :
    Calls Try.prog 28 #[.slice A n c] w fun e w' => ∃ v L, e = .returned v ∧ mobB L = true ∧ OwP w.heap.size w' v L ∧ Kp w w' := by
  have HR := Lib.hid hr
  have HX := Lib.hid hx
  clear hr hx
  go_enter Try.func28, Try.ntmps28
  go_wp2_with fail
  refine (l01New_any A n c xs _ hl hn HR.out HX.out).mono ?_
  rintro e w1 ⟨g, rfl, hg, hc, hk⟩
  have hz := hk.size
  have HC := Lib.hid hc
  have HK := Lib.hid hk
  clear hc hk
  go_wp2_with fail
  refine (l14Mobile_any g A n c xs _ HC.out).mono ?_
  rintro e w2 ⟨v, L, rfl, hs, ho, hgr⟩
  have HO := Lib.hid (ho.weak hz)
  have HG := Lib.hid (HK.out.grown hgr (fun k e => by cases e; exact hg))
  clear ho hgr
  go_wp2_with fail
  go_ret
  exact ⟨_, L, rfl, hs, HO.out, HG.out⟩
end Go.Proofs.Ytajdppfngnpklaa
