/- FewestPours: the walk of the reference. -/
import Derived.Test.YtgkjckhjmphoaaaJgS
set_option linter.unusedVariables false
namespace Go.Proofs.Ytgkjckhjmphoaaa
open Go.RowKit
theorem Jg.gb {w w' : World} {b : Nat} {p q r s : Int} {o : Option Nat} (h : Jg w b p q r s) (hg : w.grownBy w' o) (hne : some b ≠ o) : Jg w' b p q r s := by
  have hb : w'.heap[b]? = w.heap[b]? := hg.block b h.lt hne
  have hf : ∀ k, w'.frozen? ⟨b, k, none⟩ = w.frozen? ⟨b, k, none⟩ := fun k => World.frozen?_of_block (w := w) (w' := w') (a := ⟨b, k, none⟩) hb
  have hc : ∀ k, w'.cell? ⟨b, k, none⟩ = w.cell? ⟨b, k, none⟩ := fun k => World.cell?_of_block (w := w) (w' := w') (a := ⟨b, k, none⟩) hb
  obtain ⟨⟨c0, f0⟩, ⟨c1, f1⟩, ⟨c2, f2⟩, ⟨c3, f3⟩⟩ := h
  exact ⟨⟨(hc 0).trans c0, (hf 0).trans f0⟩, ⟨(hc 1).trans c1, (hf 1).trans f1⟩, ⟨(hc 2).trans c2, (hf 2).trans f2⟩, ⟨(hc 3).trans c3, (hf 3).trans f3⟩⟩
theorem gb_put4 (W : World) (b : Nat) (p q r s : Int) : W.grownBy (put4 W b p q r s) (some b) := by
  have g : ∀ (W : World) (j : Nat) (v : Value), W.grownBy (W.setCell ⟨b, j, none⟩ v) (some b) := fun W j v => ⟨rfl, rfl, rfl, by simp, fun k _ hk => Below.heap_setCell _ _ _ k (fun e => hk (by rw [e]))⟩
  exact (((g W 0 _).trans (g _ 1 _)).trans (g _ 2 _)).trans (g _ 3 _)
theorem owi_empty (w : World) : OwI w.heap.size (w.alloc (.cells #[] 3)) (.slice (some ⟨w.heap.size, 0, none⟩) 0 0) [] :=
  World.ownsRow_made w #[] 0 (Nat.le_refl _) (by unfold maxLen; omega) rfl
theorem JC.of (w : World) {b : Nat} {f s : Int} {p q : Nat} (h : Jg w b f s (p : Int) (q : Int)) : JC w b f s p q := ⟨h.1.1, h.2.1.1, h.2.2.1.1, h.2.2.2.1⟩
set_option maxRecDepth 20000 in
set_option maxHeartbeats 12800000 in
theorem sFew_any (f s goal : Int) (w : World) :
    Calls Try.prog 19 #[.int .i64 f, .int .i64 s, .int .i64 goal] w fun e w' => ∃ v, e = .returned (.tuple #[v, .bool (fewOk f s goal)]) ∧ OwI w.heap.size w' v (few f s goal) ∧ Kp w w' := by
  have HO0 := Lib.hid (owi_empty w)
  have HK0 := Lib.hid (((Kp.refl w).alloc (.cells #[] 3)).alloc (.cells #[.int .i64 f, .int .i64 s, .int .i64 0, .int .i64 0] 25))
  have HJ0 := Lib.hid (show Jg ((w.alloc (.cells #[] 3)).alloc (.cells #[.int .i64 f, .int .i64 s, .int .i64 0, .int .i64 0] 25)) (w.heap.size + 1) f s 0 0 by
    have h := Jg.fresh (w.alloc (.cells #[] 3)) f s 0 0 25
    rw [show (w.alloc (.cells #[] 3)).heap.size = w.heap.size + 1 by simp] at h
    exact h)
  have HO1 := Lib.hid (HO0.out.kp ((Kp.refl _).alloc (.cells #[.int .i64 f, .int .i64 s, .int .i64 0, .int .i64 0] 25)))
  have HNO := Lib.hid (few_not_in (f := f) (s := s) (goal := goal))
  have HFI := Lib.hid (show fewIn f s goal = (jugsB f s 0 0 && inB goal 0 20) from rfl)
  obtain ⟨j0, hj, hy0, hy1, hy2⟩ := info_parts int_info
  by_cases hin : fewIn f s goal = true
  · have hin' := hin
    rw [HFI.out] at hin'
    obtain ⟨h1, h2⟩ := Bool.and_eq_true_iff.1 hin'
    have hgo := inB_true.1 h2
    obtain ⟨hf, hs, _⟩ := jugsB_bd h1
    have H1 := Lib.hid h1
    have H2 := Lib.hid h2
    have hb1 : Jg ((w.alloc (.cells #[] 3)).alloc (.cells #[.int .i64 f, .int .i64 s, .int .i64 0, .int .i64 0] 25)) (w.heap.size + 1) f s 0 0 := HJ0.out
    have HIN := Lib.hid hin
    have HBN := Lib.hid (fun (D : List (Nat × List Int)) (B : Bj f s goal D []) => B.none)
    have HTN := Lib.hid (fun (t : List Int) (h : TF f s goal t) (ho : okJ f s 0) (h0 : t.getD 0 0 < 0) => h.none ho h0)
    have HFD := Lib.hid (fun (N c : Nat) (l : List Int) (h : FG f s goal N 0 c l) => h.done hin)
    obtain ⟨T, hT⟩ : ∃ T, T = few f s goal := ⟨_, rfl⟩
    obtain ⟨B, hB⟩ : ∃ B, B = fewOk f s goal := ⟨_, rfl⟩
    rw [← hT, ← hB]
    have HT := Lib.hid hT
    have HB := Lib.hid hB
    clear h1 h2 hin hin' hT hB HNO HFI HBN
    go_enter Try.func19, Try.ntmps19
    go_wp2_with fail
    refine (specJugsOk_any f s 0 0 _).mono ?_
    rw [H1.out]
    rintro e w1 ⟨rfl, hk1⟩
    have HJ1 := Lib.hid (hb1.kp hk1)
    have HO2 := Lib.hid (HO1.out.kp hk1)
    have HK1 := Lib.hid (HK0.out.trans hk1)
    have hw1 : w.heap.size + 2 ≤ w1.heap.size := by have := hk1.size; simp at this; omega
    clear hk1 hb1
    go_wp2_with (go_at_call 27; refine (l01In_any _ _ _ _).mono ?_; rintro e w' ⟨rfl, rfl⟩; rw [H2.out])
    refine (dist_any f s goal hf hs hgo _).mono ?_
    obtain ⟨g, hg⟩ : ∃ g, g = w1.heap.size := ⟨_, rfl⟩
    rw [← hg]
    rintro e w2 ⟨t, rfl, htf, hrow, hk2⟩
    have HTF := Lib.hid htf
    have HRW := Lib.hid hrow
    have HJ2 := Lib.hid (HJ1.out.kp hk2)
    have HO3 := Lib.hid (HO2.out.kp hk2)
    have HK2 := Lib.hid (HK1.out.trans hk2)
    have hgw : w.heap.size + 1 < g := by omega
    have hg2 : g < w2.heap.size := (World.ownsRow.lt hrow g rfl).2
    have hok0 : okJ f s 0 := okJ_of hf hs (by unfold ua; omega) (by unfold vb; omega)
    have c0 := (introw_at hrow htf.1 (c := 0) (by omega) 0).1
    obtain ⟨X, hX⟩ : ∃ X, X = t.getD 0 0 := ⟨_, rfl⟩
    rw [← hX] at c0
    have HX := Lib.hid hX
    have HOK0 := Lib.hid hok0
    have hXb := htf.bd (c := 0) (by omega)
    rw [← hX] at hXb
    clear htf hrow hk2 hg hX hok0
    by_cases hneg : X < 0
    · have HRES := Lib.hid (HTN.out t HTF.out HOK0.out (by rw [← HX.out]; exact hneg))
      go_wp2_with fail
      go_ret2
      exact ⟨_, by rw [HB.out, HRES.out.2] <;> rfl, by rw [HT.out, HRES.out.1]; exact HO3.out, HK2.out⟩
    · obtain ⟨N, rfl⟩ : ∃ N : Nat, X = (N : Int) := ⟨X.toNat, by omega⟩
      have HFG := Lib.hid (fg_start ((HTF.out.val (k := N) HOK0.out).1 HX.out.symm))
      go_wp2_with fail
      go_loopw [8, 11] (fun ov nv wr => ∃ (n c : Nat) (l : List Int), nv = .int .i64 (n : Int) ∧ n ≤ 441 ∧ l.length + n ≤ 441 ∧ FG f s goal N n c l ∧ OwI w.heap.size wr ov l ∧ ov.ownBlock ≠ some g ∧ ov.ownBlock ≠ some (w.heap.size + 1) ∧ wr.ownsRow g 3 1 (.slice (some ⟨g, 0, none⟩) 441 441) 441 (t.map (.int .i64)) ∧ Jg wr (w.heap.size + 1) f s ((ua c : Nat) : Int) ((vb c : Nat) : Int) ∧ Kp w wr) (fun _ nv _ => (intOf nv).toNat)
      case atStart => exact ⟨N, 0, [], rfl, by omega, by simp; omega, HFG.out, HO3.out, (by intro e; simp [Value.ownBlock] at e; omega), (by intro e; simp [Value.ownBlock] at e), HRW.out, HJ2.out, HK2.out⟩
      case round =>
        obtain ⟨m, c, l, rfl, hm1, hm2, hfg, ho, hog, hoj, hrow, hjg, hkp⟩ := hrel
        obtain ⟨wo, hwo⟩ : ∃ wo, wo = wr := ⟨_, rfl⟩
        subst hwo
        have HFG2 := Lib.hid hfg
        have HO := Lib.hid ho
        have HOG := Lib.hid hog
        have HOJ := Lib.hid hoj
        have HRW2 := Lib.hid hrow
        have HJG := Lib.hid hjg
        have HKP := Lib.hid hkp
        have hgo2 : g < wo.heap.size := (World.ownsRow.lt hrow g rfl).2
        obtain ⟨Av, cv, rfl, hrd⟩ := ho.rd
        clear hfg ho hog hoj hrow hjg hkp hrd
        rcases Nat.eq_zero_or_pos m with h0 | h0
        · have hm0 : ¬ ((0 : Int) < (m : Int)) := by omega
          have HRES := Lib.hid (HFD.out N c l (by have := HFG2.out; rw [h0] at this; exact this))
          clear h0
          go_wp2_with fail
          go_ret2
          exact ⟨_, by rw [HB.out, HRES.out.2] <;> rfl, by rw [HT.out, HRES.out.1]; exact HO.out, HKP.out⟩
        · obtain ⟨n, hn⟩ : ∃ n, m = n + 1 := ⟨m - 1, by omega⟩
          have HFG3 := Lib.hid (show FG f s goal N (n + 1) c l by rw [← hn]; exact HFG2.out)
          have en : (m : Int) - 1 = (n : Int) := by omega
          have hm0 : (0 : Int) < (m : Int) := by omega
          have hm0' : 0 < m := h0
          have hnm : n < m := by omega
          have hn1 : l.length + n + 1 ≤ 441 := by omega
          clear hn h0
          go_wp2_with fail
          go_loopw [8, 12] (fun ov kv wr => ∃ act : Nat, (1 ≤ act ∧ act ≤ 7) ∧ ov = .slice Av l.length cv ∧ kv = .int .i64 (act : Int) ∧ (∀ (b : Int) (y : Nat), b < (act : Int) → Px f s c b y → ¬ Dm f s goal y n) ∧ Kp wo wr) (fun _ kv _ => 7 - (intOf kv).toNat)
          case atStart => exact ⟨1, by omega, rfl, rfl, fun b y hb hp => by have := (px_act hp).1; omega, Kp.refl _⟩
          case round =>
            obtain ⟨act, hact, rfl, rfl, hmin, hkp⟩ := hrel
            have HMIN := Lib.hid hmin
            have HKQ := Lib.hid hkp
            by_cases h6 : act ≤ 6
            · have HJ3 := Lib.hid (HJG.out.kp hkp)
              obtain ⟨b0, b1, b2, b3⟩ := JC.of _ HJ3.out
              clear hmin hkp
              go_wp2_with fail
              refine (specPour_any _ _ _ _ _ _).mono ?_
              obtain ⟨ok, hok⟩ : ∃ ok, ok = pOk f s ((ua c : Nat) : Int) ((vb c : Nat) : Int) (act : Int) := ⟨_, rfl⟩
              rw [← hok]
              rintro e w4 ⟨rfl, hk4⟩
              have HK4 := Lib.hid (HKQ.out.trans hk4)
              clear hk4 b0 b1 b2 b3
              cases ok with
              | false =>
                have HNX := Lib.hid (show ∀ (b : Int) (y : Nat), b < (act : Int) + 1 → Px f s c b y → ¬ Dm f s goal y n from fun b y hb hp => by
                  by_cases e : b < (act : Int)
                  · exact HMIN.out b y e hp
                  · obtain rfl : b = (act : Int) := by omega
                    have h := hp.1
                    rw [← hok] at h; cases h)
                obtain ⟨R1, hR1⟩ : ∃ R1, R1 = rA f s ((ua c : Nat) : Int) ((vb c : Nat) : Int) (act : Int) := ⟨_, rfl⟩
                obtain ⟨R2, hR2⟩ : ∃ R2, R2 = rB f s ((ua c : Nat) : Int) ((vb c : Nat) : Int) (act : Int) := ⟨_, rfl⟩
                rw [← hR1, ← hR2]
                clear hok hR1 hR2
                go_wp2_with fail
                go_roundw
                case rel => exact ⟨act + 1, by omega, rfl, by go_num, HNX.out, HK4.out.alloc _⟩
                case measure => simp [intOf]; omega
              | true =>
                obtain ⟨e, he⟩ : ∃ e, Px f s c (act : Int) e := px_ex hok.symm
                obtain ⟨_, e1, e2⟩ := id he
                rw [← e1, ← e2]
                have heo := (px_ok he).2
                have hel := (okJ_lt heo).1
                have hue : ua e ≤ 20 ∧ vb e ≤ 20 := ⟨(okJ_lt heo).2.1, vb_le e⟩
                have hYn := HTF.out.val (k := n) heo
                have hYb := HTF.out.bd hel
                have HRW5 := Lib.hid ((owns_kp HRW2.out HK4.out).alloc (.cells #[.int .i64 f, .int .i64 s, .int .i64 ((ua e : Nat) : Int), .int .i64 ((vb e : Nat) : Int)] 25))
                have ce := (introw_at HRW5.out HTF.out.1 hel 0).1
                obtain ⟨Y, hY⟩ : ∃ Y, Y = t.getD e 0 := ⟨_, rfl⟩
                rw [← hY] at ce hYn hYb
                have HE := Lib.hid he
                have HEE := Lib.hid (jc_eq e)
                have HXC := Lib.hid (JC.fresh w4 f s (ua e) (vb e) 25)
                have HK5 := Lib.hid (HK4.out.alloc (.cells #[.int .i64 f, .int .i64 s, .int .i64 ((ua e : Nat) : Int), .int .i64 ((vb e : Nat) : Int)] 25))
                have y0 : (0 : Int) ≤ (e : Int) := by omega
                have y1 : (e : Int) < 441 := by omega
                clear hok he e1 e2 heo hY
                by_cases hyn : Y = (n : Int)
                · have HNF := Lib.hid (HFG3.out.step HE.out (hYn.1 hyn) HMIN.out)
                  have t1 : (Y == (n : Int)) = true := by simp [hyn]
                  have hw4 : wo.heap.size ≤ w4.heap.size := HK4.out.size
                  clear hYn hyn
                  go_wp2_with (first
                    | (go_at_call 30; refine (key_any f s (ua e) (vb e) e hue.1 hue.2 HEE.out _).mono ?_; rintro e' w5 ⟨rfl, hk5⟩; have ce := hk5.at1 ce; have hw5 := hk5.size; (try simp at hw5); have HK6 := Lib.hid (HK5.out.trans hk5); have HXC5 := Lib.hid (HXC.out.gb (gb_kp hk5 none) (by simp)); have HOW := Lib.hid (show w5.ownsRow w.heap.size 3 1 (.slice Av l.length cv) l.length (l.map (.int .i64)) from owns_kp HO.out HK6.out))
                    | (at_builtin; go_loud (refine wpList_append_any _ rfl (.tmp 61) (.tmp 63) _ rfl w.heap.size 3 j0 _ 1 8 Try.underlying32 hj hy0 hy1 hy2 rfl (by omega) (.slice Av l.length cv) l.length (l.map (.int .i64)) rfl (HOW.out.alloc _) (w5.heap.size + 1) (some ⟨w5.heap.size, 0, none⟩) 1 1 [.int .i64 (act : Int)] rfl (reads_one _ _ _) (oneCell_one _) (by simp only [maxLen]; omega) (by omega) (by simp; omega) ?_; intro v6 w6 hown6 hg6 hat6; have HO6 := Lib.hid (show OwI w.heap.size w6 v6 (l ++ [(act : Int)]) by unfold OwI; rw [List.length_append, List.map_append]; exact hown6); have HG6 := Lib.hid hg6; have HAT6 := Lib.hid hat6; have hx6 : some w4.heap.size ≠ (Value.slice Av l.length cv).ownBlock := (fun e3 => by have := (OwI.lt HO.out w4.heap.size e3.symm).2; omega); have HXC6 := Lib.hid ((HXC5.out.gb (World.grownBy_alloc w5 (.cells #[.int .i64 (act : Int)] 3) none) (by simp)).gb hg6 hx6); have x0 := HXC6.out.1; have x1 := HXC6.out.2.1; have x2 := HXC6.out.2.2.1; have x3 := HXC6.out.2.2.2; have HJ6 := Lib.hid (Jg.gb ((HJG.out.kp HK6.out).kp ((Kp.refl _).alloc (.cells #[.int .i64 (act : Int)] 3))) hg6 (fun e3 => HOJ.out e3.symm)); obtain ⟨⟨z0, f0⟩, ⟨z1, f1⟩, ⟨z2, f2⟩, ⟨z3, f3⟩⟩ := HJ6.out; clear hown6 hg6 hat6 hx6)))
                  have hm6 : ∀ k, k < w.heap.size → some k ≠ (Value.slice Av l.length cv).ownBlock := fun k hk e3 => by have := (OwI.lt HO.out k e3.symm).1; omega
                  have HK7 := Lib.hid ((((HKP.out.trans HK6.out).alloc (.cells #[.int .i64 (act : Int)] 3)).grown HG6.out (fun k e3 => (OwI.lt HO.out k e3).1)).put4 (b := w.heap.size + 1) (by omega) f s ((ua e : Nat) : Int) ((vb e : Nat) : Int))
                  have hv : ∀ b, b ≤ g → (Value.slice Av l.length cv).ownBlock ≠ some b → v6.ownBlock ≠ some b := fun b hb hne e3 => by
                    rcases HAT6.out with h | h
                    · exact hne (h ▸ e3)
                    · rw [h] at e3; injection e3 with e3; simp at e3; omega
                  have HVG := Lib.hid (hv g (Nat.le_refl _) HOG.out)
                  have HVJ := Lib.hid (hv (w.heap.size + 1) (by omega) HOJ.out)
                  have HRW7 := Lib.hid (World.ownsRow.kept (World.ownsRow.kept (((owns_kp HRW2.out HK6.out).alloc (.cells #[.int .i64 (act : Int)] 3))) HG6.out (.inr (fun e3 => HOG.out e3.symm))) (gb_put4 w6 (w.heap.size + 1) f s ((ua e : Nat) : Int) ((vb e : Nat) : Int)) (.inr (by simp [Value.ownBlock]; omega)))
                  have HO7 := Lib.hid (OwI.far HO6.out (gb_put4 w6 (w.heap.size + 1) f s ((ua e : Nat) : Int) ((vb e : Nat) : Int)) (.inr HVJ.out))
                  go_roundw
                  case rel => exact ⟨n, e, l ++ [(act : Int)], by first | rfl | go_num, by omega, by simp; omega, HNF.out, HO7.out, HVG.out, HVJ.out, HRW7.out, HJ6.out.put, HK7.out⟩
                  case measure => simp [intOf]; omega
                · have HNX := Lib.hid (show ∀ (b : Int) (y : Nat), b < (act : Int) + 1 → Px f s c b y → ¬ Dm f s goal y n from fun b y hb hp => by
                    by_cases e2 : b < (act : Int)
                    · exact HMIN.out b y e2 hp
                    · obtain rfl : b = (act : Int) := by omega
                      rw [px_fun hp HE.out]
                      exact fun hd => hyn (hYn.2 hd))
                  have t1 : (Y == (n : Int)) = false := by simp [hyn]
                  clear hYn hyn
                  go_wp2_with (go_at_call 30; refine (key_any f s (ua e) (vb e) e hue.1 hue.2 HEE.out _).mono ?_; rintro e' w5 ⟨rfl, hk5⟩; have ce := hk5.at1 ce)
                  go_roundw
                  case rel => exact ⟨act + 1, by omega, rfl, by go_num, HNX.out, HK5.out.trans hk5⟩
                  case measure => simp [intOf]; omega
            · exfalso
              obtain ⟨b, y, hp, hd⟩ := dm_step HFG3.out.dm
              exact hmin b y (by have := (px_act hp).2; omega) hp hd
  · have hin2 : fewIn f s goal = false := by simpa using hin
    have HE := Lib.hid (HNO.out hin2)
    rw [HFI.out] at hin2
    obtain ⟨T, hT⟩ : ∃ T, T = few f s goal := ⟨_, rfl⟩
    obtain ⟨B, hB⟩ : ∃ B, B = fewOk f s goal := ⟨_, rfl⟩
    rw [← hT, ← hB]
    have HT := Lib.hid hT
    have HB := Lib.hid hB
    have HI := Lib.hid hin2
    clear hin hin2 hT hB HNO HFI
    go_enter Try.func19, Try.ntmps19
    go_wp2_with fail
    refine (specJugsOk_any f s 0 0 _).mono ?_
    obtain ⟨q, hq⟩ : ∃ q, q = jugsB f s 0 0 := ⟨_, rfl⟩
    rw [← hq]
    have HQ := Lib.hid hq
    clear hq
    rintro e w1 ⟨rfl, hk1⟩
    have HO2 := Lib.hid (HO1.out.kp hk1)
    have HK1 := Lib.hid (HK0.out.trans hk1)
    clear hk1
    cases q with
    | false =>
      go_wp2_with fail
      go_ret2
      exact ⟨_, by rw [HB.out, HE.out.2] <;> rfl, by rw [HT.out, HE.out.1]; exact HO2.out, HK1.out⟩
    | true =>
      have H2 := Lib.hid (show inB goal 0 20 = false by have h := HI.out; rw [← HQ.out, Bool.true_and] at h; exact h)
      go_wp2_with (go_at_call 27; refine (l01In_any _ _ _ _).mono ?_; rintro e w' ⟨rfl, rfl⟩; rw [H2.out])
      go_ret2
      exact ⟨_, by rw [HB.out, HE.out.2] <;> rfl, by rw [HT.out, HE.out.1]; exact HO2.out, HK1.out⟩
end Go.Proofs.Ytgkjckhjmphoaaa
