/- LeastWeights: the contract of least. -/
import Derived.Test.YtajdppfngnpklaaLwE
set_option linter.unusedVariables false
namespace Go.Proofs.Ytajdppfngnpklaa
open Go.RowKit
set_option maxRecDepth 20000 in
set_option maxHeartbeats 64000000 in
theorem least_any (B g cap n : Nat) (hgB : B ≤ g) : ∀ f k, k < n → n - k ≤ f → f ≤ 16 → ∀ (ys : List Pt) (w : World), ys.length = n → mobB ys = true → OwP B w (.slice (some ⟨g, 0, none⟩) n cap) ys →
    Calls Try.prog 38 #[.slice (some ⟨g, 0, none⟩) n cap, .int .i64 (k : Int)] w fun e w' => e = .returned (.bool (leO f ys k).isSome) ∧ (∀ zs, leO f ys k = some zs → OwP B w' (.slice (some ⟨g, 0, none⟩) n cap) zs) ∧ w.grownBy w' (some g) := by
  intro f
  induction f with
  | zero => intro k hk hf; omega
  | succ f ih =>
    intro k hk hf h16 ys w hlen hm ho
    have IH := Lib.hid ih
    have HM := Lib.hid hm
    have HO := Lib.hid ho
    have HLE := Lib.hid hlen
    have hgw : g < w.heap.size := (OwP.lt ho g rfl).2
    have hkl : k < ys.length := by omega
    have h15 := (mobB_tr hm).n15
    have hC := OwP.at5 ho hlen hk
    have p0 : (0 : Int) ≤ (k : Int) := by omega
    have p1 : (k : Int) < (n : Int) := by omega
    by_cases hl : (pt ys k).l = -1
    · have hsc : leO (f + 1) ys k = some (sx ys k 1) := by rw [leO, if_pos hl]
      obtain ⟨⟨X0, X1, X2, X3, X⟩, hX⟩ : ∃ X, X = pt ys k := ⟨_, rfl⟩
      rw [← hX] at hl hC
      obtain ⟨c0, c1, c2, c3, c4⟩ := hC
      dsimp only at c0 c1 c2 c3 c4 hl
      subst hl
      have ho' := OwP.kp ho ((Kp.refl _).alloc (.cells #[.int .i64 (-1), .int .i64 X1, .int .i64 X2, .int .i64 X3, .int .i64 X] 40))
      obtain ⟨fz, hs, hgr⟩ := x_store 1 hlen hk ho'
      obtain ⟨fz2, hs2, hgr2⟩ := x_store 1 hlen hk ho
      have HS := Lib.hid (And.intro hs (hs2.kp ((Kp.refl _).alloc (.cells #[.int .i64 (-1), .int .i64 X1, .int .i64 X2, .int .i64 X3, .int .i64 X] 40))))
      have HG := Lib.hid (And.intro (gb_trans (gb_alloc _ (.cells #[.int .i64 (-1), .int .i64 X1, .int .i64 X2, .int .i64 X3, .int .i64 X] 40) _) hgr) (gb_trans hgr2 (gb_alloc _ (.cells #[.int .i64 (-1), .int .i64 X1, .int .i64 X2, .int .i64 X3, .int .i64 X] 40) _)))
      have HSC := Lib.hid hsc
      clear ih hm ho ho' hlen hX hs hgr hs2 hgr2 hsc
      go_enter Try.func38, Try.ntmps38
      go_wp2_with fail
      go_ret
      rw [HSC.out]
      exact ⟨rfl, fun zs e => (by cases e; first | exact HS.out.1 | exact HS.out.2), (by first | exact HG.out.1 | exact HG.out.2)⟩
    · have hc := (mobB_tr hm).kids hkl hl
      have ha := (mobB_tr hm).arm k hkl hl
      have hll : (pt ys k).l = ((kL ys k : Nat) : Int) := by unfold kL; omega
      have hrr : (pt ys k).r = ((kR ys k : Nat) : Int) := by unfold kR; omega
      have hsc : leO (f + 1) ys k = match leO f ys (kL ys k) with
        | none => none
        | some us => match leO f us (kR ys k) with
          | none => none
          | some zs => prO zs (kL ys k) (kR ys k) (fB ys zs k / (Int.gcd (fA ys zs k) (fB ys zs k) : Int)) (fA ys zs k / (Int.gcd (fA ys zs k) (fB ys zs k) : Int)) := by rw [leO, if_neg hl]; rfl
      have hFA : ∀ zs, fA ys zs k = wtM zs 16 (kL ys k) * (pt ys k).p := fun zs => rfl
      have hFB : ∀ zs, fB ys zs k = wtM zs 16 (kR ys k) * (pt ys k).q := fun zs => rfl
      have hBD := Lib.hid (fun zs (h1 : mobB zs = true) (h2 : Like ys zs) => fAB_bd h1 h2 hm hkl hl)
      obtain ⟨l, hL⟩ : ∃ l, l = kL ys k := ⟨_, rfl⟩
      obtain ⟨r, hR⟩ : ∃ r, r = kR ys k := ⟨_, rfl⟩
      rw [← hL] at hll hsc hc hFA
      rw [← hR] at hrr hsc hc hFB
      rw [hlen] at hc
      obtain ⟨⟨X0, X1, X2, X3, X⟩, hX⟩ : ∃ X, X = pt ys k := ⟨_, rfl⟩
      rw [← hX] at hl hC hll hrr hFA hFB ha
      obtain ⟨c0, c1, c2, c3, c4⟩ := hC
      dsimp only at c0 c1 c2 c3 c4 hl hll hrr hFA hFB ha
      subst hll hrr
      have lne : ¬ ((l : Int) = -1) := by omega
      have hcc : (k < l ∧ l < n) ∧ k < r ∧ r < n := hc
      have haq : (1 ≤ X2 ∧ X2 ≤ 20) ∧ (1 ≤ X3 ∧ X3 ≤ 20) := ha.2.2
      have HFA := Lib.hid hFA
      have HFB := Lib.hid hFB
      have HSC := Lib.hid hsc
      obtain ⟨W, hW⟩ : ∃ W, W = w.alloc (.cells #[.int .i64 (l : Int), .int .i64 (r : Int), .int .i64 X2, .int .i64 X3, .int .i64 X] 40) := ⟨_, rfl⟩
      have e0 : W.cell? ⟨w.heap.size, 0, none⟩ = some (.int .i64 (l : Int)) := by rw [hW]; simp [go_sem]
      have e1 : W.cell? ⟨w.heap.size, 1, none⟩ = some (.int .i64 (r : Int)) := by rw [hW]; simp [go_sem]
      have e2 : W.cell? ⟨w.heap.size, 2, none⟩ = some (.int .i64 X2) := by rw [hW]; simp [go_sem]
      have e3 : W.cell? ⟨w.heap.size, 3, none⟩ = some (.int .i64 X3) := by rw [hW]; simp [go_sem]
      have HE := Lib.hid (And.intro e0 (And.intro e1 (And.intro e2 e3)))
      have HOW := Lib.hid (show OwP B W (.slice (some ⟨g, 0, none⟩) n cap) ys by rw [hW]; exact OwP.kp ho ((Kp.refl w).alloc _))
      have HGW := Lib.hid (show w.grownBy W (some g) by rw [hW]; exact gb_alloc _ _ _)
      have HWE := Lib.hid hW
      clear ih hm ho hlen hX hsc hL hR ha hc hl hFA hFB hW e0 e1 e2 e3
      go_enter Try.func38, Try.ntmps38
      go_wp2_with fail
      rw [← HWE.out]
      refine (IH.out l (by omega) (by omega) (by omega) ys _ HLE.out HM.out HOW.out).mono ?_
      cases q1 : leO f ys l with
      | none =>
        rw [q1] at HSC
        rintro e w1 ⟨rfl, _, hg1⟩
        have HG := Lib.hid (gb_trans HGW.out hg1)
        clear hg1 c0 c1 c2 c3 c4
        go_wp2_with fail
        go_ret
        rw [HSC.out]
        exact ⟨rfl, fun zs e => (by cases e), HG.out⟩
      | some us =>
        rw [q1] at HSC
        rintro e w1 ⟨rfl, ho1, hg1⟩
        have HO1 := Lib.hid (ho1 us rfl)
        have hm1 := leO_mob HM.out (by rw [HLE.out]; omega) (by rw [HLE.out]; omega) q1
        have hl1 : us.length = n := hm1.2.len.trans HLE.out
        have a0 := cell_gb hg1 (by simp; omega) HE.out.1
        have a1 := cell_gb hg1 (by simp; omega) HE.out.2.1
        have a2 := cell_gb hg1 (by simp; omega) HE.out.2.2.1
        have a3 := cell_gb hg1 (by simp; omega) HE.out.2.2.2
        have HE1 := Lib.hid (And.intro a0 (And.intro a1 (And.intro a2 a3)))
        have HG1 := Lib.hid (gb_trans HGW.out hg1)
        have HM1 := Lib.hid hm1
        have HL1 := Lib.hid hl1
        clear ho1 hg1 hm1 hl1 a0 a2 a3 c0 c1 c2 c3 c4
        go_wp2_with fail
        refine (IH.out r (by omega) (by omega) (by omega) us _ HL1.out HM1.out.1 HO1.out).mono ?_
        cases q2 : leO f us r with
        | none =>
          rw [q2] at HSC
          rintro e w2 ⟨rfl, _, hg2⟩
          have HG := Lib.hid (gb_trans HG1.out hg2)
          clear hg2
          go_wp2_with fail
          go_ret
          rw [HSC.out]
          exact ⟨rfl, fun zs e => (by cases e), HG.out⟩
        | some zs =>
          rw [q2] at HSC
          rintro e w2 ⟨rfl, ho2, hg2⟩
          have hm2 := leO_mob HM1.out.1 (by rw [HL1.out]; omega) (by rw [HL1.out]; omega) q2
          have hl2 : zs.length = n := hm2.2.len.trans HL1.out
          have HLK := Lib.hid (HM1.out.2.trans hm2.2)
          have hbd := hBD.out zs hm2.1 HLK.out
          have HO2 := Lib.hid (ho2 zs rfl)
          obtain ⟨A2, cc2, hA2, hrd⟩ := HO2.out.rd
          obtain ⟨rfl, rfl⟩ : A2 = some ⟨g, 0, none⟩ ∧ cc2 = cap := by injection hA2 with x y z; exact ⟨x.symm, z.symm⟩
          rw [hl2] at hrd
          have HRD := Lib.hid hrd
          have b0 := cell_gb hg2 (by simp; omega) HE1.out.1
          have b1 := cell_gb hg2 (by simp; omega) HE1.out.2.1
          have b2 := cell_gb hg2 (by simp; omega) HE1.out.2.2.1
          have b3 := cell_gb hg2 (by simp; omega) HE1.out.2.2.2
          have HG2 := Lib.hid (gb_trans HG1.out hg2)
          have HM2 := Lib.hid hm2.1
          have HL2 := Lib.hid hl2
          have hgw2 : g < w2.heap.size := (OwP.lt HO2.out g rfl).2
          obtain ⟨U, hU⟩ : ∃ U, U = wtM zs 16 l := ⟨_, rfl⟩
          obtain ⟨V, hV⟩ : ∃ V, V = wtM zs 16 r := ⟨_, rfl⟩
          obtain ⟨a, haa⟩ : ∃ a, a = fA ys zs k := ⟨_, rfl⟩
          obtain ⟨b, hbb⟩ : ∃ b, b = fB ys zs k := ⟨_, rfl⟩
          have gU : U * X2 = a := by rw [haa, HFA.out, hU]
          have gV : V * X3 = b := by rw [hbb, HFB.out, hV]
          rw [← haa, ← hbb] at hbd
          dsimp only at HSC
          rw [← haa, ← hbb] at HSC
          have EU := Lib.hid hU
          have EV := Lib.hid hV
          have wa : IntKind.i64.wrap a = a := IntWalk.i64_in _ (by omega)
          have wb : IntKind.i64.wrap b = b := IntWalk.i64_in _ (by omega)
          clear ho2 hg2 hm2 hl2 hU hV haa hbb hA2 hrd a1
          have hww : Kp w2 w2 := Kp.refl w2
          have g1 : n - l ≤ 16 ∧ l < n := by omega
          have g2 : n - r ≤ 16 ∧ r < n := by omega
          have HGU := Lib.hid gU
          have HGV := Lib.hid gV
          have HBD := Lib.hid hbd
          have wU : IntKind.i64.wrap (U * X2) = a := by rw [gU]; exact wa
          have wV : IntKind.i64.wrap (V * X3) = b := by rw [gV]; exact wb
          clear gU gV hbd wa wb
          go_upto_region 7 with fail
          go_region_held3 (fun w' => w'.cell? ⟨w.heap.size, 0, none⟩ = some (.int .i64 (l : Int)) ∧ w'.cell? ⟨w.heap.size, 1, none⟩ = some (.int .i64 (r : Int)) ∧ w'.cell? ⟨w.heap.size, 2, none⟩ = some (.int .i64 X2) ∧ w'.cell? ⟨w.heap.size, 3, none⟩ = some (.int .i64 X3) ∧ Kp w2 w')
            (((try go_split_ands); (repeat' apply And.intro) <;> (first | with_reducible assumption | (with_reducible apply cell_drew; with_reducible assumption) | (with_reducible refine Kp.drew ?_; with_reducible assumption) | (with_reducible apply hk.at1; with_reducible assumption) | (with_reducible apply hk.at1; with_reducible apply cell_drew; with_reducible assumption) | (refine Kp.trans ?_ hk; with_reducible assumption) | (refine Kp.trans (Kp.drew ?_) hk; with_reducible assumption))))
            (first | (go_at_call 34; refine (iWeight_any n zs HL2.out HM2.out 16 _ (by omega) (by omega) (by omega) _ _ _ (HRD.out.kp (by (try go_split_ands); assumption))).mono ?_; (first | rw [← EU.out] | rw [← EV.out]); rintro e w3 ⟨rfl, hk⟩))
          go_wp2_with fail
          have hgab : 1 ≤ a / (Int.gcd a b : Int) ∧ a / (Int.gcd a b : Int) ≤ 1310720000 := quot_bd HBD.out.1
          have hgba : 1 ≤ b / (Int.gcd a b : Int) ∧ b / (Int.gcd a b : Int) ≤ 1310720000 := by have := quot_bd (b := a) HBD.out.2; rw [Int.gcd_comm] at this; exact this
          have hgp : 0 < Int.gcd a b := Int.gcd_pos_of_ne_zero_left b (by have := HBD.out; omega)
          refine (gcd_any a b _ (by have := HBD.out; omega) (by have := HBD.out; omega)).mono ?_
          rintro e w4 ⟨rfl, m4, hw4⟩
          have hS : w3.cell? ⟨w.heap.size, 0, none⟩ = some (.int .i64 (l : Int)) ∧ w3.cell? ⟨w.heap.size, 1, none⟩ = some (.int .i64 (r : Int)) ∧ w3.cell? ⟨w.heap.size, 2, none⟩ = some (.int .i64 X2) ∧ w3.cell? ⟨w.heap.size, 3, none⟩ = some (.int .i64 X3) ∧ Kp w2 w3 := by assumption
          have k4 : Kp w3 w4 := Kp.of_drewN ⟨m4, hw4⟩
          have d0 := k4.at1 hS.1
          have d1 := k4.at1 hS.2.1
          have HKB := Lib.hid (hS.2.2.2.2.trans k4)
          have HOB := Lib.hid (HO2.out.kp HKB.out)
          have HGB := Lib.hid (gb_trans HG2.out (gb_kp HKB.out _))
          obtain ⟨G, hG⟩ : ∃ G, G = (Int.gcd a b : Int) := ⟨_, rfl⟩
          rw [← hG] at HSC hgab hgba ⊢
          obtain ⟨Q1, hQ1⟩ : ∃ Q, Q = b / G := ⟨_, rfl⟩
          obtain ⟨Q2, hQ2⟩ : ∃ Q, Q = a / G := ⟨_, rfl⟩
          have z0 := HBD.out
          have zG : 1 ≤ G := by omega
          have t1 : b.tdiv G = Q1 := by rw [hQ1]; exact Int.tdiv_eq_ediv_of_nonneg (by omega)
          have t2 : a.tdiv G = Q2 := by rw [hQ2]; exact Int.tdiv_eq_ediv_of_nonneg (by omega)
          rw [← hQ1] at HSC hgba
          rw [← hQ2] at HSC hgab
          have HQB := Lib.hid (And.intro hgba hgab)
          have wq1 : IntKind.i64.wrap Q1 = Q1 := IntWalk.i64_in _ (by omega)
          have wq2 : IntKind.i64.wrap Q2 = Q2 := IntWalk.i64_in _ (by omega)
          have gne : ¬ (G = 0) := by omega
          clear hG hQ1 hQ2 hgp k4 hw4 hS wU wV b0 b1 b2 b3 hww hgab hgba z0 zG
          have hgw4 : g < w4.heap.size := (OwP.lt HOB.out g rfl).2
          cases e3 : scO 16 zs l Q1 with
          | none =>
            have HSN := Lib.hid (show leO (f + 1) ys k = none by rw [HSC.out, prO, e3])
            go_upto_region 9 with fail
            (refine wp_region_held_drew (S := (fun w' => w'.cell? ⟨w.heap.size, 0, none⟩ = some (.int .i64 (l : Int)) ∧ w'.cell? ⟨w.heap.size, 1, none⟩ = some (.int .i64 (r : Int)))) (by kernel_rfl) ?_ (fun hHeld => ?_); (· ((try dsimp only); (refine ⟨?_, ?_⟩ <;> first | with_reducible assumption | (with_reducible apply cell_drew; with_reducible assumption) | (refine cell_gb hgc (by dsimp only; omega) ?_; first | with_reducible assumption | (with_reducible apply cell_drew; with_reducible assumption) | (with_reducible apply cell_drew; first | exact hHeld.1 | exact hHeld.2) | exact hHeld.1 | exact hHeld.2)))); ((refine wpAnyH_take (i := 0) (oi := { dst := some 49, op := Op.move (Operand.tmp 0), type := 25, pos := "l14_mobile.go:93", after := #[], guard := none }) (v := ?_) rfl (by kernel_rfl) (by kernel_rfl) (by kernel_rfl) (fun _ _ _ h => h) (Or.inl ⟨by rfl, ?_⟩) (by assumption) ?_; rotate_left 1; (· (intro w hSw; (try dsimp only at hSw); go_simp; (try with_reducible rfl)))); (try simp only [Act.put, List.setIfInBounds_toArray, List.set_cons_zero, List.set_cons_succ])); ((refine wpAnyH_take (i := 1) (oi := { dst := some 50, op := Op.fieldAddr 40 (Operand.tmp 5) 0, type := 0, pos := "l14_mobile.go:93", after := #[], guard := none }) (v := ?_) rfl (by kernel_rfl) (by kernel_rfl) (by kernel_rfl) (fun _ _ _ h => h) (Or.inl ⟨by rfl, ?_⟩) (by assumption) ?_; rotate_left 1; (· (intro w hSw; (try dsimp only at hSw); go_simp; (try with_reducible rfl)))); (try simp only [Act.put, List.setIfInBounds_toArray, List.set_cons_zero, List.set_cons_succ])); ((refine wpAnyH_take (i := 2) (oi := { dst := some 51, op := Op.load 3 (Operand.tmp 50), type := 3, pos := "l14_mobile.go:93", after := #[{ on := 1, ground := Ground.data }], guard := none }) (v := ?_) rfl (by kernel_rfl) (by kernel_rfl) (by kernel_rfl) (fun _ _ _ h => h) (Or.inl ⟨by rfl, ?_⟩) (by assumption) ?_; rotate_left 1; (· (intro w hSw; (try dsimp only at hSw); go_simp; (try with_reducible rfl)))); (try simp only [Act.put, List.setIfInBounds_toArray, List.set_cons_zero, List.set_cons_succ])); ((refine wpAnyH_take (i := 3) (oi := { dst := some 52, op := Op.move (Operand.tmp 7), type := 3, pos := "l14_mobile.go:93", after := #[], guard := none }) (v := ?_) rfl (by kernel_rfl) (by kernel_rfl) (by kernel_rfl) (fun _ _ _ h => h) (Or.inl ⟨by rfl, ?_⟩) (by assumption) ?_; rotate_left 1; (· (intro w hSw; (try dsimp only at hSw); go_simp; (try with_reducible rfl)))); (try simp only [Act.put, List.setIfInBounds_toArray, List.set_cons_zero, List.set_cons_succ])); ((refine wpAnyH_take (i := 4) (oi := { dst := some 53, op := Op.move (Operand.tmp 8), type := 3, pos := "l14_mobile.go:93", after := #[], guard := none }) (v := ?_) rfl (by kernel_rfl) (by kernel_rfl) (by kernel_rfl) (fun _ _ _ h => h) (Or.inl ⟨by rfl, ?_⟩) (by assumption) ?_; rotate_left 1; (· (intro w hSw; (try dsimp only at hSw); go_simp; (try with_reducible rfl)))); (try simp only [Act.put, List.setIfInBounds_toArray, List.set_cons_zero, List.set_cons_succ])); ((refine wpAnyH_take (i := 5) (oi := { dst := some 54, op := Op.binOp BinOp.quo 3 (Operand.tmp 52) (Operand.tmp 53) 3, type := 3, pos := "l14_mobile.go:93", after := #[{ on := 3, ground := Ground.data }, { on := 4, ground := Ground.data }], guard := none }) (v := ?_) rfl (by kernel_rfl) (by kernel_rfl) (by kernel_rfl) (fun _ _ _ h => h) (Or.inl ⟨by rfl, ?_⟩) (by assumption) ?_; rotate_left 1; (· (intro w hSw; (try dsimp only at hSw); go_simp; (try with_reducible rfl)))); (try simp only [Act.put, List.setIfInBounds_toArray, List.set_cons_zero, List.set_cons_succ])); ((refine wpAnyH_ready (rs := [6]) (by kernel_rfl) (by simp) ?_; refine AllReadyH.cons (o := { dst := some 55, op := Op.call { callee := Callee.value (Operand.func 42), args := #[Operand.tmp 49, Operand.tmp 51, Operand.tmp 54], argTypes := #[25, 3, 3] }, type := 4, pos := "l14_mobile.go:93", after := #[{ on := 0, ground := Ground.data }, { on := 2, ground := Ground.data }, { on := 5, ground := Ground.data }], guard := none }) rfl (fun K hK => ?_) AllReadyH.nil; go_simp; (go_at_call 42; refine (scale_any B g cc2 n hgB 16 l g1.2 g1.1 (Nat.le_refl 16) zs Q1 _ HL2.out HM2.out HQB.out.1 (HOB.out.kp (Kp.drew (Kp.refl _)))).mono ?_; rw [e3]; rintro e w5 ⟨rfl, ho5, hgc⟩); (try go_wp2_with fail); refine hK.out _ _ ?_ (fun hHeld => ?_); (· ((try dsimp only); (refine ⟨?_, ?_⟩ <;> first | with_reducible assumption | (with_reducible apply cell_drew; with_reducible assumption) | (refine cell_gb hgc (by dsimp only; omega) ?_; first | with_reducible assumption | (with_reducible apply cell_drew; with_reducible assumption) | (with_reducible apply cell_drew; first | exact hHeld.1 | exact hHeld.2) | exact hHeld.1 | exact hHeld.2)))); clear hK K); (try simp only [Act.put, List.setIfInBounds_toArray, List.set_cons_zero, List.set_cons_succ])); ((refine wpAnyH_take (i := 7) (oi := { dst := some 56, op := Op.move (Operand.tmp 55), type := 4, pos := "l14_mobile.go:93", after := #[{ on := 6, ground := Ground.data }, { on := 6, ground := Ground.chain }], guard := none }) (v := ?_) rfl (by kernel_rfl) (by kernel_rfl) (by kernel_rfl) (fun _ _ _ h => h) (Or.inl ⟨by rfl, ?_⟩) (by assumption) ?_; rotate_left 1; (· (intro w hSw; (try dsimp only at hSw); go_simp; (try with_reducible rfl)))); (try simp only [Act.put, List.setIfInBounds_toArray, List.set_cons_zero, List.set_cons_succ])); ((refine wpAnyH_take (i := 8) (oi := { dst := some 57, op := Op.move (Operand.tmp 0), type := 25, pos := "l14_mobile.go:93", after := #[{ on := 7, ground := Ground.guard }], guard := some (7, true) }) rfl (by kernel_rfl) (by kernel_rfl) (by kernel_rfl) (fun _ _ _ h => h) (Or.inr ⟨by rfl, rfl⟩) (by assumption) ?_); (try simp only [Act.put, List.setIfInBounds_toArray, List.set_cons_zero, List.set_cons_succ])); ((refine wpAnyH_take (i := 9) (oi := { dst := some 58, op := Op.fieldAddr 40 (Operand.tmp 5) 1, type := 0, pos := "l14_mobile.go:93", after := #[{ on := 7, ground := Ground.guard }], guard := some (7, true) }) rfl (by kernel_rfl) (by kernel_rfl) (by kernel_rfl) (fun _ _ _ h => h) (Or.inr ⟨by rfl, rfl⟩) (by assumption) ?_); (try simp only [Act.put, List.setIfInBounds_toArray, List.set_cons_zero, List.set_cons_succ])); ((refine wpAnyH_take (i := 10) (oi := { dst := some 59, op := Op.load 3 (Operand.tmp 58), type := 3, pos := "l14_mobile.go:93", after := #[{ on := 9, ground := Ground.data }, { on := 7, ground := Ground.guard }], guard := some (7, true) }) rfl (by kernel_rfl) (by kernel_rfl) (by kernel_rfl) (fun _ _ _ h => h) (Or.inr ⟨by rfl, rfl⟩) (by assumption) ?_); (try simp only [Act.put, List.setIfInBounds_toArray, List.set_cons_zero, List.set_cons_succ])); ((refine wpAnyH_take (i := 11) (oi := { dst := some 60, op := Op.move (Operand.tmp 6), type := 3, pos := "l14_mobile.go:93", after := #[{ on := 7, ground := Ground.guard }], guard := some (7, true) }) rfl (by kernel_rfl) (by kernel_rfl) (by kernel_rfl) (fun _ _ _ h => h) (Or.inr ⟨by rfl, rfl⟩) (by assumption) ?_); (try simp only [Act.put, List.setIfInBounds_toArray, List.set_cons_zero, List.set_cons_succ])); ((refine wpAnyH_take (i := 12) (oi := { dst := some 61, op := Op.move (Operand.tmp 8), type := 3, pos := "l14_mobile.go:93", after := #[{ on := 7, ground := Ground.guard }], guard := some (7, true) }) rfl (by kernel_rfl) (by kernel_rfl) (by kernel_rfl) (fun _ _ _ h => h) (Or.inr ⟨by rfl, rfl⟩) (by assumption) ?_); (try simp only [Act.put, List.setIfInBounds_toArray, List.set_cons_zero, List.set_cons_succ])); ((refine wpAnyH_take (i := 13) (oi := { dst := some 62, op := Op.binOp BinOp.quo 3 (Operand.tmp 60) (Operand.tmp 61) 3, type := 3, pos := "l14_mobile.go:93", after := #[{ on := 11, ground := Ground.data }, { on := 12, ground := Ground.data }, { on := 7, ground := Ground.guard }], guard := some (7, true) }) rfl (by kernel_rfl) (by kernel_rfl) (by kernel_rfl) (fun _ _ _ h => h) (Or.inr ⟨by rfl, rfl⟩) (by assumption) ?_); (try simp only [Act.put, List.setIfInBounds_toArray, List.set_cons_zero, List.set_cons_succ])); ((refine wpAnyH_take (i := 14) (oi := { dst := some 63, op := Op.call { callee := Callee.value (Operand.func 42), args := #[Operand.tmp 57, Operand.tmp 59, Operand.tmp 62], argTypes := #[25, 3, 3] }, type := 4, pos := "l14_mobile.go:93", after := #[{ on := 8, ground := Ground.data }, { on := 10, ground := Ground.data }, { on := 13, ground := Ground.data }, { on := 7, ground := Ground.chain }, { on := 7, ground := Ground.guard }], guard := some (7, true) }) rfl (by kernel_rfl) (by kernel_rfl) (by kernel_rfl) (fun _ _ _ h => h) (Or.inr ⟨by rfl, rfl⟩) (by assumption) ?_); (try simp only [Act.put, List.setIfInBounds_toArray, List.set_cons_zero, List.set_cons_succ])); ((refine wpAnyH_take (i := 15) (oi := { dst := some 64, op := Op.pick (Operand.tmp 56) (Operand.tmp 63) (Operand.const (Value.bool false)), type := 4, pos := "l14_mobile.go:93", after := #[{ on := 7, ground := Ground.data }, { on := 14, ground := Ground.data }], guard := none }) (v := ?_) rfl (by kernel_rfl) (by kernel_rfl) (by kernel_rfl) (fun _ _ _ h => h) (Or.inl ⟨by rfl, ?_⟩) (by assumption) ?_; rotate_left 1; (· (intro w hSw; (try dsimp only at hSw); go_simp; (try with_reducible rfl)))); (try simp only [Act.put, List.setIfInBounds_toArray, List.set_cons_zero, List.set_cons_succ])); ((refine wpAnyH_take (i := 16) (oi := { dst := some 4, op := Op.assign (Operand.tmp 64), type := 4, pos := "l14_mobile.go:93", after := #[{ on := 15, ground := Ground.data }, { on := 14, ground := Ground.chain }, { on := 0, ground := Ground.phase }, { on := 1, ground := Ground.phase }, { on := 2, ground := Ground.phase }, { on := 3, ground := Ground.phase }, { on := 4, ground := Ground.phase }, { on := 5, ground := Ground.phase }, { on := 6, ground := Ground.phase }, { on := 7, ground := Ground.phase }, { on := 8, ground := Ground.phase }, { on := 9, ground := Ground.phase }, { on := 10, ground := Ground.phase }, { on := 11, ground := Ground.phase }, { on := 12, ground := Ground.phase }, { on := 13, ground := Ground.phase }, { on := 14, ground := Ground.phase }, { on := 15, ground := Ground.phase }], guard := none }) (v := ?_) rfl (by kernel_rfl) (by kernel_rfl) (by kernel_rfl) (fun _ _ _ h => h) (Or.inl ⟨by rfl, ?_⟩) (by assumption) ?_; rotate_left 1; (· (intro w hSw; (try dsimp only at hSw); go_simp; (try with_reducible rfl)))); (try simp only [Act.put, List.setIfInBounds_toArray, List.set_cons_zero, List.set_cons_succ])); (refine wpAnyH_done (by kernel_rfl) ?_ _))
            go_wp2_with fail
            go_ret
            rw [HSN.out]
            exact ⟨rfl, fun zs e => (by cases e), gb_trans HGB.out (gb_trans (gb_drew _ _) (by assumption))⟩
          | some vs =>
            have HSN := Lib.hid (show leO (f + 1) ys k = scO 16 vs r Q2 by rw [HSC.out, prO, e3])
            have hm3 := scO_mob HM2.out HQB.out.1.1 (by rw [HL2.out]; exact g1.2) (by rw [HL2.out]; exact g1.1) e3
            have HM3 := Lib.hid hm3.1
            have HL3 := Lib.hid (hm3.2.len.trans HL2.out)
            clear hm3
            go_upto_region 9 with fail
            (refine wp_region_held_drew (S := (fun w' => w'.cell? ⟨w.heap.size, 0, none⟩ = some (.int .i64 (l : Int)) ∧ w'.cell? ⟨w.heap.size, 1, none⟩ = some (.int .i64 (r : Int)))) (by kernel_rfl) ?_ (fun hHeld => ?_); (· ((try dsimp only); (refine ⟨?_, ?_⟩ <;> first | with_reducible assumption | (with_reducible apply cell_drew; with_reducible assumption) | (refine cell_gb hgc (by dsimp only; omega) ?_; first | with_reducible assumption | (with_reducible apply cell_drew; with_reducible assumption) | (with_reducible apply cell_drew; first | exact hHeld.1 | exact hHeld.2) | exact hHeld.1 | exact hHeld.2)))); ((refine wpAnyH_take (i := 0) (oi := { dst := some 49, op := Op.move (Operand.tmp 0), type := 25, pos := "l14_mobile.go:93", after := #[], guard := none }) (v := ?_) rfl (by kernel_rfl) (by kernel_rfl) (by kernel_rfl) (fun _ _ _ h => h) (Or.inl ⟨by rfl, ?_⟩) (by assumption) ?_; rotate_left 1; (· (intro w hSw; (try dsimp only at hSw); go_simp; (try with_reducible rfl)))); (try simp only [Act.put, List.setIfInBounds_toArray, List.set_cons_zero, List.set_cons_succ])); ((refine wpAnyH_take (i := 1) (oi := { dst := some 50, op := Op.fieldAddr 40 (Operand.tmp 5) 0, type := 0, pos := "l14_mobile.go:93", after := #[], guard := none }) (v := ?_) rfl (by kernel_rfl) (by kernel_rfl) (by kernel_rfl) (fun _ _ _ h => h) (Or.inl ⟨by rfl, ?_⟩) (by assumption) ?_; rotate_left 1; (· (intro w hSw; (try dsimp only at hSw); go_simp; (try with_reducible rfl)))); (try simp only [Act.put, List.setIfInBounds_toArray, List.set_cons_zero, List.set_cons_succ])); ((refine wpAnyH_take (i := 2) (oi := { dst := some 51, op := Op.load 3 (Operand.tmp 50), type := 3, pos := "l14_mobile.go:93", after := #[{ on := 1, ground := Ground.data }], guard := none }) (v := ?_) rfl (by kernel_rfl) (by kernel_rfl) (by kernel_rfl) (fun _ _ _ h => h) (Or.inl ⟨by rfl, ?_⟩) (by assumption) ?_; rotate_left 1; (· (intro w hSw; (try dsimp only at hSw); go_simp; (try with_reducible rfl)))); (try simp only [Act.put, List.setIfInBounds_toArray, List.set_cons_zero, List.set_cons_succ])); ((refine wpAnyH_take (i := 3) (oi := { dst := some 52, op := Op.move (Operand.tmp 7), type := 3, pos := "l14_mobile.go:93", after := #[], guard := none }) (v := ?_) rfl (by kernel_rfl) (by kernel_rfl) (by kernel_rfl) (fun _ _ _ h => h) (Or.inl ⟨by rfl, ?_⟩) (by assumption) ?_; rotate_left 1; (· (intro w hSw; (try dsimp only at hSw); go_simp; (try with_reducible rfl)))); (try simp only [Act.put, List.setIfInBounds_toArray, List.set_cons_zero, List.set_cons_succ])); ((refine wpAnyH_take (i := 4) (oi := { dst := some 53, op := Op.move (Operand.tmp 8), type := 3, pos := "l14_mobile.go:93", after := #[], guard := none }) (v := ?_) rfl (by kernel_rfl) (by kernel_rfl) (by kernel_rfl) (fun _ _ _ h => h) (Or.inl ⟨by rfl, ?_⟩) (by assumption) ?_; rotate_left 1; (· (intro w hSw; (try dsimp only at hSw); go_simp; (try with_reducible rfl)))); (try simp only [Act.put, List.setIfInBounds_toArray, List.set_cons_zero, List.set_cons_succ])); ((refine wpAnyH_take (i := 5) (oi := { dst := some 54, op := Op.binOp BinOp.quo 3 (Operand.tmp 52) (Operand.tmp 53) 3, type := 3, pos := "l14_mobile.go:93", after := #[{ on := 3, ground := Ground.data }, { on := 4, ground := Ground.data }], guard := none }) (v := ?_) rfl (by kernel_rfl) (by kernel_rfl) (by kernel_rfl) (fun _ _ _ h => h) (Or.inl ⟨by rfl, ?_⟩) (by assumption) ?_; rotate_left 1; (· (intro w hSw; (try dsimp only at hSw); go_simp; (try with_reducible rfl)))); (try simp only [Act.put, List.setIfInBounds_toArray, List.set_cons_zero, List.set_cons_succ])); ((refine wpAnyH_ready (rs := [6]) (by kernel_rfl) (by simp) ?_; refine AllReadyH.cons (o := { dst := some 55, op := Op.call { callee := Callee.value (Operand.func 42), args := #[Operand.tmp 49, Operand.tmp 51, Operand.tmp 54], argTypes := #[25, 3, 3] }, type := 4, pos := "l14_mobile.go:93", after := #[{ on := 0, ground := Ground.data }, { on := 2, ground := Ground.data }, { on := 5, ground := Ground.data }], guard := none }) rfl (fun K hK => ?_) AllReadyH.nil; go_simp; (first | (have hz5 := HO5; clear hz5; go_at_call 42; refine (scale_any B g cc2 n hgB 16 r g2.2 g2.1 (Nat.le_refl 16) vs Q2 _ HL3.out HM3.out HQB.out.2 HO5.out).mono ?_; rintro e w6 ⟨rfl, ho6, hgd⟩; have hgc := hgd) | (go_at_call 42; refine (scale_any B g cc2 n hgB 16 l g1.2 g1.1 (Nat.le_refl 16) zs Q1 _ HL2.out HM2.out HQB.out.1 (HOB.out.kp (Kp.drew (Kp.refl _)))).mono ?_; rw [e3, show (some vs).isSome = true from rfl]; rintro e w5 ⟨rfl, ho5, hgc⟩; have HO5 := Lib.hid (ho5 vs rfl); have HGC1 := Lib.hid hgc; clear ho5)); (try go_wp2_with fail); refine hK.out _ _ ?_ (fun hHeld => ?_); (· ((try dsimp only); (refine ⟨?_, ?_⟩ <;> first | with_reducible assumption | (with_reducible apply cell_drew; with_reducible assumption) | (refine cell_gb hgc (by dsimp only; omega) ?_; first | with_reducible assumption | (with_reducible apply cell_drew; with_reducible assumption) | (with_reducible apply cell_drew; first | exact hHeld.1 | exact hHeld.2) | exact hHeld.1 | exact hHeld.2)))); clear hK K); (try simp only [Act.put, List.setIfInBounds_toArray, List.set_cons_zero, List.set_cons_succ])); ((refine wpAnyH_take (i := 7) (oi := { dst := some 56, op := Op.move (Operand.tmp 55), type := 4, pos := "l14_mobile.go:93", after := #[{ on := 6, ground := Ground.data }, { on := 6, ground := Ground.chain }], guard := none }) (v := ?_) rfl (by kernel_rfl) (by kernel_rfl) (by kernel_rfl) (fun _ _ _ h => h) (Or.inl ⟨by rfl, ?_⟩) (by assumption) ?_; rotate_left 1; (· (intro w hSw; (try dsimp only at hSw); go_simp; (try with_reducible rfl)))); (try simp only [Act.put, List.setIfInBounds_toArray, List.set_cons_zero, List.set_cons_succ])); ((refine wpAnyH_take (i := 8) (oi := { dst := some 57, op := Op.move (Operand.tmp 0), type := 25, pos := "l14_mobile.go:93", after := #[{ on := 7, ground := Ground.guard }], guard := some (7, true) }) (v := ?_) rfl (by kernel_rfl) (by kernel_rfl) (by kernel_rfl) (fun _ _ _ h => h) (Or.inl ⟨by rfl, ?_⟩) (by assumption) ?_; rotate_left 1; (· (intro w hSw; (try dsimp only at hSw); go_simp; (try with_reducible rfl)))); (try simp only [Act.put, List.setIfInBounds_toArray, List.set_cons_zero, List.set_cons_succ])); ((refine wpAnyH_take (i := 9) (oi := { dst := some 58, op := Op.fieldAddr 40 (Operand.tmp 5) 1, type := 0, pos := "l14_mobile.go:93", after := #[{ on := 7, ground := Ground.guard }], guard := some (7, true) }) (v := ?_) rfl (by kernel_rfl) (by kernel_rfl) (by kernel_rfl) (fun _ _ _ h => h) (Or.inl ⟨by rfl, ?_⟩) (by assumption) ?_; rotate_left 1; (· (intro w hSw; (try dsimp only at hSw); go_simp; (try with_reducible rfl)))); (try simp only [Act.put, List.setIfInBounds_toArray, List.set_cons_zero, List.set_cons_succ])); ((refine wpAnyH_take (i := 10) (oi := { dst := some 59, op := Op.load 3 (Operand.tmp 58), type := 3, pos := "l14_mobile.go:93", after := #[{ on := 9, ground := Ground.data }, { on := 7, ground := Ground.guard }], guard := some (7, true) }) (v := ?_) rfl (by kernel_rfl) (by kernel_rfl) (by kernel_rfl) (fun _ _ _ h => h) (Or.inl ⟨by rfl, ?_⟩) (by assumption) ?_; rotate_left 1; (· (intro w hSw; (try dsimp only at hSw); go_simp; (try with_reducible rfl)))); (try simp only [Act.put, List.setIfInBounds_toArray, List.set_cons_zero, List.set_cons_succ])); ((refine wpAnyH_take (i := 11) (oi := { dst := some 60, op := Op.move (Operand.tmp 6), type := 3, pos := "l14_mobile.go:93", after := #[{ on := 7, ground := Ground.guard }], guard := some (7, true) }) (v := ?_) rfl (by kernel_rfl) (by kernel_rfl) (by kernel_rfl) (fun _ _ _ h => h) (Or.inl ⟨by rfl, ?_⟩) (by assumption) ?_; rotate_left 1; (· (intro w hSw; (try dsimp only at hSw); go_simp; (try with_reducible rfl)))); (try simp only [Act.put, List.setIfInBounds_toArray, List.set_cons_zero, List.set_cons_succ])); ((refine wpAnyH_take (i := 12) (oi := { dst := some 61, op := Op.move (Operand.tmp 8), type := 3, pos := "l14_mobile.go:93", after := #[{ on := 7, ground := Ground.guard }], guard := some (7, true) }) (v := ?_) rfl (by kernel_rfl) (by kernel_rfl) (by kernel_rfl) (fun _ _ _ h => h) (Or.inl ⟨by rfl, ?_⟩) (by assumption) ?_; rotate_left 1; (· (intro w hSw; (try dsimp only at hSw); go_simp; (try with_reducible rfl)))); (try simp only [Act.put, List.setIfInBounds_toArray, List.set_cons_zero, List.set_cons_succ])); ((refine wpAnyH_take (i := 13) (oi := { dst := some 62, op := Op.binOp BinOp.quo 3 (Operand.tmp 60) (Operand.tmp 61) 3, type := 3, pos := "l14_mobile.go:93", after := #[{ on := 11, ground := Ground.data }, { on := 12, ground := Ground.data }, { on := 7, ground := Ground.guard }], guard := some (7, true) }) (v := ?_) rfl (by kernel_rfl) (by kernel_rfl) (by kernel_rfl) (fun _ _ _ h => h) (Or.inl ⟨by rfl, ?_⟩) (by assumption) ?_; rotate_left 1; (· (intro w hSw; (try dsimp only at hSw); go_simp; (try with_reducible rfl)))); (try simp only [Act.put, List.setIfInBounds_toArray, List.set_cons_zero, List.set_cons_succ])); ((refine wpAnyH_ready (rs := [14]) (by kernel_rfl) (by simp) ?_; refine AllReadyH.cons (o := { dst := some 63, op := Op.call { callee := Callee.value (Operand.func 42), args := #[Operand.tmp 57, Operand.tmp 59, Operand.tmp 62], argTypes := #[25, 3, 3] }, type := 4, pos := "l14_mobile.go:93", after := #[{ on := 8, ground := Ground.data }, { on := 10, ground := Ground.data }, { on := 13, ground := Ground.data }, { on := 7, ground := Ground.chain }, { on := 7, ground := Ground.guard }], guard := some (7, true) }) rfl (fun K hK => ?_) AllReadyH.nil; go_simp; (first | (have hz5 := HO5; clear hz5; go_at_call 42; refine (scale_any B g cc2 n hgB 16 r g2.2 g2.1 (Nat.le_refl 16) vs Q2 _ HL3.out HM3.out HQB.out.2 HO5.out).mono ?_; rintro e w6 ⟨rfl, ho6, hgd⟩; have hgc := hgd) | (go_at_call 42; refine (scale_any B g cc2 n hgB 16 l g1.2 g1.1 (Nat.le_refl 16) zs Q1 _ HL2.out HM2.out HQB.out.1 (HOB.out.kp (Kp.drew (Kp.refl _)))).mono ?_; rw [e3, show (some vs).isSome = true from rfl]; rintro e w5 ⟨rfl, ho5, hgc⟩; have HO5 := Lib.hid (ho5 vs rfl); have HGC1 := Lib.hid hgc; clear ho5)); (try go_wp2_with fail); refine hK.out _ _ ?_ (fun hHeld => ?_); (· ((try dsimp only); (refine ⟨?_, ?_⟩ <;> first | with_reducible assumption | (with_reducible apply cell_drew; with_reducible assumption) | (refine cell_gb hgc (by dsimp only; omega) ?_; first | with_reducible assumption | (with_reducible apply cell_drew; with_reducible assumption) | (with_reducible apply cell_drew; first | exact hHeld.1 | exact hHeld.2) | exact hHeld.1 | exact hHeld.2)))); clear hK K); (try simp only [Act.put, List.setIfInBounds_toArray, List.set_cons_zero, List.set_cons_succ])); ((refine wpAnyH_take (i := 15) (oi := { dst := some 64, op := Op.pick (Operand.tmp 56) (Operand.tmp 63) (Operand.const (Value.bool false)), type := 4, pos := "l14_mobile.go:93", after := #[{ on := 7, ground := Ground.data }, { on := 14, ground := Ground.data }], guard := none }) (v := ?_) rfl (by kernel_rfl) (by kernel_rfl) (by kernel_rfl) (fun _ _ _ h => h) (Or.inl ⟨by rfl, ?_⟩) (by assumption) ?_; rotate_left 1; (· (intro w hSw; (try dsimp only at hSw); go_simp; (try with_reducible rfl)))); (try simp only [Act.put, List.setIfInBounds_toArray, List.set_cons_zero, List.set_cons_succ])); ((refine wpAnyH_take (i := 16) (oi := { dst := some 4, op := Op.assign (Operand.tmp 64), type := 4, pos := "l14_mobile.go:93", after := #[{ on := 15, ground := Ground.data }, { on := 14, ground := Ground.chain }, { on := 0, ground := Ground.phase }, { on := 1, ground := Ground.phase }, { on := 2, ground := Ground.phase }, { on := 3, ground := Ground.phase }, { on := 4, ground := Ground.phase }, { on := 5, ground := Ground.phase }, { on := 6, ground := Ground.phase }, { on := 7, ground := Ground.phase }, { on := 8, ground := Ground.phase }, { on := 9, ground := Ground.phase }, { on := 10, ground := Ground.phase }, { on := 11, ground := Ground.phase }, { on := 12, ground := Ground.phase }, { on := 13, ground := Ground.phase }, { on := 14, ground := Ground.phase }, { on := 15, ground := Ground.phase }], guard := none }) (v := ?_) rfl (by kernel_rfl) (by kernel_rfl) (by kernel_rfl) (fun _ _ _ h => h) (Or.inl ⟨by rfl, ?_⟩) (by assumption) ?_; rotate_left 1; (· (intro w hSw; (try dsimp only at hSw); go_simp; (try with_reducible rfl)))); (try simp only [Act.put, List.setIfInBounds_toArray, List.set_cons_zero, List.set_cons_succ])); (refine wpAnyH_done (by kernel_rfl) ?_ _))
            go_wp2_with fail
            go_ret
            rw [HSN.out]
            exact ⟨rfl, ho6, gb_trans HGB.out (gb_trans (gb_drew _ _) (gb_trans HGC1.out hgd))⟩
end Go.Proofs.Ytajdppfngnpklaa
