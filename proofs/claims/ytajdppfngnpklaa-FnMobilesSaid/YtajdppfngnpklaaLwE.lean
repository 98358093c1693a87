/- LeastWeights: the contracts of l14Scale, l14Most and least. -/
import Derived.Test.YtajdppfngnpklaaLwD
set_option linter.unusedVariables false
namespace Go.Proofs.Ytajdppfngnpklaa
open Go.RowKit
theorem cell_gb {w W : World} {g : Nat} {p : Addr} {v : Value} (h : w.grownBy W (some g)) (hne : p.block ≠ g) (hc : w.cell? p = some v) : W.cell? p = some v :=
  (World.cell?_of_block (h.block p.block (cell_lt hc) (fun e => hne (by cases e; rfl)))).trans hc
theorem gb_alloc (w : World) (o : Obj) (r : Option Nat) : w.grownBy (w.alloc o) r := ⟨rfl, rfl, rfl, by simp, fun k hk _ => Below.heap_alloc w _ k hk⟩
theorem gb_drew (w : World) (r : Option Nat) : w.grownBy w.drew r := ⟨rfl, rfl, rfl, Nat.le_refl _, fun _ _ _ => rfl⟩
theorem gb_kp {w w' : World} (h : Kp w w') (r : Option Nat) : w.grownBy w' r := ⟨h.os, h.tape, h.output, h.size, fun k hk _ => h.block k hk⟩
theorem gb_trans {a b c : World} {r : Option Nat} (h : a.grownBy b r) (h' : b.grownBy c r) : a.grownBy c r := h.trans h'
set_option maxRecDepth 20000 in
set_option maxHeartbeats 3200000 in
theorem lScale_any (B g cap n : Nat) (hgB : B ≤ g) : ∀ f k, k < n → n - k ≤ f → f ≤ 16 → ∀ (ys zs : List Pt) (b : Int) (w : World), ys.length = n → mobB ys = true → 1 ≤ b ∧ b ≤ 1310720000 → scO f ys k b = some zs → OwP B w (.slice (some ⟨g, 0, none⟩) n cap) ys →
    Calls Try.prog 37 #[.slice (some ⟨g, 0, none⟩) n cap, .int .i64 (k : Int), .int .i64 b] w fun e w' => e = .returned (.tuple #[]) ∧ OwP B w' (.slice (some ⟨g, 0, none⟩) n cap) zs ∧ w.grownBy w' (some g) := by
  intro f
  induction f with
  | zero => intro k hk hf; omega
  | succ f ih =>
    intro k hk hf h16 ys zs b w hlen hm hb hsc ho
    have IH := Lib.hid ih
    have HM := Lib.hid hm
    have HO := Lib.hid ho
    have HLE := Lib.hid hlen
    have hgw : g < w.heap.size := (OwP.lt ho g rfl).2
    have hkl : k < ys.length := by omega
    have h15 := (mobB_tr hm).n15
    have hC := OwP.at5 ho hlen hk
    have p0 : (0 : Int) ≤ (k : Int) := by omega
    have p1 : (k : Int) < (n : Int) := by omega
    rw [show scO (f + 1) ys k b = if (pt ys k).l = -1 then (if (pt ys k).x * b ≤ 1000 then some (sx ys k ((pt ys k).x * b)) else none) else match scO f ys (kL ys k) b with | none => none | some zs => scO f zs (kR ys k) b from rfl] at hsc
    by_cases hl : (pt ys k).l = -1
    · have hx := mob_x hm hkl hl
      rw [if_pos hl] at hsc
      obtain ⟨⟨X0, X1, X2, X3, X⟩, hX⟩ : ∃ X, X = pt ys k := ⟨_, rfl⟩
      rw [← hX] at hl hsc hx hC
      obtain ⟨c0, c1, c2, c3, c4⟩ := hC
      dsimp only at c0 c1 c2 c3 c4 hl hsc hx
      subst hl
      obtain ⟨Y, hY⟩ : ∃ Y, Y = X * b := ⟨_, rfl⟩
      have h1 := Int.mul_le_mul hx.2 hb.2 (by omega) (by omega)
      have h2 := Int.mul_le_mul hx.1 hb.1 (by omega) (by omega)
      rw [← hY] at hsc h1 h2
      obtain ⟨fz, hs, hgr⟩ := x_store Y hlen hk ho
      have HS := Lib.hid (hs.kp ((Kp.refl _).alloc (.cells #[.int .i64 (-1), .int .i64 X1, .int .i64 X2, .int .i64 X3, .int .i64 X] 40)))
      have HG := Lib.hid (gb_trans hgr (gb_alloc _ (.cells #[.int .i64 (-1), .int .i64 X1, .int .i64 X2, .int .i64 X3, .int .i64 X] 40) _))
      have gY := hY.symm
      have wY : IntKind.i64.wrap Y = Y := IntWalk.i64_in _ (by omega)
      have hz : zs = sx ys k Y := by
        split at hsc
        · cases hsc; rfl
        · cases hsc
      subst hz
      clear ih hm ho hlen hX hs hgr hsc hY
      go_enter Try.func37, Try.ntmps37
      go_wp2_with fail
      exact bodyPost_ret (v := .tuple #[]) (by simp [results, Try.results37, go_sem]) rfl ⟨rfl, HS.out, HG.out⟩
    · have hc := (mobB_tr hm).kids hkl hl
      have ha := (mobB_tr hm).arm k hkl hl
      rw [if_neg hl] at hsc
      have hll : (pt ys k).l = ((kL ys k : Nat) : Int) := by unfold kL; omega
      have hrr : (pt ys k).r = ((kR ys k : Nat) : Int) := by unfold kR; omega
      obtain ⟨l, hL⟩ : ∃ l, l = kL ys k := ⟨_, rfl⟩
      obtain ⟨r, hR⟩ : ∃ r, r = kR ys k := ⟨_, rfl⟩
      rw [← hL] at hll hsc hc
      rw [← hR] at hrr hsc hc
      rw [hlen] at hc
      obtain ⟨⟨X0, X1, X2, X3, X⟩, hX⟩ : ∃ X, X = pt ys k := ⟨_, rfl⟩
      rw [← hX] at hl hC hll hrr
      obtain ⟨c0, c1, c2, c3, c4⟩ := hC
      dsimp only at c0 c1 c2 c3 c4 hl hll hrr
      subst hll hrr
      have lne : ¬ ((l : Int) = -1) := by omega
      cases e1 : scO f ys l b with
      | none => rw [e1] at hsc; cases hsc
      | some us =>
        rw [e1] at hsc
        dsimp only at hsc
        have hmz := scO_mob HM.out hb.1 (by omega) (by omega) e1
        have hzl : us.length = n := hmz.2.len.trans hlen
        have HSC := Lib.hid hsc
        have HE1 := Lib.hid e1
        have HMZ := Lib.hid hmz.1
        have HZL := Lib.hid hzl
        have hcc : (k < l ∧ l < n) ∧ k < r ∧ r < n := hc
        have f1 : (w.alloc (.cells #[.int .i64 (l : Int), .int .i64 (r : Int), .int .i64 X2, .int .i64 X3, .int .i64 X] 40)).cell? ⟨w.heap.size, 1, none⟩ = some (.int .i64 (r : Int)) := by simp [go_sem]
        have HF1 := Lib.hid f1
        clear ih hm ho hlen hX hsc e1 hmz hzl hL hR ha hc hl f1
        go_enter Try.func37, Try.ntmps37
        go_wp2_with fail
        refine (IH.out l (by omega) (by omega) (by omega) ys us b _ HLE.out HM.out hb HE1.out (HO.out.kp ((Kp.refl w).alloc _))).mono ?_
        rintro e w1 ⟨rfl, ho1, hg1⟩
        have d1 := cell_gb hg1 (by simp; omega) HF1.out
        have HG1 := Lib.hid (gb_trans (gb_alloc w _ _) hg1)
        have HO1 := Lib.hid ho1
        clear hg1 ho1 c0 c1 c2 c3 c4
        go_wp2_with fail
        refine (IH.out r (by omega) (by omega) (by omega) us zs b _ HZL.out HMZ.out hb HSC.out HO1.out).mono ?_
        rintro e w2 ⟨rfl, ho2, hg2⟩
        have HO2 := Lib.hid ho2
        have HG2 := Lib.hid (gb_trans HG1.out hg2)
        clear ho2 hg2
        go_wp2_with fail
        exact bodyPost_end (v := .tuple #[]) (by simp [results, Try.results37, go_sem]) rfl ⟨rfl, HO2.out, HG2.out⟩
theorem moM_bd {xs : List Pt} (h : mobB xs = true) : ∀ f k, k < xs.length → xs.length - k ≤ f → 1 ≤ moM xs f k ∧ moM xs f k ≤ 1000 := by
  intro f
  induction f with
  | zero => intro k hk hf; omega
  | succ f ih =>
    intro k hk hf
    rw [moM]
    by_cases hl : (pt xs k).l = -1
    · rw [if_pos hl]; exact mob_x h hk hl
    · have hc := (mobB_tr h).kids hk hl
      have a := ih _ hc.1.2 (by omega)
      have b := ih _ hc.2.2 (by omega)
      rw [if_neg hl]; omega
set_option maxRecDepth 20000 in
set_option maxHeartbeats 3200000 in
theorem lMost_any (n : Nat) (xs : List Pt) (hl : xs.length = n) (hm : mobB xs = true) : ∀ f k, k < n → n - k ≤ f → f ≤ 16 → ∀ (A : Option Addr) (c : Nat) (w : World), RdP w A n xs →
    Calls Try.prog 36 #[.slice A n c, .int .i64 (k : Int)] w fun e w' => e = .returned (.int .i64 (moM xs f k)) ∧ Kp w w' := by
  have HL := Lib.hid hl
  have HM := Lib.hid hm
  clear hl hm
  intro f
  induction f with
  | zero => intro k hk hf; omega
  | succ f ih =>
    intro k hk hf h16 A c w hr
    have hn15 : n ≤ 15 := by have := (mobB_bd HM.out).2.1; rw [HL.out] at this; exact this
    have hkl : k < xs.length := by rw [HL.out]; exact hk
    obtain ⟨b, off, rfl, hb, hc⟩ := RdP.cellOf hr HL.out (by omega)
    have hC := hc k hk
    have HR := Lib.hid hr
    have IH := Lib.hid ih
    have hw : moM xs (f + 1) k = if (pt xs k).l = -1 then (pt xs k).x else max (moM xs f (kL xs k)) (moM xs f (kR xs k)) := rfl
    rw [hw]
    have p0 : (0 : Int) ≤ (k : Int) := by omega
    have p1 : (k : Int) < (n : Int) := by omega
    by_cases hleaf : (pt xs k).l = -1
    · rw [if_pos hleaf]
      obtain ⟨⟨X0, X1, X2, X3, X4⟩, hX⟩ : ∃ X, X = pt xs k := ⟨_, rfl⟩
      rw [← hX] at hC hleaf ⊢
      obtain ⟨c0, c1, c2, c3, c4⟩ := hC
      dsimp only at c0 c1 c2 c3 c4 hleaf ⊢
      subst hleaf
      clear hX hc hr ih hw
      go_enter Try.func36, Try.ntmps36
      go_wp2_with fail
      go_ret
      exact ⟨rfl, by (repeat (with_reducible first | exact Kp.refl _ | assumption | refine Kp.drew ?_ | refine Kp.drewN ?_ _ | refine Kp.alloc ?_ _ | refine Kp.setCell ?_ (by first | (simp; done) | (simp; omega) | (dsimp only; omega)) _ | refine Kp.trans ?_ (by assumption)))⟩
    · have hkd := (mobB_tr HM.out).kids hkl hleaf
      have ha := (mobB_tr HM.out).arm k hkl hleaf
      rw [if_neg hleaf]
      have hll : (pt xs k).l = ((kL xs k : Nat) : Int) := by unfold kL; omega
      have hrr : (pt xs k).r = ((kR xs k : Nat) : Int) := by unfold kR; omega
      obtain ⟨l, hL⟩ : ∃ l, l = kL xs k := ⟨_, rfl⟩
      obtain ⟨r, hR⟩ : ∃ r, r = kR xs k := ⟨_, rfl⟩
      rw [← hL] at hll hkd ⊢
      rw [← hR] at hrr hkd ⊢
      rw [HL.out] at hkd
      obtain ⟨⟨X0, X1, X2, X3, X4⟩, hX⟩ : ∃ X, X = pt xs k := ⟨_, rfl⟩
      rw [← hX] at hC hleaf hll hrr
      obtain ⟨c0, c1, c2, c3, c4⟩ := hC
      dsimp only at c0 c1 c2 c3 c4 hleaf hll hrr
      subst hll hrr
      have g1 : n - l ≤ f ∧ l < n := by omega
      have g2 : n - r ≤ f ∧ r < n := by omega
      obtain ⟨U, eU⟩ : ∃ U, U = moM xs f l := ⟨_, rfl⟩
      obtain ⟨V, eV⟩ : ∃ V, V = moM xs f r := ⟨_, rfl⟩
      rw [← eU, ← eV]
      obtain ⟨M, eM⟩ : ∃ M, M = max U V := ⟨_, rfl⟩
      rw [← eM]
      have EM := Lib.hid eM
      clear eM
      have EU := Lib.hid eU
      have EV := Lib.hid eV
      have hz0 : b < w.heap.size := hb
      clear hX hc hr ih hw eU eV ha hf hL hR hkd
      rcases Int.lt_or_le U V with hUV | hUV
      all_goals
        go_enter Try.func36, Try.ntmps36
        go_upto_region 4 with fail
        have hA : Kp w (w.alloc (.cells #[.int .i64 (l : Int), .int .i64 (r : Int), .int .i64 X2, .int .i64 X3, .int .i64 X4] 40)) := by (repeat (with_reducible first | exact Kp.refl _ | assumption | refine Kp.drew ?_ | refine Kp.drewN ?_ _ | refine Kp.alloc ?_ _ | refine Kp.setCell ?_ (by first | (simp; done) | (simp; omega) | (dsimp only; omega)) _ | refine Kp.trans ?_ (by assumption)))
        have f0 : (w.alloc (.cells #[.int .i64 (l : Int), .int .i64 (r : Int), .int .i64 X2, .int .i64 X3, .int .i64 X4] 40)).cell? ⟨w.heap.size, 0, none⟩ = some (.int .i64 (l : Int)) := by simp [go_sem]
        have f1 : (w.alloc (.cells #[.int .i64 (l : Int), .int .i64 (r : Int), .int .i64 X2, .int .i64 X3, .int .i64 X4] 40)).cell? ⟨w.heap.size, 1, none⟩ = some (.int .i64 (r : Int)) := by simp [go_sem]
        generalize w.alloc (.cells #[.int .i64 (l : Int), .int .i64 (r : Int), .int .i64 X2, .int .i64 X3, .int .i64 X4] 40) = W at *
        clear c0 c1 c2 c3 c4
        (refine wp_region_held_drew (S := (fun w' => w'.cell? ⟨w.heap.size, 0, none⟩ = some (.int .i64 (l : Int)) ∧ w'.cell? ⟨w.heap.size, 1, none⟩ = some (.int .i64 (r : Int)) ∧ Kp w w')) (by kernel_rfl) ?_ (fun hHeld => ?_); (· ((try dsimp only); (((try go_split_ands); (repeat' apply And.intro) <;> (first | with_reducible assumption | (with_reducible apply cell_drew; with_reducible assumption) | (with_reducible refine Kp.drew ?_; with_reducible assumption) | (with_reducible apply hk.at1; with_reducible assumption) | (with_reducible apply hk.at1; with_reducible apply cell_drew; with_reducible assumption) | (refine Kp.trans ?_ hk; with_reducible assumption) | (refine Kp.trans (Kp.drew ?_) hk; with_reducible assumption)))))); ((refine wpAnyH_take (i := 0) (oi := { dst := some 15, op := Op.move (Operand.tmp 0), type := 25, pos := "l14_mobile.go:78", after := #[], guard := none }) (v := ?_) rfl (by kernel_rfl) (by kernel_rfl) (by kernel_rfl) (fun _ _ _ h => h) (Or.inl ⟨by rfl, ?_⟩) (by assumption) ?_; rotate_left 1; (· (intro w hSw; (try dsimp only at hSw); go_simp; (try with_reducible rfl)))); (try simp only [Act.put, List.setIfInBounds_toArray, List.set_cons_zero, List.set_cons_succ])); ((refine wpAnyH_take (i := 1) (oi := { dst := some 16, op := Op.fieldAddr 40 (Operand.tmp 5) 0, type := 0, pos := "l14_mobile.go:78", after := #[], guard := none }) (v := ?_) rfl (by kernel_rfl) (by kernel_rfl) (by kernel_rfl) (fun _ _ _ h => h) (Or.inl ⟨by rfl, ?_⟩) (by assumption) ?_; rotate_left 1; (· (intro w hSw; (try dsimp only at hSw); go_simp; (try with_reducible rfl)))); (try simp only [Act.put, List.setIfInBounds_toArray, List.set_cons_zero, List.set_cons_succ])); ((refine wpAnyH_take (i := 2) (oi := { dst := some 17, op := Op.load 3 (Operand.tmp 16), type := 3, pos := "l14_mobile.go:78", after := #[{ on := 1, ground := Ground.data }], guard := none }) (v := ?_) rfl (by kernel_rfl) (by kernel_rfl) (by kernel_rfl) (fun _ _ _ h => h) (Or.inl ⟨by rfl, ?_⟩) (by assumption) ?_; rotate_left 1; (· (intro w hSw; (try dsimp only at hSw); go_simp; (try with_reducible rfl)))); (try simp only [Act.put, List.setIfInBounds_toArray, List.set_cons_zero, List.set_cons_succ])); ((refine wpAnyH_take (i := 4) (oi := { dst := some 19, op := Op.move (Operand.tmp 0), type := 25, pos := "l14_mobile.go:78", after := #[], guard := none }) (v := ?_) rfl (by kernel_rfl) (by kernel_rfl) (by kernel_rfl) (fun _ _ _ h => h) (Or.inl ⟨by rfl, ?_⟩) (by assumption) ?_; rotate_left 1; (· (intro w hSw; (try dsimp only at hSw); go_simp; (try with_reducible rfl)))); (try simp only [Act.put, List.setIfInBounds_toArray, List.set_cons_zero, List.set_cons_succ])); ((refine wpAnyH_take (i := 5) (oi := { dst := some 20, op := Op.fieldAddr 40 (Operand.tmp 5) 1, type := 0, pos := "l14_mobile.go:78", after := #[], guard := none }) (v := ?_) rfl (by kernel_rfl) (by kernel_rfl) (by kernel_rfl) (fun _ _ _ h => h) (Or.inl ⟨by rfl, ?_⟩) (by assumption) ?_; rotate_left 1; (· (intro w hSw; (try dsimp only at hSw); go_simp; (try with_reducible rfl)))); (try simp only [Act.put, List.setIfInBounds_toArray, List.set_cons_zero, List.set_cons_succ])); ((refine wpAnyH_take (i := 6) (oi := { dst := some 21, op := Op.load 3 (Operand.tmp 20), type := 3, pos := "l14_mobile.go:78", after := #[{ on := 5, ground := Ground.data }], guard := none }) (v := ?_) rfl (by kernel_rfl) (by kernel_rfl) (by kernel_rfl) (fun _ _ _ h => h) (Or.inl ⟨by rfl, ?_⟩) (by assumption) ?_; rotate_left 1; (· (intro w hSw; (try dsimp only at hSw); go_simp; (try with_reducible rfl)))); (try simp only [Act.put, List.setIfInBounds_toArray, List.set_cons_zero, List.set_cons_succ])); ((refine wpAnyH_ready (rs := [3]) (by kernel_rfl) (by simp) ?_; refine AllReadyH.cons (o := { dst := some 18, op := Op.call { callee := Callee.value (Operand.func 36), args := #[Operand.tmp 15, Operand.tmp 17], argTypes := #[25, 3] }, type := 3, pos := "l14_mobile.go:78", after := #[{ on := 0, ground := Ground.data }, { on := 2, ground := Ground.data }], guard := none }) rfl (fun K hK => ?_) AllReadyH.nil; go_simp; (first | (go_at_call 36; refine (IH.out _ (by omega) (by omega) (by omega) _ _ _ (HR.out.kp (by (try go_split_ands); assumption))).mono ?_; (first | rw [← EU.out] | rw [← EV.out]); rintro e w3 ⟨rfl, hk⟩) | skip); (try go_wp2_with fail); refine hK.out _ _ ?_ (fun hHeld => ?_); (· ((try dsimp only); (((try go_split_ands); (repeat' apply And.intro) <;> (first | with_reducible assumption | (with_reducible apply cell_drew; with_reducible assumption) | (with_reducible refine Kp.drew ?_; with_reducible assumption) | (with_reducible apply hk.at1; with_reducible assumption) | (with_reducible apply hk.at1; with_reducible apply cell_drew; with_reducible assumption) | (refine Kp.trans ?_ hk; with_reducible assumption) | (refine Kp.trans (Kp.drew ?_) hk; with_reducible assumption)))))); clear hK K); (try simp only [Act.put, List.setIfInBounds_toArray, List.set_cons_zero, List.set_cons_succ])); ((refine wpAnyH_ready (rs := [7]) (by kernel_rfl) (by simp) ?_; refine AllReadyH.cons (o := { dst := some 22, op := Op.call { callee := Callee.value (Operand.func 36), args := #[Operand.tmp 19, Operand.tmp 21], argTypes := #[25, 3] }, type := 3, pos := "l14_mobile.go:78", after := #[{ on := 4, ground := Ground.data }, { on := 6, ground := Ground.data }, { on := 3, ground := Ground.chain }], guard := none }) rfl (fun K hK => ?_) AllReadyH.nil; go_simp; (first | (go_at_call 36; refine (IH.out _ (by omega) (by omega) (by omega) _ _ _ (HR.out.kp (by (try go_split_ands); assumption))).mono ?_; (first | rw [← EU.out] | rw [← EV.out]); rintro e w3 ⟨rfl, hk⟩) | skip); (try go_wp2_with fail); refine hK.out _ _ ?_ (fun hHeld => ?_); (· ((try dsimp only); (((try go_split_ands); (repeat' apply And.intro) <;> (first | with_reducible assumption | (with_reducible apply cell_drew; with_reducible assumption) | (with_reducible refine Kp.drew ?_; with_reducible assumption) | (with_reducible apply hk.at1; with_reducible assumption) | (with_reducible apply hk.at1; with_reducible apply cell_drew; with_reducible assumption) | (refine Kp.trans ?_ hk; with_reducible assumption) | (refine Kp.trans (Kp.drew ?_) hk; with_reducible assumption)))))); clear hK K); (try simp only [Act.put, List.setIfInBounds_toArray, List.set_cons_zero, List.set_cons_succ])); ((refine wpAnyH_ready (rs := [8]) (by kernel_rfl) (by simp) ?_; refine AllReadyH.cons (o := { dst := some 23, op := Op.call { callee := Callee.builtin Builtin.max, args := #[Operand.tmp 18, Operand.tmp 22], argTypes := #[3, 3] }, type := 3, pos := "l14_mobile.go:78", after := #[{ on := 3, ground := Ground.data }, { on := 7, ground := Ground.data }], guard := none }) rfl (fun K hK => ?_) AllReadyH.nil; go_simp; (first | (go_at_call 36; refine (IH.out _ (by omega) (by omega) (by omega) _ _ _ (HR.out.kp (by (try go_split_ands); assumption))).mono ?_; (first | rw [← EU.out] | rw [← EV.out]); rintro e w3 ⟨rfl, hk⟩) | skip); (try go_wp2_with fail); refine hK.out _ _ ?_ (fun hHeld => ?_); (· ((try dsimp only); (((try go_split_ands); (repeat' apply And.intro) <;> (first | with_reducible assumption | (with_reducible apply cell_drew; with_reducible assumption) | (with_reducible refine Kp.drew ?_; with_reducible assumption) | (with_reducible apply hk.at1; with_reducible assumption) | (with_reducible apply hk.at1; with_reducible apply cell_drew; with_reducible assumption) | (refine Kp.trans ?_ hk; with_reducible assumption) | (refine Kp.trans (Kp.drew ?_) hk; with_reducible assumption)))))); clear hK K); (try simp only [Act.put, List.setIfInBounds_toArray, List.set_cons_zero, List.set_cons_succ])); ((refine wpAnyH_take (i := 9) (oi := { dst := some 4, op := Op.assign (Operand.tmp 23), type := 3, pos := "l14_mobile.go:78", after := #[{ on := 8, ground := Ground.data }, { on := 7, ground := Ground.chain }, { on := 0, ground := Ground.phase }, { on := 1, ground := Ground.phase }, { on := 2, ground := Ground.phase }, { on := 3, ground := Ground.phase }, { on := 4, ground := Ground.phase }, { on := 5, ground := Ground.phase }, { on := 6, ground := Ground.phase }, { on := 7, ground := Ground.phase }, { on := 8, ground := Ground.phase }], guard := none }) (v := ?_) rfl (by kernel_rfl) (by kernel_rfl) (by kernel_rfl) (fun _ _ _ h => h) (Or.inl ⟨by rfl, ?_⟩) (by assumption) ?_; rotate_left 1; (· (intro w hSw; (try dsimp only at hSw); go_simp; (try with_reducible rfl)))); (try simp only [Act.put, List.setIfInBounds_toArray, List.set_cons_zero, List.set_cons_succ])); (refine wpAnyH_done (by kernel_rfl) ?_ _))
        go_wp2_with fail
        go_ret
        exact ⟨by first | (rw [EM.out, Int.max_eq_right (by omega)]; rfl) | (rw [EM.out, Int.max_eq_left (by omega)]; rfl), by (try go_split_ands); assumption⟩
end Go.Proofs.Ytajdppfngnpklaa
