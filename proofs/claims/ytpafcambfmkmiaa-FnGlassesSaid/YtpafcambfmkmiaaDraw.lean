/- The draw's cursor: contracts of l01Byte and its kin. -/
import Derived.Test.YtpafcambfmkmiaaInts
import Derived.Deep.DeepCutAuto
set_option linter.unusedVariables false
namespace Go.Proofs.Ytpafcambfmkmiaa
open Go.RowKit

theorem and_low (x : Int) (m : Nat) (hm : m ≤ 1073741823) : 0 ≤ IntKind.i64.wrap ((BitVec.ofInt 64 x &&& BitVec.ofInt 64 (m : Int)).toNat : Int) ∧ IntKind.i64.wrap ((BitVec.ofInt 64 x &&& BitVec.ofInt 64 (m : Int)).toNat : Int) ≤ m := by
  have h : (BitVec.ofInt 64 x &&& BitVec.ofInt 64 (m : Int)).toNat ≤ m := by
    rw [BitVec.toNat_and]
    refine Nat.le_trans Nat.and_le_right ?_
    simp
    omega
  rw [IntWalk.i64_in _ (by omega)]
  omega
theorem bits_and_low (x : Int) (m : Nat) (hm : m ≤ 1073741823) : 0 ≤ bits .and .i64 x (m : Int) ∧ bits .and .i64 x (m : Int) ≤ m := by
  exact and_low x m hm
/-- The cursor in block g, over the bytes xs. -/
def Cur (w : World) (g : Nat) (A : Option Addr) (n c : Nat) (xs : List Int) : Prop :=
  (∃ i h : Int, w.cell? ⟨g, 0, none⟩ = some (.slice A n c) ∧ (w.cell? ⟨g, 1, none⟩ = some (.int .i64 i) ∧ w.frozen? ⟨g, 1, none⟩ = false) ∧ (w.cell? ⟨g, 2, none⟩ = some (.int .i64 h) ∧ w.frozen? ⟨g, 2, none⟩ = false) ∧ 0 ≤ i ∧ i ≤ n) ∧
  xs.length = n ∧ n ≤ 1048576 ∧ Reads w g 1 A n (xs.map (.int .u8)) ∧ (∀ x ∈ xs, 0 ≤ x ∧ x ≤ 255) ∧ g < w.heap.size
theorem grown_set (W : World) (b j : Nat) (v : Value) : W.grownBy (W.setCell ⟨b, j, none⟩ v) (some b) :=
  ⟨rfl, rfl, rfl, by simp, fun k _ hk => Below.heap_setCell _ _ _ k (fun e => hk (by rw [e]))⟩
theorem grown_drewN {w W : World} {r : Option Nat} (h : w.grownBy W r) (k : Nat) : w.grownBy (W.drewN k) r := ⟨h.os, h.tape, h.output, h.size, h.block⟩
theorem grown_trans {w W V : World} {r : Option Nat} (h : w.grownBy W r) (h' : W.grownBy V r) : w.grownBy V r := ⟨h'.os.trans h.os, h'.tape.trans h.tape, h'.output.trans h.output, Nat.le_trans h.size h'.size, fun k hk hne => (h'.block k (Nat.lt_of_lt_of_le hk h.size) hne).trans (h.block k hk hne)⟩
theorem cur_bump {V : World} {g : Nat} {A : Option Addr} {n c : Nat} {xs : List Int} {K : Nat} {H : Int} (d0 : V.cell? ⟨g, 0, none⟩ = some (.slice A n c)) (d1 : V.cell? ⟨g, 1, none⟩ = some (.int .i64 (K : Int))) (k1 : V.frozen? ⟨g, 1, none⟩ = false)
    (d2 : V.cell? ⟨g, 2, none⟩ = some (.int .i64 H)) (k2 : V.frozen? ⟨g, 2, none⟩ = false) (hK : K < n) (hl : xs.length = n) (hn : n ≤ 1048576) (hr : Reads V g 1 A n (xs.map (.int .u8))) (hx : ∀ x ∈ xs, 0 ≤ x ∧ x ≤ 255) (hg : g < V.heap.size) (I : Int) (hI : I = (K : Int) + 1) :
    Cur (V.setCell ⟨g, 1, none⟩ (.int .i64 I)) g A n c xs := by
  refine ⟨⟨I, H, ?_, ⟨?_, ?_⟩, ⟨?_, ?_⟩, by omega, by omega⟩, hl, hn, ?_, hx, by simpa using hg⟩
  · rw [World.cell?_setCell_other _ _ _ _ (by simp)]; exact d0
  · simp [go_sem, d1]
  · simp [go_sem, k1]
  · rw [World.cell?_setCell_other _ _ _ _ (by simp)]; exact d2
  · simp [go_sem, k2]
  · exact hr.setCell (by simp) _
theorem l01Byte_any (g : Nat) (A : Option Addr) (n c : Nat) (xs : List Int) (w : World) (hc : Cur w g A n c xs) :
    Calls Try.prog 38 #[.pointer (some ⟨g, 0, none⟩)] w fun e w' => ∃ v : Int, e = .returned (.int .i64 v) ∧ 0 ≤ v ∧ v ≤ 255 ∧ Cur w' g A n c xs ∧ w.grownBy w' (some g) := by
  obtain ⟨⟨i, h, c0, ⟨c1, f1⟩, ⟨c2, f2⟩, hi0, hin⟩, hl, hn, hr, hx, hg⟩ := hc
  go_enter Try.func38, Try.ntmps38
  go_upto_region 2 with fail
  generalize wrap64 (wrap64 (h * 6364136223846793005) + 1442695040888963407) = H
  have hX := bits_and_low (bits .xor .i64 (H / 8589934592) (H / 35184372088832)) 255 (by omega)
  have d0 : (w.setCell ⟨g, 2, none⟩ (.int .i64 H)).cell? ⟨g, 0, none⟩ = some (.slice A n c) := by rw [World.cell?_setCell_other _ _ _ _ (by simp)]; exact c0
  have d1 : (w.setCell ⟨g, 2, none⟩ (.int .i64 H)).cell? ⟨g, 1, none⟩ = some (.int .i64 i) := by rw [World.cell?_setCell_other _ _ _ _ (by simp)]; exact c1
  have d2 : (w.setCell ⟨g, 2, none⟩ (.int .i64 H)).cell? ⟨g, 2, none⟩ = some (.int .i64 H) := by simp [go_sem, c2]
  have k1 : (w.setCell ⟨g, 2, none⟩ (.int .i64 H)).frozen? ⟨g, 1, none⟩ = false := by simp [go_sem, f1]
  have k2 : (w.setCell ⟨g, 2, none⟩ (.int .i64 H)).frozen? ⟨g, 2, none⟩ = false := by simp [go_sem, f2]
  have hgr : w.grownBy (w.setCell ⟨g, 2, none⟩ (.int .i64 H)) (some g) := by
    exact grown_set w g 2 (.int .i64 H)
  have hgz : g < (w.setCell ⟨g, 2, none⟩ (.int .i64 H)).heap.size := by simpa using hg
  generalize w.setCell ⟨g, 2, none⟩ (.int .i64 H) = W at *
  go_quiet (fail)
  have hX' : 0 ≤ bits BinOp.and IntKind.i64 (bits BinOp.xor IntKind.i64 (H / 8589934592) (H / 35184372088832)) 255 ∧ bits BinOp.and IntKind.i64 (bits BinOp.xor IntKind.i64 (H / 8589934592) (H / 35184372088832)) 255 ≤ 255 := hX
  generalize bits BinOp.and IntKind.i64 (bits BinOp.xor IntKind.i64 (H / 8589934592) (H / 35184372088832)) 255 = X at *
  clear hX
  go_upto_region 3 with fail
  obtain ⟨K, rfl⟩ : ∃ K : Nat, i = (K : Int) := ⟨i.toNat, by omega⟩
  have hr2 := hr.grown hgr (by omega) (fun g' e => by cases e; exact Nat.le_refl _)
  by_cases hin' : K < n
  · obtain ⟨b, off, u, rfl, hb, hu, hc⟩ := hr2.cellOf (k := K) (by omega)
    have cx := hc K _ (by rw [List.getElem?_map, List.getElem?_eq_getElem (by omega)]; rfl)
    have x0 := hx (xs[K]'(by omega)) (List.getElem_mem _)
    obtain ⟨x, ex⟩ : ∃ x, x = xs[K]'(by omega) := ⟨_, rfl⟩
    rw [← ex] at cx x0
    have i1 : (K : Int) < (n : Int) := by omega
    have HR := Lib.hid hr2
    have HX := Lib.hid hx
    clear ex hc hu hr hr2 hx c0 c1 f1 c2 f2
    go_quiet (fail)
    go_upto_region 4 with fail
    have q1 : IntKind.i64.wrap (X + x) = X + x := IntWalk.i64_in _ (by omega)
    have hX2 := bits_and_low (X + x) 255 (by omega)
    go_quiet (fail)
    clear q1
    go_wp2
    go_ret
    refine ⟨_, rfl, hX2.1, hX2.2, ?_, ?_⟩
    · exact cur_bump d0 d1 k1 d2 k2 hin' hl hn HR.out HX.out hgz _ rfl
    · exact grown_trans (grown_drewN hgr _) (grown_set _ g 1 _)
  · have i1 : (n : Int) ≤ (K : Int) := by omega
    go_quiet (fail)
    go_wp2
    go_ret
    refine ⟨_, rfl, hX'.1, hX'.2, ?_, ?_⟩
    · exact ⟨⟨K, H, d0, ⟨d1, k1⟩, ⟨d2, k2⟩, by omega, by omega⟩, hl, hn, hr2, hx, hgz⟩
    · exact grown_drewN (grown_drewN hgr _) _
theorem l01Below_any (g : Nat) (A : Option Addr) (n c : Nat) (xs : List Int) (m : Int) (w : World) (hm : 1 ≤ m ∧ m ≤ 256) (hc : Cur w g A n c xs) :
    Calls Try.prog 35 #[.pointer (some ⟨g, 0, none⟩), .int .i64 m] w fun e w' => ∃ v : Int, e = .returned (.int .i64 v) ∧ 0 ≤ v ∧ v < m ∧ Cur w' g A n c xs ∧ w.grownBy w' (some g) := by
  have HC := Lib.hid hc
  clear hc
  have t0 : (m == 0) = false := by simp; omega
  go_enter Try.func35, Try.ntmps35
  go_wp2_with fail
  refine (l01Byte_any g A n c xs _ HC.out).mono ?_
  rintro e w1 ⟨v, rfl, h0, h1, hc1, hg1⟩
  have d1 : v.tmod m = v % m := Int.tmod_eq_emod_of_nonneg h0
  have d2 := Int.emod_nonneg v (show m ≠ 0 by omega)
  have d3 := Int.emod_lt_of_pos v (show 0 < m by omega)
  obtain ⟨Y, hY⟩ : ∃ Y, Y = v % m := ⟨_, rfl⟩
  rw [← hY] at d1 d2 d3
  have HC1 := Lib.hid hc1
  have HG1 := Lib.hid hg1
  clear hY hc1 hg1
  go_wp2_with fail
  go_ret
  exact ⟨_, rfl, d2, d3, HC1.out, HG1.out⟩
theorem big_any (A : Option Addr) (n c : Nat) (w : World) : Calls Try.prog 24 #[.slice A n c] w fun e w' => e = .returned (.bool (decide ((1048576 : Int) < (n : Int)))) ∧ w = w' := by
  go_enter Try.func24, Try.ntmps24
  go_wp2
  go_ret
  exact ⟨rfl, rfl⟩
theorem at_any (A : Option Addr) (n c : Nat) (xs : List Int) (i : Int) (w : World) (hi : 0 ≤ i ∧ i ≤ 1000) (hl : xs.length = n) (hn : n ≤ 1048576) (hr : Reads w w.heap.size 1 A n (xs.map (.int .u8))) (hx : ∀ x ∈ xs, 0 ≤ x ∧ x ≤ 255) :
    Calls Try.prog 26 #[.slice A n c, .int .i64 i] w fun e w' => ∃ v : Int, e = .returned (.int .i64 v) ∧ 0 ≤ v ∧ v ≤ 255 ∧ Kp w w' := by
  by_cases h0 : n = 0
  · have t0 : ((n : Int) == 0) = true := by simp; omega
    clear h0
    go_enter Try.func26, Try.ntmps26
    go_wp2
    go_ret
    exact ⟨_, rfl, by omega, by omega, Kp.refl w⟩
  · have t0 : ((n : Int) == 0) = false := by simp; omega
    have e1 : (i * 5 + 1).tmod (n : Int) = (i * 5 + 1) % (n : Int) := Int.tmod_eq_emod_of_nonneg (by omega)
    have e2 := Int.emod_nonneg (i * 5 + 1) (show (n : Int) ≠ 0 by omega)
    have e3 := Int.emod_lt_of_pos (i * 5 + 1) (show (0 : Int) < (n : Int) by omega)
    obtain ⟨k, hk⟩ : ∃ k : Nat, (k : Int) = (i * 5 + 1) % (n : Int) := ⟨((i * 5 + 1) % (n : Int)).toNat, by omega⟩
    rw [← hk] at e1 e2 e3
    obtain ⟨b, off, u, rfl, hb, hu, hc⟩ := hr.cellOf (k := k) (by omega)
    have cx := hc k _ (by rw [List.getElem?_map, List.getElem?_eq_getElem (by omega)]; rfl)
    have x0 := hx (xs[k]'(by omega)) (List.getElem_mem _)
    obtain ⟨x, ex⟩ : ∃ x, x = xs[k]'(by omega) := ⟨_, rfl⟩
    rw [← ex] at cx x0
    clear ex hc hu hr hx hk h0
    go_enter Try.func26, Try.ntmps26
    go_wp2
    go_ret
    exact ⟨_, rfl, x0.1, x0.2, Kp.refl w⟩
theorem cur_new {w W : World} {A : Option Addr} {n c : Nat} {xs : List Int} {H : Int} {t : TypeId} (hl : xs.length = n) (hn : n ≤ 1048576) (hr : Reads w w.heap.size 1 A n (xs.map (.int .u8))) (hx : ∀ x ∈ xs, 0 ≤ x ∧ x ≤ 255) (hk : Kp w W) :
    Cur (W.alloc (.cells #[.slice A n c, .int .i64 0, .int .i64 H] t)) W.heap.size A n c xs :=
  ⟨⟨0, H, by simp [go_sem], ⟨by simp [go_sem], by simp [go_sem]⟩, ⟨by simp [go_sem], by simp [go_sem]⟩, by omega, by omega⟩, hl, hn, (hr.kp hk).alloc (Nat.le_refl _) _, hx, by simp⟩
theorem l01New_any (A : Option Addr) (n c : Nat) (xs : List Int) (w : World) (hl : xs.length = n) (hn : n ≤ 1048576) (hr : Reads w w.heap.size 1 A n (xs.map (.int .u8))) (hx : ∀ x ∈ xs, 0 ≤ x ∧ x ≤ 255) :
    Calls Try.prog 33 #[.slice A n c] w fun e w' => ∃ g : Nat, e = .returned (.pointer (some ⟨g, 0, none⟩)) ∧ w.heap.size ≤ g ∧ Cur w' g A n c xs ∧ Kp w w' := by
  have HR := Lib.hid hr
  have HX := Lib.hid hx
  clear hr hx
  go_enter Try.func33, Try.ntmps33
  go_wp2
  go_loopw [3, 4] (fun h i wr => ∃ k : Nat, ∃ H : Int, k ≤ n ∧ i = .int .i64 k ∧ h = .int .i64 H ∧ 0 ≤ H ∧ H ≤ 1073741823 ∧ Kp w wr) (fun _ i _ => n + 1 - (intOf i).toNat)
  case atStart => exact ⟨0, _, by omega, rfl, rfl, by omega, by omega, Kp.refl w⟩
  case round =>
    obtain ⟨k, H, hk, rfl, rfl, h0, h1, hkp⟩ := hrel
    by_cases hlt : k < n
    · by_cases h4 : (k : Int) < 4000
      · obtain ⟨b, off, u, rfl, hb, hu, hc⟩ := (HR.out.kp hkp).cellOf (k := k) (by omega)
        have cx := hc k _ (by rw [List.getElem?_map, List.getElem?_eq_getElem (by omega)]; rfl)
        have x0 := HX.out (xs[k]'(by omega)) (List.getElem_mem _)
        obtain ⟨x, ex⟩ : ∃ x, x = xs[k]'(by omega) := ⟨_, rfl⟩
        rw [← ex] at cx x0
        have hb2 := bits_and_low (H * 131 + x + 7) 1073741823 (by omega)
        clear ex hc hu
        go_wp2
        go_roundw
        case rel => exact ⟨k + 1, _, by omega, by go_num, rfl, hb2.1, hb2.2, hkp⟩
        case measure => simp [intOf]; omega
      · have h4' : decide ((k : Int) < 4000) = false := by simpa using h4
        clear h4
        go_wp2
        go_ret
        exact ⟨wr.heap.size, rfl, hkp.size, cur_new hl hn HR.out HX.out hkp, hkp.alloc _⟩
    · obtain rfl : k = n := by omega
      go_wp2
      go_ret
      exact ⟨wr.heap.size, rfl, hkp.size, cur_new hl hn HR.out HX.out hkp, hkp.alloc _⟩
end Go.Proofs.Ytpafcambfmkmiaa
