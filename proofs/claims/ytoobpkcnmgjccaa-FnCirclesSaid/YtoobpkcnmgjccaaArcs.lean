/- ArcsOf: the plain words, and contracts of the program's and the reference's. -/
import Derived.Test.YtoobpkcnmgjccaaCircle
import Derived.Deep.DeepCutAuto
set_option linter.unusedVariables false
namespace Go.Proofs.Ytoobpkcnmgjccaa
open Go.RowKit

def addAt (l : List Int) (d : Nat) : List Int := l.set d (l.getD d 0 + 1)
/-- The place at which the arc from x to y is counted, on a circle of N. -/
def arcD (N : Nat) (x y : Int) : Nat := ((y - x) % (N : Int)).toNat
/-- The counts when the arcs from mark number i, which is x, to the first k marks have been added. -/
def arcsIn (N : Nat) (xs : List Int) (x : Int) (i : Nat) (l : List Int) : Nat → List Int
  | 0 => l
  | k + 1 => if i = k then arcsIn N xs x i l k else addAt (arcsIn N xs x i l k) (arcD N x (xs.getD k 0))
def arcsOut (N : Nat) (xs : List Int) : Nat → List Int
  | 0 => List.replicate N 0
  | i + 1 => arcsIn N xs (xs.getD i 0) i (arcsOut N xs i) xs.length
def arcs (N : Int) (xs : List Int) : List Int := if circB N xs = true then arcsOut N.toNat xs xs.length else []
theorem addAt_length (l : List Int) (d : Nat) : (addAt l d).length = l.length := by simp [addAt]
theorem arcsIn_length (N : Nat) (xs : List Int) (x : Int) (i : Nat) (l : List Int) (k : Nat) : (arcsIn N xs x i l k).length = l.length := by
  induction k with
  | zero => rfl
  | succ k ih => rw [arcsIn]; split <;> simp [addAt_length, ih]
theorem arcsOut_length (N : Nat) (xs : List Int) (i : Nat) : (arcsOut N xs i).length = N := by
  induction i with
  | zero => simp [arcsOut]
  | succ i ih => rw [arcsOut, arcsIn_length, ih]
def Low (B : Int) (l : List Int) : Prop := ∀ d, 0 ≤ l.getD d 0 ∧ l.getD d 0 ≤ B
theorem Low.add {B : Int} {l : List Int} (h : Low B l) (d : Nat) : Low (B + 1) (addAt l d) := by
  intro e
  rcases Nat.lt_or_ge d l.length with h1 | h1
  · rw [addAt, List.getD_eq_getElem?_getD, List.getElem?_set]
    split
    · have := h d
      rw [List.getD_eq_getElem?_getD] at this
      simp
      omega
    · have := h e; rw [List.getD_eq_getElem?_getD] at this; omega
  · rw [addAt, List.set_eq_of_length_le h1]
    have := h e; omega
theorem Low.more {B C : Int} {l : List Int} (h : Low B l) (hC : B ≤ C) : Low C l := fun d => by have := h d; omega
theorem arcsIn_low {N : Nat} {xs : List Int} {x : Int} {i : Nat} {l : List Int} {B : Int} (h : Low B l) (k : Nat) : Low (B + k) (arcsIn N xs x i l k) := by
  induction k with
  | zero => simpa [arcsIn] using h
  | succ k ih =>
    rw [arcsIn]
    split
    · exact ih.more (by omega)
    · exact (ih.add _).more (by omega)
theorem arcsOut_low (N : Nat) (xs : List Int) (i : Nat) : Low (i * xs.length : Nat) (arcsOut N xs i) := by
  induction i with
  | zero => intro d; simp [arcsOut, List.getD_eq_getElem?_getD, List.getElem?_replicate]; split <;> simp
  | succ i ih => rw [arcsOut]; exact (arcsIn_low ih _).more (by rw [Nat.succ_mul]; omega)
theorem map_set (l : List Int) (d : Nat) (e : Int) : (l.map (Value.int .i64)).set d (.int .i64 e) = (l.set d e).map (Value.int .i64) := by rw [List.map_set]
theorem owi_lit (w : World) (B : Nat) (hB : B ≤ w.heap.size) : OwI B (w.alloc (.cells #[] 3)) (.slice (some ⟨w.heap.size, 0, none⟩) 0 0) [] :=
  World.ownsRow_made w #[] 0 hB (by unfold maxLen; omega) rfl
theorem arcD_lt {N : Nat} (hN : 1 ≤ N) (x y : Int) : arcD N x y < N := by
  have h1 := Int.emod_nonneg (y - x) (show (N : Int) ≠ 0 by omega)
  have h2 := Int.emod_lt_of_pos (y - x) (show (0 : Int) < (N : Int) by omega)
  unfold arcD
  omega
theorem arcD_eq {N : Nat} (hN : 1 ≤ N) (x y : Int) : (y - x) % (N : Int) = (arcD N x y : Int) := by
  have h1 := Int.emod_nonneg (y - x) (show (N : Int) ≠ 0 by omega)
  unfold arcD
  omega
set_option maxHeartbeats 1600000 in
theorem iArcsOf_any (A : Option Addr) (len c : Nat) (xs : List Int) (N : Int) (w : World) (hl : xs.length = len) (hn : len ≤ 1048576) (hr : Reads w w.heap.size 1 A len (xs.map (.int .i64))) :
    Calls Try.prog 15 #[.int .i64 N, .slice A len c] w fun e w' => ∃ v, e = .returned v ∧ OwI w.heap.size w' v (arcs N xs) ∧ Kp w w' := by
  have HR := Lib.hid hr
  clear hr
  by_cases hcb : circB N xs = true
  · obtain ⟨b1, b2, hs, ha⟩ := circB_bd hcb
    obtain ⟨M, rfl⟩ : ∃ M : Nat, N = (M : Int) := ⟨N.toNat, by omega⟩
    have e : arcs (M : Int) xs = arcsOut M xs xs.length := by rw [arcs, if_pos hcb, Int.toNat_natCast]
    have HE := Lib.hid e
    have HA := Lib.hid ha
    rw [hl] at b2
    have HL := Lib.hid hl
    clear e ha hs hl
    obtain ⟨i0, hi, hz0, hz1, hz2⟩ := info_parts int_info
    go_enter Try.func15, Try.ntmps15
    go_wp2_with (first | (go_at_call 12; refine (iCircleOk_any _ _ _ xs _ _ HL.out hn HR.out).mono ?_; rintro e w1 ⟨rfl, hm⟩; have hk1 := Kp.of_drewN hm; clear hm) | (at_make; refine wpList_make_full _ rfl _ _ 22 rfl w1.heap.size 3 i0 (.int .i64 0) 1 Try.underlying22 hi hz0 hz1 .i64 .i64 _ _ M rfl rfl rfl rfl (by rw [hz2]; omega) (by unfold maxLen; omega) (Nat.le_refl _) ?_; intro w2 hown2 hgrow2; have hk2 := (Kp.refl w1).grown hgrow2 (by simp); rw [show (Value.int .i64 0).cells = #[.int .i64 0] from rfl, toList_madeCells_one, Nat.mul_one] at hown2; have HO2 := Lib.hid hown2; clear hgrow2 hown2))
    clear hcb
    go_loopw [18] (fun i wr => ∃ a : Nat, a ≤ len ∧ i = .int .i64 a ∧ wr.ownsRow w1.heap.size 3 1 (.slice (some ⟨w1.heap.size, 0, none⟩) M M) M ((arcsOut M xs a).map (Value.int .i64)) ∧ Kp w1 wr)
      (fun i _ => len + 1 - (intOf i).toNat)
    case atStart => exact ⟨0, by omega, rfl, by simpa [arcsOut] using HO2.out, hk2⟩
    case round =>
      obtain ⟨a, ha, rfl, hown, hkp⟩ := hrel
      by_cases hlt : a < len
      · have LL := HL.out
        obtain ⟨b, off, u, rfl, hb, hu, hc⟩ := HR.out.cellOf (k := a) (by omega)
        have cx0 := hc a _ (get_map (by omega))
        rw [getD_of] at cx0
        have x0 := allB_iff.1 HA.out a (by omega)
        have LOW := arcsOut_low M xs a
        have AL := arcsOut_length M xs a
        have hmul : a * xs.length ≤ 8 * 8 := Nat.mul_le_mul (by omega) (by omega)
        obtain ⟨x, hx⟩ : ∃ x, x = xs.getD a 0 := ⟨_, rfl⟩
        obtain ⟨L, eL⟩ : ∃ L, L = arcsOut M xs a := ⟨_, rfl⟩
        rw [← hx] at cx0 x0
        rw [← eL] at hown LOW AL
        have HX := Lib.hid hx
        have EL := Lib.hid eL
        have HLOW := Lib.hid (LOW.more (C := 64) (by omega))
        have HAL := Lib.hid AL
        have HOW := Lib.hid hown
        clear hx eL hu hc LOW AL hown LL hmul
        have cx := (hk1.trans hkp).at1 cx0
        go_wp2
        obtain ⟨wo, rfl⟩ : ∃ wo : World, wo = wr := ⟨_, rfl⟩
        go_loopw [25] (fun j wr => ∃ k : Nat, k ≤ len ∧ j = .int .i64 k ∧ wr.ownsRow w1.heap.size 3 1 (.slice (some ⟨w1.heap.size, 0, none⟩) M M) M ((arcsIn M xs x a L k).map (Value.int .i64)) ∧ Kp w1 wr)
          (fun j _ => len + 1 - (intOf j).toNat)
        case atStart => exact ⟨0, by omega, rfl, HOW.out, hkp⟩
        case round =>
          obtain ⟨k, hk, rfl, hown, hkq⟩ := hrel
          by_cases hkl : k < len
          · have LL := HL.out
            obtain ⟨b', off', u', eA, hb', hu', hc'⟩ := (HR.out.kp (hk1.trans hkq)).cellOf (k := k) (by omega)
            cases eA
            have cy := hc' k _ (get_map (by omega))
            have cx := (hk1.trans hkq).at1 cx0
            rw [getD_of] at cy
            have y0 := allB_iff.1 HA.out k (by omega)
            have AS : arcsIn M xs x a L (k + 1) = if a = k then arcsIn M xs x a L k else addAt (arcsIn M xs x a L k) (arcD M x (xs.getD k 0)) := by rw [arcsIn]
            have LK := arcsIn_low (N := M) (xs := xs) (x := x) (i := a) HLOW.out k
            have KL := arcsIn_length M xs x a L k
            rw [HAL.out] at KL
            obtain ⟨y, hy⟩ : ∃ y, y = xs.getD k 0 := ⟨_, rfl⟩
            obtain ⟨K, eK⟩ : ∃ K, K = arcsIn M xs x a L k := ⟨_, rfl⟩
            rw [← hy] at cy y0 AS
            rw [← eK] at AS LK KL hown
            have HAS := Lib.hid AS
            clear hy eK hu' hc' AS LL
            by_cases hak : a = k
            · have hst : arcsIn M xs x a L (k + 1) = K := by rw [HAS.out, if_pos hak]
              have HST := Lib.hid hst
              have HO := Lib.hid hown
              clear hst HAS LK KL hown
              subst hak
              have t0 : ((a : Int) != (a : Int)) = false := by simp
              go_wp2
              go_roundw
              case rel => exact ⟨a + 1, by omega, by go_num, by rw [HST.out]; exact HO.out, hkq⟩
              case measure => simp [intOf]; omega
            · have hst : arcsIn M xs x a L (k + 1) = addAt K (arcD M x y) := by rw [HAS.out, if_neg hak]
              have hD := arcD_eq (N := M) (by omega) x y
              have hDl := arcD_lt (N := M) (by omega) x y
              have kd := LK (arcD M x y)
              obtain ⟨D, eD⟩ : ∃ D, D = arcD M x y := ⟨_, rfl⟩
              rw [← eD] at hst hD hDl kd
              have cg : wr.cell? ⟨w1.heap.size, D, none⟩ = some (.int .i64 (K.getD D 0)) := by
                rw [hown.cellAt D (by omega), get_map (by omega), getD_of]
              have fg := hown.frozenAt D
              have hsto := (hown.stored D (.int .i64 (K.getD D 0 + 1))).1
              rw [map_set] at hsto
              have HS := Lib.hid (show (wr.setCell ⟨w1.heap.size, D, none⟩ (.int .i64 (K.getD D 0 + 1))).ownsRow w1.heap.size 3 1 (.slice (some ⟨w1.heap.size, 0, none⟩) M M) M ((arcsIn M xs x a L (k + 1)).map (Value.int .i64)) by rw [hst]; exact hsto)
              obtain ⟨E, eE⟩ : ∃ E, E = K.getD D 0 := ⟨_, rfl⟩
              rw [← eE] at cg HS kd
              have t0 : ((a : Int) != (k : Int)) = true := by simp; omega
              have t1 : ((k : Int) != (a : Int)) = true := by simp; omega
              have hD2 : (y - x + (M : Int)) % (M : Int) = (D : Int) := by rw [Int.add_emod_right]; exact hD
              have hDi : (D : Int) < (M : Int) := by omega
              have hk8 : (k : Int) ≤ 8 := by omega
              clear eE eD hst hsto hown HAS LK KL hak
              go_wp2
              go_roundw
              case rel => exact ⟨k + 1, by omega, by go_num, HS.out, by (repeat (with_reducible first | exact Kp.refl _ | assumption | refine Kp.drew ?_ | refine Kp.drewN ?_ _ | refine Kp.alloc ?_ _ | refine Kp.setCell ?_ (by first | (simp; done) | (simp; omega) | (dsimp only; omega)) _ | refine Kp.trans ?_ (by assumption)))⟩
              case measure => simp [intOf]; omega
          · obtain rfl : k = len := by omega
            have ho : wr.ownsRow w1.heap.size 3 1 (.slice (some ⟨w1.heap.size, 0, none⟩) M M) M ((arcsOut M xs (a + 1)).map (Value.int .i64)) := by
              rw [arcsOut, ← HX.out, ← EL.out, HL.out]
              exact hown
            have HO := Lib.hid ho
            clear hown ho HOW
            go_wp2
            go_roundw
            case rel => exact ⟨a + 1, by omega, by go_num, HO.out, hkq⟩
            case measure => simp [intOf]; omega
      · obtain rfl : a = len := by omega
        have HO := Lib.hid hown
        clear hown
        go_wp2
        go_ret
        refine ⟨_, rfl, ?_, hk1.trans hkp⟩
        unfold OwI
        rw [HE.out, arcsOut_length, HL.out]
        have := HO.out
        refine ⟨this.1, ?_⟩
        rcases this.2 with h | ⟨g, cap, cur, e, hb, r⟩
        · exact .inl h
        · exact .inr ⟨g, cap, cur, e, Nat.le_trans hk1.size hb, r⟩
  · have e : arcs N xs = [] := by rw [arcs, if_neg hcb]
    rw [e]
    clear e
    go_enter Try.func15, Try.ntmps15
    go_wp2_with (go_at_call 12; refine (iCircleOk_any _ _ _ xs _ _ hl hn HR.out).mono ?_; rintro e w1 ⟨rfl, hm⟩; have hk1 := Kp.of_drewN hm; clear hm)
    go_ret
    exact ⟨_, rfl, World.ownsRow_nil _ _ _ _, hk1⟩
set_option maxHeartbeats 1600000 in
theorem sArcsOf_any (A : Option Addr) (len c : Nat) (xs : List Int) (N : Int) (w : World) (hl : xs.length = len) (hn : len ≤ 1048576) (hr : Reads w w.heap.size 1 A len (xs.map (.int .i64))) :
    Calls Try.prog 14 #[.int .i64 N, .slice A len c] w fun e w' => ∃ v, e = .returned v ∧ OwI w.heap.size w' v (arcs N xs) ∧ Kp w w' := by
  have HR := Lib.hid hr
  clear hr
  by_cases hcb : circB N xs = true
  · obtain ⟨b1, b2, hs, ha⟩ := circB_bd hcb
    obtain ⟨M, rfl⟩ : ∃ M : Nat, N = (M : Int) := ⟨N.toNat, by omega⟩
    have e : arcs (M : Int) xs = arcsOut M xs xs.length := by rw [arcs, if_pos hcb, Int.toNat_natCast]
    have HE := Lib.hid e
    have HA := Lib.hid ha
    rw [hl] at b2
    have HL := Lib.hid hl
    clear e ha hs hl
    obtain ⟨i0, hi, hz0, hz1, hz2⟩ := info_parts int_info
    go_enter Try.func14, Try.ntmps14
    go_wp2_with (first | (go_at_call 10; refine (sCircleOk_any _ _ _ xs _ _ HL.out hn HR.out).mono ?_; rintro e w1 ⟨rfl, hm⟩; have hk1 := Kp.of_drewN hm; clear hm) | (at_make; refine wpList_make_full _ rfl _ _ 22 rfl w1.heap.size 3 i0 (.int .i64 0) 1 Try.underlying22 hi hz0 hz1 .i64 .i64 _ _ M rfl rfl rfl rfl (by rw [hz2]; omega) (by unfold maxLen; omega) (Nat.le_refl _) ?_; intro w2 hown2 hgrow2; have hk2 := (Kp.refl w1).grown hgrow2 (by simp); rw [show (Value.int .i64 0).cells = #[.int .i64 0] from rfl, toList_madeCells_one, Nat.mul_one] at hown2; have HO2 := Lib.hid hown2; clear hgrow2 hown2))
    clear hcb
    go_loopw [6] (fun i wr => ∃ a : Nat, a ≤ len ∧ i = .int .i64 a ∧ wr.ownsRow w1.heap.size 3 1 (.slice (some ⟨w1.heap.size, 0, none⟩) M M) M ((arcsOut M xs a).map (Value.int .i64)) ∧ Kp w1 wr)
      (fun i _ => len + 1 - (intOf i).toNat)
    case atStart => exact ⟨0, by omega, rfl, by simpa [arcsOut] using HO2.out, hk2⟩
    case round =>
      obtain ⟨a, ha, rfl, hown, hkp⟩ := hrel
      by_cases hlt : a < len
      · have LL := HL.out
        obtain ⟨b, off, u, rfl, hb, hu, hc⟩ := HR.out.cellOf (k := a) (by omega)
        have cx0 := hc a _ (get_map (by omega))
        rw [getD_of] at cx0
        have x0 := allB_iff.1 HA.out a (by omega)
        have LOW := arcsOut_low M xs a
        have AL := arcsOut_length M xs a
        have hmul : a * xs.length ≤ 8 * 8 := Nat.mul_le_mul (by omega) (by omega)
        obtain ⟨x, hx⟩ : ∃ x, x = xs.getD a 0 := ⟨_, rfl⟩
        obtain ⟨L, eL⟩ : ∃ L, L = arcsOut M xs a := ⟨_, rfl⟩
        rw [← hx] at cx0 x0
        rw [← eL] at hown LOW AL
        have HX := Lib.hid hx
        have EL := Lib.hid eL
        have HLOW := Lib.hid (LOW.more (C := 64) (by omega))
        have HAL := Lib.hid AL
        have HOW := Lib.hid hown
        clear hx eL hu hc LOW AL hown LL hmul
        have cx := (hk1.trans hkp).at1 cx0
        go_wp2
        obtain ⟨wo, rfl⟩ : ∃ wo : World, wo = wr := ⟨_, rfl⟩
        go_loopw [7] (fun j wr => ∃ k : Nat, k ≤ len ∧ j = .int .i64 k ∧ wr.ownsRow w1.heap.size 3 1 (.slice (some ⟨w1.heap.size, 0, none⟩) M M) M ((arcsIn M xs x a L k).map (Value.int .i64)) ∧ Kp w1 wr)
          (fun j _ => len + 1 - (intOf j).toNat)
        case atStart => exact ⟨0, by omega, rfl, HOW.out, hkp⟩
        case round =>
          obtain ⟨k, hk, rfl, hown, hkq⟩ := hrel
          by_cases hkl : k < len
          · have LL := HL.out
            obtain ⟨b', off', u', eA, hb', hu', hc'⟩ := (HR.out.kp (hk1.trans hkq)).cellOf (k := k) (by omega)
            cases eA
            have cy := hc' k _ (get_map (by omega))
            have cx := (hk1.trans hkq).at1 cx0
            rw [getD_of] at cy
            have y0 := allB_iff.1 HA.out k (by omega)
            have AS : arcsIn M xs x a L (k + 1) = if a = k then arcsIn M xs x a L k else addAt (arcsIn M xs x a L k) (arcD M x (xs.getD k 0)) := by rw [arcsIn]
            have LK := arcsIn_low (N := M) (xs := xs) (x := x) (i := a) HLOW.out k
            have KL := arcsIn_length M xs x a L k
            rw [HAL.out] at KL
            obtain ⟨y, hy⟩ : ∃ y, y = xs.getD k 0 := ⟨_, rfl⟩
            obtain ⟨K, eK⟩ : ∃ K, K = arcsIn M xs x a L k := ⟨_, rfl⟩
            rw [← hy] at cy y0 AS
            rw [← eK] at AS LK KL hown
            have HAS := Lib.hid AS
            clear hy eK hu' hc' AS LL
            by_cases hak : a = k
            · have hst : arcsIn M xs x a L (k + 1) = K := by rw [HAS.out, if_pos hak]
              have HST := Lib.hid hst
              have HO := Lib.hid hown
              clear hst HAS LK KL hown
              subst hak
              have t0 : ((a : Int) != (a : Int)) = false := by simp
              go_wp2
              go_roundw
              case rel => exact ⟨a + 1, by omega, by go_num, by rw [HST.out]; exact HO.out, hkq⟩
              case measure => simp [intOf]; omega
            · have hst : arcsIn M xs x a L (k + 1) = addAt K (arcD M x y) := by rw [HAS.out, if_neg hak]
              have hD := arcD_eq (N := M) (by omega) x y
              have hDl := arcD_lt (N := M) (by omega) x y
              have kd := LK (arcD M x y)
              obtain ⟨D, eD⟩ : ∃ D, D = arcD M x y := ⟨_, rfl⟩
              rw [← eD] at hst hD hDl kd
              have cg : wr.cell? ⟨w1.heap.size, D, none⟩ = some (.int .i64 (K.getD D 0)) := by
                rw [hown.cellAt D (by omega), get_map (by omega), getD_of]
              have fg := hown.frozenAt D
              have hsto := (hown.stored D (.int .i64 (K.getD D 0 + 1))).1
              rw [map_set] at hsto
              have HS := Lib.hid (show (wr.setCell ⟨w1.heap.size, D, none⟩ (.int .i64 (K.getD D 0 + 1))).ownsRow w1.heap.size 3 1 (.slice (some ⟨w1.heap.size, 0, none⟩) M M) M ((arcsIn M xs x a L (k + 1)).map (Value.int .i64)) by rw [hst]; exact hsto)
              obtain ⟨E, eE⟩ : ∃ E, E = K.getD D 0 := ⟨_, rfl⟩
              rw [← eE] at cg HS kd
              have t0 : ((a : Int) != (k : Int)) = true := by simp; omega
              have t1 : ((k : Int) != (a : Int)) = true := by simp; omega
              have hD2 : (y - x + (M : Int)) % (M : Int) = (D : Int) := by rw [Int.add_emod_right]; exact hD
              have hDi : (D : Int) < (M : Int) := by omega
              have hk8 : (k : Int) ≤ 8 := by omega
              clear eE eD hst hsto hown HAS LK KL hak
              go_upto_region 11 with fail
              have q1 : IntKind.i64.wrap (y - x) = y - x := IntWalk.i64_in _ (by omega)
              have q2 : IntKind.i64.wrap (y - x + (M : Int)) = y - x + (M : Int) := IntWalk.i64_in _ (by omega)
              have q3 : (y - x + (M : Int)).tmod (M : Int) = (D : Int) := by rw [Int.tmod_eq_emod_of_nonneg (by omega)]; exact hD2
              have q4 : ((M : Int) == 0) = false := by simp; omega
              go_quiet (fail)
              clear q1 q2 q3
              go_wp2
              go_roundw
              case rel => exact ⟨k + 1, by omega, by go_num, HS.out, by (repeat (with_reducible first | exact Kp.refl _ | assumption | refine Kp.drew ?_ | refine Kp.drewN ?_ _ | refine Kp.alloc ?_ _ | refine Kp.setCell ?_ (by first | (simp; done) | (simp; omega) | (dsimp only; omega)) _ | refine Kp.trans ?_ (by assumption)))⟩
              case measure => simp [intOf]; omega
          · obtain rfl : k = len := by omega
            have ho : wr.ownsRow w1.heap.size 3 1 (.slice (some ⟨w1.heap.size, 0, none⟩) M M) M ((arcsOut M xs (a + 1)).map (Value.int .i64)) := by
              rw [arcsOut, ← HX.out, ← EL.out, HL.out]
              exact hown
            have HO := Lib.hid ho
            clear hown ho HOW
            go_wp2
            go_roundw
            case rel => exact ⟨a + 1, by omega, by go_num, HO.out, hkq⟩
            case measure => simp [intOf]; omega
      · obtain rfl : a = len := by omega
        have HO := Lib.hid hown
        clear hown
        go_wp2
        go_ret
        refine ⟨_, rfl, ?_, hk1.trans hkp⟩
        unfold OwI
        rw [HE.out, arcsOut_length, HL.out]
        have := HO.out
        refine ⟨this.1, ?_⟩
        rcases this.2 with h | ⟨g, cap, cur, e, hb, r⟩
        · exact .inl h
        · exact .inr ⟨g, cap, cur, e, Nat.le_trans hk1.size hb, r⟩
  · have e : arcs N xs = [] := by rw [arcs, if_neg hcb]
    rw [e]
    clear e
    go_enter Try.func14, Try.ntmps14
    go_wp2_with (go_at_call 10; refine (sCircleOk_any _ _ _ xs _ _ hl hn HR.out).mono ?_; rintro e w1 ⟨rfl, hm⟩; have hk1 := Kp.of_drewN hm; clear hm)
    go_ret
    exact ⟨_, rfl, owi_lit _ _ hk1.size, hk1.alloc _⟩
theorem arcs_len (N : Int) (xs : List Int) : (arcs N xs).length ≤ 60 := by
  unfold arcs
  split
  · rename_i h; rw [arcsOut_length]; have := (circB_bd h).1; omega
  · simp
end Go.Proofs.Ytoobpkcnmgjccaa
