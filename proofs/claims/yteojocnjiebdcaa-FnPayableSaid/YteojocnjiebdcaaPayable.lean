/- The table of payable amounts: the plain words, and the contracts of payable and l09Payable. -/
import Derived.Test.YteojocnjiebdcaaPayMore
set_option linter.unusedVariables false
namespace Go.Proofs.Yteojocnjiebdcaa
open Go.RowKit

/-- Is the next amount payable, if the amounts before it are as the table says? -/
def pyRow (xs : List Int) (t : List Bool) : Bool := xs.any fun c => decide (c ≤ (t.length : Int)) && t.getD (t.length - c.toNat) false
/-- The table of the amounts up to n. -/
def payT (xs : List Int) : Nat → List Bool
  | 0 => [true]
  | n + 1 => payT xs n ++ [pyRow xs (payT xs n)]
theorem payT_length (xs : List Int) (n : Nat) : (payT xs n).length = n + 1 := by
  induction n with
  | zero => rfl
  | succ n ih => simp [payT, ih]
theorem pyRow_succ {xs : List Int} {k : Nat} (hk : k < xs.length) (t : List Bool) :
    pyRow (xs.take (k + 1)) t = (pyRow (xs.take k) t || (decide (xs.getD k 0 ≤ (t.length : Int)) && t.getD (t.length - (xs.getD k 0).toNat) false)) := by
  rw [← getD_of hk, List.take_succ_eq_append_getElem hk, pyRow, List.any_append]
  simp [pyRow]
theorem bool_info : (Try.prog.info? 4).map (fun i => (i.zero, i.size, i.bytes)) = some (some (.bool false), 1, 1) := by kernel_rfl
def OwB (B : Nat) (w : World) (v : Value) (bs : List Bool) : Prop := w.ownsRow B 4 1 v bs.length (bs.map Value.bool)
theorem row_set (T : List Bool) (a : Nat) (p q : Bool) (R : List Bool) (h : T.length = a) : ((T ++ p :: R).map Value.bool).set a (.bool q) = (T ++ q :: R).map Value.bool := by
  rw [← List.map_set, List.set_append_right _ _ (by omega), h, Nat.sub_self, List.set_cons_zero]
theorem row_at (T : List Bool) (a : Nat) (p : Bool) (R : List Bool) (h : T.length = a) : ((T ++ p :: R).map Value.bool)[a]? = some (.bool p) := by
  rw [List.getElem?_map, List.getElem?_append_right (by omega), h, Nat.sub_self]; rfl
theorem row_low (T : List Bool) (j : Nat) (R : List Bool) (h : j < T.length) : ((T ++ R).map Value.bool)[j]? = some (.bool (T.getD j false)) := by
  rw [List.getElem?_map, List.getElem?_append_left h, List.getD_eq_getElem?_getD, List.getElem?_eq_getElem h]; rfl
set_option maxHeartbeats 1600000 in
theorem iPayable_any (A : Option Addr) (len c : Nat) (xs : List Int) (n : Nat) (w : World) (hl : xs.length = len) (hn : len ≤ 1048576) (hp : allB 2 20 xs = true) (h1000 : n ≤ 1000) (hr : Reads w w.heap.size 1 A len (xs.map (.int .i64))) :
    Calls Try.prog 31 #[.slice A len c, .int .i64 (n : Int)] w fun e w' => ∃ v, e = .returned v ∧ OwB w.heap.size w' v (payT xs n) ∧ Kp w w' := by
  have HR := Lib.hid hr
  have HP := Lib.hid hp
  have HL := Lib.hid hl
  clear hr hp hl
  obtain ⟨i0, hi, hz0, hz1, hz2⟩ := info_parts bool_info
  go_enter Try.func31, Try.ntmps31
  go_wp2_with (at_make; refine wpList_make_full _ rfl _ _ 33 rfl w.heap.size 4 i0 (.bool false) 1 Try.underlying33 hi hz0 hz1 .i64 .i64 _ _ (n + 1) rfl rfl (by omega) (by omega) (by rw [hz2]; omega) (by unfold maxLen; omega) (Nat.le_refl _) ?_; intro w1 hown1 hgrow1; have hk1 := (Kp.refl w).grown hgrow1 (by simp); rw [show (Value.bool false).cells = #[.bool false] from rfl, toList_madeCells_one] at hown1; have cg0 : w1.cell? ⟨w.heap.size, 0, none⟩ = some (.bool false) := (by rw [hown1.cellAt 0 (by omega)]; simp); have fg0 := hown1.frozenAt 0; have ho0 := hown1.stored 0 (.bool true); have HO0 := Lib.hid ho0; clear ho0 hown1 hgrow1)
  have hst : ((w1.setCell ⟨w.heap.size, 0, none⟩ (.bool true))).ownsRow w.heap.size 4 1 (.slice (some ⟨w.heap.size, 0, none⟩) (n + 1) (n + 1)) (n + 1) ((payT xs 0 ++ List.replicate (n - 0) false).map Value.bool) := by
    have := HO0.out.1
    rw [Nat.mul_one, List.replicate_succ, List.set_cons_zero] at this
    simpa [payT] using this
  have HST := Lib.hid hst
  clear hst HO0 cg0 fg0
  go_loopw [6] (fun i wr => ∃ a : Nat, a ≤ n ∧ i = .int .i64 ((a : Int) + 1) ∧ wr.ownsRow w.heap.size 4 1 (.slice (some ⟨w.heap.size, 0, none⟩) (n + 1) (n + 1)) (n + 1) ((payT xs a ++ List.replicate (n - a) false).map Value.bool) ∧ Kp w wr)
    (fun i _ => n + 1 - (intOf i).toNat)
  case atStart => exact ⟨0, by omega, rfl, HST.out, hk1.setCell (by simp) _⟩
  case round =>
    obtain ⟨a, ha, rfl, hown, hkp⟩ := hrel
    by_cases hlt : a < n
    · have HT := payT_length xs a
      obtain ⟨T, eT⟩ : ∃ T, T = payT xs a := ⟨_, rfl⟩
      rw [← eT] at hown HT
      have hown' : wr.ownsRow w.heap.size 4 1 (.slice (some ⟨w.heap.size, 0, none⟩) (n + 1) (n + 1)) (n + 1) ((T ++ pyRow (xs.take 0) T :: List.replicate (n - (a + 1)) false).map Value.bool) := by
        rw [show n - a = (n - (a + 1)) + 1 by omega, List.replicate_succ] at hown
        simpa [pyRow] using hown
      have HOW := Lib.hid hown'
      have ET := Lib.hid eT
      have HTL := Lib.hid HT
      have i1 : (a : Int) + 1 ≤ (n : Int) := by omega
      clear hown hown' eT HT
      go_wp2
      obtain ⟨wo, rfl⟩ : ∃ wo : World, wo = wr := ⟨_, rfl⟩
      go_loopw [21] (fun i wr => ∃ k : Nat, k ≤ len ∧ i = .int .i64 k ∧ wr.ownsRow w.heap.size 4 1 (.slice (some ⟨w.heap.size, 0, none⟩) (n + 1) (n + 1)) (n + 1) ((T ++ pyRow (xs.take k) T :: List.replicate (n - (a + 1)) false).map Value.bool) ∧ Kp w wr)
        (fun i _ => len - (intOf i).toNat)
      case atStart => exact ⟨0, by omega, rfl, HOW.out, hkp⟩
      case round =>
        obtain ⟨k, hk, rfl, hown, hkq⟩ := hrel
        by_cases hkl : k < len
        · have TL := HTL.out
          have LL := HL.out
          obtain ⟨b, off, u, rfl, hb, hu, hc⟩ := (HR.out.kp hkq).cellOf (k := k) (by omega)
          have cx := hc k _ (get_map (by omega))
          rw [getD_of] at cx
          have x0 := allB_iff.1 HP.out k (by omega)
          have PS := pyRow_succ (xs := xs) (k := k) (by omega) T
          rw [TL] at PS
          obtain ⟨x, hx⟩ : ∃ x, x = xs.getD k 0 := ⟨_, rfl⟩
          obtain ⟨p, hp⟩ : ∃ p, p = pyRow (xs.take k) T := ⟨_, rfl⟩
          rw [← hx] at cx x0 PS
          rw [← hp] at hown PS
          have cg : wr.cell? ⟨w.heap.size, a + 1, none⟩ = some (.bool p) := by
            rw [hown.cellAt (a + 1) (by omega)]; exact row_at _ _ _ _ TL
          have fg := hown.frozenAt (a + 1)
          have hst : ∀ q, (wr.setCell ⟨w.heap.size, a + 1, none⟩ (.bool q)).ownsRow w.heap.size 4 1 (.slice (some ⟨w.heap.size, 0, none⟩) (n + 1) (n + 1)) (n + 1) ((T ++ q :: List.replicate (n - (a + 1)) false).map Value.bool) := fun q => by
            have := (hown.stored (a + 1) (.bool q)).1
            rwa [row_set _ _ _ _ _ TL] at this
          have HS := Lib.hid hst
          obtain ⟨X, hX⟩ : ∃ X : Nat, (X : Int) = x := ⟨x.toNat, by omega⟩
          have hlow : X ≤ a + 1 → wr.cell? ⟨w.heap.size, a + 1 - X, none⟩ = some (.bool (T.getD (a + 1 - X) false)) := fun h => by
            rw [hown.cellAt (a + 1 - X) (by omega)]; exact row_low _ _ _ (by omega)
          have HPS : Hid (pyRow (xs.take (k + 1)) T = (p || (decide ((X : Int) ≤ ((a + 1 : Nat) : Int)) && T.getD (a + 1 - X) false))) := by
            rw [hX]
            rw [show (a + 1 - X) = a + 1 - x.toNat by omega]
            exact PS
          subst hX
          have HLOW := Lib.hid hlow
          clear hst hown hu hc hx hp PS hlow TL LL
          cases p with
          | true =>
            go_wp2
            go_roundw
            case rel => exact ⟨k + 1, by omega, by go_num, by rw [HPS.out]; exact HS.out true, hkq.setCell (by simp) _⟩
            case measure => simp [intOf]; omega
          | false =>
            by_cases hxa : X ≤ a + 1
            · have cl := HLOW.out hxa
              obtain ⟨d, hd⟩ : ∃ d, d = T.getD (a + 1 - X) false := ⟨_, rfl⟩
              rw [← hd] at cl
              have HD := Lib.hid hd
              have t1 : (X : Int) ≤ (a : Int) + 1 := by omega
              have t2 : ((a : Int) + 1 - (X : Int)).toNat = a + 1 - X := by omega
              clear hd HLOW
              go_wp2
              go_roundw
              case rel =>
                refine ⟨k + 1, by omega, by go_num, ?_, hkq.setCell (by simp) _⟩
                rw [HPS.out, ← HD.out, show decide ((X : Int) ≤ ((a + 1 : Nat) : Int)) = true by simp; omega, Bool.true_and, Bool.false_or]
                exact HS.out d
              case measure => simp [intOf]; omega
            · have t1 : (a : Int) + 1 < (X : Int) := by omega
              clear HLOW
              go_wp2
              go_roundw
              case rel =>
                refine ⟨k + 1, by omega, by go_num, ?_, hkq.setCell (by simp) _⟩
                rw [HPS.out, show decide ((X : Int) ≤ ((a + 1 : Nat) : Int)) = false by simp; omega, Bool.false_and, Bool.false_or]
                exact HS.out false
              case measure => simp [intOf]; omega
        · obtain rfl : k = len := by omega
          have ho : wr.ownsRow w.heap.size 4 1 (.slice (some ⟨w.heap.size, 0, none⟩) (n + 1) (n + 1)) (n + 1) ((payT xs (a + 1) ++ List.replicate (n - (a + 1)) false).map Value.bool) := by
            rw [List.take_of_length_le (by rw [HL.out]; omega)] at hown
            rw [payT, ← ET.out, List.append_assoc]
            exact hown
          have HO := Lib.hid ho
          clear hown ho HOW
          go_wp2
          go_roundw
          case rel => exact ⟨a + 1, by omega, by go_num, HO.out, hkq⟩
          case measure => simp [intOf]; omega
    · obtain rfl : a = n := by omega
      have HO := Lib.hid hown
      clear hown
      go_wp2
      go_ret
      refine ⟨_, rfl, ?_, hkp⟩
      unfold OwB
      rw [payT_length]
      simpa using HO.out
set_option maxHeartbeats 1600000 in
theorem sPayable_any (A : Option Addr) (len c : Nat) (xs : List Int) (n : Nat) (w : World) (hl : xs.length = len) (hn : len ≤ 1048576) (hp : allB 2 20 xs = true) (h1000 : n ≤ 1000) (hr : Reads w w.heap.size 1 A len (xs.map (.int .i64))) :
    Calls Try.prog 30 #[.slice A len c, .int .i64 (n : Int)] w fun e w' => ∃ v, e = .returned v ∧ OwB w.heap.size w' v (payT xs n) ∧ Kp w w' := by
  have HR := Lib.hid hr
  have HP := Lib.hid hp
  have HL := Lib.hid hl
  clear hr hp hl
  obtain ⟨i0, hi, hz0, hz1, hz2⟩ := info_parts bool_info
  go_enter Try.func30, Try.ntmps30
  go_wp2_with (at_make; refine wpList_make_full _ rfl _ _ 33 rfl w.heap.size 4 i0 (.bool false) 1 Try.underlying33 hi hz0 hz1 .i64 .i64 _ _ (n + 1) rfl rfl (by omega) (by omega) (by rw [hz2]; omega) (by unfold maxLen; omega) (Nat.le_refl _) ?_; intro w1 hown1 hgrow1; have hk1 := (Kp.refl w).grown hgrow1 (by simp); rw [show (Value.bool false).cells = #[.bool false] from rfl, toList_madeCells_one] at hown1; have cg0 : w1.cell? ⟨w.heap.size, 0, none⟩ = some (.bool false) := (by rw [hown1.cellAt 0 (by omega)]; simp); have fg0 := hown1.frozenAt 0; have ho0 := hown1.stored 0 (.bool true); have HO0 := Lib.hid ho0; clear ho0 hown1 hgrow1)
  have hst : ((w1.setCell ⟨w.heap.size, 0, none⟩ (.bool true))).ownsRow w.heap.size 4 1 (.slice (some ⟨w.heap.size, 0, none⟩) (n + 1) (n + 1)) (n + 1) ((payT xs 0 ++ List.replicate (n - 0) false).map Value.bool) := by
    have := HO0.out.1
    rw [Nat.mul_one, List.replicate_succ, List.set_cons_zero] at this
    simpa [payT] using this
  have HST := Lib.hid hst
  clear hst HO0 cg0 fg0
  go_loopw [6] (fun i wr => ∃ a : Nat, a ≤ n ∧ i = .int .i64 ((a : Int) + 1) ∧ wr.ownsRow w.heap.size 4 1 (.slice (some ⟨w.heap.size, 0, none⟩) (n + 1) (n + 1)) (n + 1) ((payT xs a ++ List.replicate (n - a) false).map Value.bool) ∧ Kp w wr)
    (fun i _ => n + 1 - (intOf i).toNat)
  case atStart => exact ⟨0, by omega, rfl, HST.out, hk1.setCell (by simp) _⟩
  case round =>
    obtain ⟨a, ha, rfl, hown, hkp⟩ := hrel
    by_cases hlt : a < n
    · have HT := payT_length xs a
      obtain ⟨T, eT⟩ : ∃ T, T = payT xs a := ⟨_, rfl⟩
      rw [← eT] at hown HT
      have hown' : wr.ownsRow w.heap.size 4 1 (.slice (some ⟨w.heap.size, 0, none⟩) (n + 1) (n + 1)) (n + 1) ((T ++ pyRow (xs.take 0) T :: List.replicate (n - (a + 1)) false).map Value.bool) := by
        rw [show n - a = (n - (a + 1)) + 1 by omega, List.replicate_succ] at hown
        simpa [pyRow] using hown
      have HOW := Lib.hid hown'
      have ET := Lib.hid eT
      have HTL := Lib.hid HT
      have i1 : (a : Int) + 1 ≤ (n : Int) := by omega
      clear hown hown' eT HT
      go_wp2
      obtain ⟨wo, rfl⟩ : ∃ wo : World, wo = wr := ⟨_, rfl⟩
      go_loopw [7] (fun i wr => ∃ k : Nat, k ≤ len ∧ i = .int .i64 k ∧ wr.ownsRow w.heap.size 4 1 (.slice (some ⟨w.heap.size, 0, none⟩) (n + 1) (n + 1)) (n + 1) ((T ++ pyRow (xs.take k) T :: List.replicate (n - (a + 1)) false).map Value.bool) ∧ Kp w wr)
        (fun i _ => len - (intOf i).toNat)
      case atStart => exact ⟨0, by omega, rfl, HOW.out, hkp⟩
      case round =>
        obtain ⟨k, hk, rfl, hown, hkq⟩ := hrel
        by_cases hkl : k < len
        · have TL := HTL.out
          have LL := HL.out
          obtain ⟨b, off, u, rfl, hb, hu, hc⟩ := (HR.out.kp hkq).cellOf (k := k) (by omega)
          have cx := hc k _ (get_map (by omega))
          rw [getD_of] at cx
          have x0 := allB_iff.1 HP.out k (by omega)
          have PS := pyRow_succ (xs := xs) (k := k) (by omega) T
          rw [TL] at PS
          obtain ⟨x, hx⟩ : ∃ x, x = xs.getD k 0 := ⟨_, rfl⟩
          obtain ⟨p, hp⟩ : ∃ p, p = pyRow (xs.take k) T := ⟨_, rfl⟩
          rw [← hx] at cx x0 PS
          rw [← hp] at hown PS
          have cg : wr.cell? ⟨w.heap.size, a + 1, none⟩ = some (.bool p) := by
            rw [hown.cellAt (a + 1) (by omega)]; exact row_at _ _ _ _ TL
          have fg := hown.frozenAt (a + 1)
          have hst : ∀ q, (wr.setCell ⟨w.heap.size, a + 1, none⟩ (.bool q)).ownsRow w.heap.size 4 1 (.slice (some ⟨w.heap.size, 0, none⟩) (n + 1) (n + 1)) (n + 1) ((T ++ q :: List.replicate (n - (a + 1)) false).map Value.bool) := fun q => by
            have := (hown.stored (a + 1) (.bool q)).1
            rwa [row_set _ _ _ _ _ TL] at this
          have HS := Lib.hid hst
          obtain ⟨X, hX⟩ : ∃ X : Nat, (X : Int) = x := ⟨x.toNat, by omega⟩
          have hlow : X ≤ a + 1 → wr.cell? ⟨w.heap.size, a + 1 - X, none⟩ = some (.bool (T.getD (a + 1 - X) false)) := fun h => by
            rw [hown.cellAt (a + 1 - X) (by omega)]; exact row_low _ _ _ (by omega)
          have HPS : Hid (pyRow (xs.take (k + 1)) T = (p || (decide ((X : Int) ≤ ((a + 1 : Nat) : Int)) && T.getD (a + 1 - X) false))) := by
            rw [hX]
            rw [show (a + 1 - X) = a + 1 - x.toNat by omega]
            exact PS
          subst hX
          have HLOW := Lib.hid hlow
          clear hst hown hu hc hx hp PS hlow TL LL
          cases p with
          | true =>
            go_wp2
            go_roundw
            case rel => exact ⟨k + 1, by omega, by go_num, by rw [HPS.out]; exact HS.out true, hkq.setCell (by simp) _⟩
            case measure => simp [intOf]; omega
          | false =>
            by_cases hxa : X ≤ a + 1
            · have cl := HLOW.out hxa
              obtain ⟨d, hd⟩ : ∃ d, d = T.getD (a + 1 - X) false := ⟨_, rfl⟩
              rw [← hd] at cl
              have HD := Lib.hid hd
              have t1 : (X : Int) ≤ (a : Int) + 1 := by omega
              have t2 : ((a : Int) + 1 - (X : Int)).toNat = a + 1 - X := by omega
              clear hd HLOW
              go_wp2
              go_roundw
              case rel =>
                refine ⟨k + 1, by omega, by go_num, ?_, hkq.setCell (by simp) _⟩
                rw [HPS.out, ← HD.out, show decide ((X : Int) ≤ ((a + 1 : Nat) : Int)) = true by simp; omega, Bool.true_and, Bool.false_or]
                exact HS.out d
              case measure => simp [intOf]; omega
            · have t1 : (a : Int) + 1 < (X : Int) := by omega
              clear HLOW
              go_wp2
              go_roundw
              case rel =>
                refine ⟨k + 1, by omega, by go_num, ?_, hkq.setCell (by simp) _⟩
                rw [HPS.out, show decide ((X : Int) ≤ ((a + 1 : Nat) : Int)) = false by simp; omega, Bool.false_and, Bool.false_or]
                exact HS.out false
              case measure => simp [intOf]; omega
        · obtain rfl : k = len := by omega
          have ho : wr.ownsRow w.heap.size 4 1 (.slice (some ⟨w.heap.size, 0, none⟩) (n + 1) (n + 1)) (n + 1) ((payT xs (a + 1) ++ List.replicate (n - (a + 1)) false).map Value.bool) := by
            rw [List.take_of_length_le (by rw [HL.out]; omega)] at hown
            rw [payT, ← ET.out, List.append_assoc]
            exact hown
          have HO := Lib.hid ho
          clear hown ho HOW
          go_wp2
          go_roundw
          case rel => exact ⟨a + 1, by omega, by go_num, HO.out, hkq⟩
          case measure => simp [intOf]; omega
    · obtain rfl : a = n := by omega
      have HO := Lib.hid hown
      clear hown
      go_wp2
      go_ret
      refine ⟨_, rfl, ?_, hkp⟩
      unfold OwB
      rw [payT_length]
      simpa using HO.out
end Go.Proofs.Yteojocnjiebdcaa
