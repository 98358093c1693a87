/- MobileOk: the plain word and the contracts. -/
import Derived.Test.YtajdppfngnpklaaParts
import Derived.RegionTactic
set_option linter.unusedVariables false
namespace Go.Proofs.Ytajdppfngnpklaa
open Go.RowKit

def leafB (p : Pt) : Bool := (p.r == -1) && (p.p == 0) && (p.q == 0) && inB p.x 1 1000
def armB (n k : Nat) (p : Pt) : Bool := inB p.l ((k : Int) + 1) ((n : Int) - 1) && inB p.r ((k : Int) + 1) ((n : Int) - 1) && inB p.p 1 20 && inB p.q 1 20 && (p.x == 0)
def partB (n k : Nat) (p : Pt) : Bool := if p.l = -1 then leafB p else armB n k p
def bump (L : List Int) (j : Nat) : List Int := L.set j (L.getD j 0 + 1)
def cntL (xs : List Pt) (n : Nat) : Nat → List Int
  | 0 => List.replicate n 0
  | k + 1 => if (pt xs k).l = -1 then cntL xs n k else bump (bump (cntL xs n k) (pt xs k).l.toNat) (pt xs k).r.toNat
def onesB (L : List Int) (n : Nat) : Bool := (List.range (n - 1)).all fun j => L.getD (1 + j) 0 == 1
def mobB (xs : List Pt) : Bool := inB xs.length 1 15 && ((List.range xs.length).all fun k => partB xs.length k (pt xs k)) && onesB (cntL xs xs.length xs.length) xs.length
theorem bump_length (L : List Int) (j : Nat) : (bump L j).length = L.length := by simp [bump]
theorem cntL_length (xs : List Pt) (n k : Nat) : (cntL xs n k).length = n := by
  induction k with
  | zero => simp [cntL]
  | succ k ih => rw [cntL]; split <;> simp [bump_length, ih]
theorem bump_getD (L : List Int) (i j : Nat) : (bump L i).getD j 0 = if i = j ∧ i < L.length then L.getD i 0 + 1 else L.getD j 0 := by
  rw [bump, List.getD_eq_getElem?_getD, List.getElem?_set]
  by_cases e : i = j
  · subst e
    by_cases h : i < L.length
    · simp [h]
    · simp [h]
  · simp [e]
theorem bump_bd {L : List Int} {B : Int} (h : ∀ j, 0 ≤ L.getD j 0 ∧ L.getD j 0 ≤ B) (i : Nat) : ∀ j, 0 ≤ (bump L i).getD j 0 ∧ (bump L i).getD j 0 ≤ B + 1 := by
  intro j
  have h1 := h j
  have h2 := h i
  rw [bump_getD]
  split <;> omega
theorem cntL_bd (xs : List Pt) (n k : Nat) : ∀ j, 0 ≤ (cntL xs n k).getD j 0 ∧ (cntL xs n k).getD j 0 ≤ 2 * (k : Int) := by
  induction k with
  | zero =>
    intro j
    rw [cntL, List.getD_eq_getElem?_getD, List.getElem?_replicate]
    split <;> simp
  | succ k ih =>
    intro j
    rw [cntL]
    split
    · have := ih j; omega
    · have := bump_bd (bump_bd ih (pt xs k).l.toNat) (pt xs k).r.toNat j
      omega
theorem mobB_not {xs : List Pt} {n : Nat} (hl : xs.length = n) {k : Nat} (hk : k < n) (h : partB n k (pt xs k) = false) : mobB xs = false := by
  rw [Bool.eq_false_iff]
  intro hm
  simp only [mobB, Bool.and_eq_true, List.all_eq_true, List.mem_range] at hm
  have := hm.1.2 k (by omega)
  rw [hl, h] at this
  cases this
theorem mobB_yes {xs : List Pt} {n : Nat} (hl : xs.length = n) (h1 : inB (n : Int) 1 15 = true) (h2 : ∀ k, k < n → partB n k (pt xs k) = true) : mobB xs = onesB (cntL xs n n) n := by
  subst hl
  rw [mobB, h1]
  have : ((List.range xs.length).all fun k => partB xs.length k (pt xs k)) = true := by
    simp only [List.all_eq_true, List.mem_range]; exact h2
  rw [this]; simp
theorem row_cell {B : Nat} {w : World} {g n cap : Nat} {L : List Int} (hl : L.length = n) {j : Nat} (hj : j < n) (h : OwI B w (.slice (some ⟨g, 0, none⟩) n cap) L) :
    w.cell? ⟨g, j, none⟩ = some (.int .i64 (L.getD j 0)) ∧ w.frozen? ⟨g, j, none⟩ = false ∧ ∀ e : Int, OwI B (w.setCell ⟨g, j, none⟩ (.int .i64 e)) (.slice (some ⟨g, 0, none⟩) n cap) (L.set j e) := by
  unfold OwI at h ⊢
  rw [hl] at h
  refine ⟨?_, World.ownsRow.frozenAt h _, fun e => ?_⟩
  · rw [World.ownsRow.cellAt h _ (by omega), List.getElem?_map, List.getElem?_eq_getElem (by omega), List.getD_eq_getElem?_getD, List.getElem?_eq_getElem (by omega)]; rfl
  · rw [List.length_set, hl]
    have := (World.ownsRow.stored h j (.int .i64 e)).1
    rw [← List.map_set] at this
    exact this
theorem ones_not {L : List Int} {n j : Nat} (hj : 1 + j < n) (h : L.getD (1 + j) 0 ≠ 1) : onesB L n = false := by
  rw [Bool.eq_false_iff]
  intro hm
  simp only [onesB, List.all_eq_true, List.mem_range, beq_iff_eq] at hm
  exact h (hm j (by omega))
theorem ones_yes {L : List Int} {n : Nat} (h : ∀ j, 1 + j < n → L.getD (1 + j) 0 = 1) : onesB L n = true := by
  simp only [onesB, List.all_eq_true, List.mem_range, beq_iff_eq]
  exact fun j hj => h j (by omega)
set_option maxRecDepth 20000 in
set_option maxHeartbeats 6400000 in
theorem iMobileOk_any (A : Option Addr) (n c : Nat) (xs : List Pt) (w : World) (hl : xs.length = n) (hn : n ≤ 1048576) (hr : RdP w A n xs) :
    Calls Try.prog 13 #[.slice A n c] w fun e w' => e = .returned (.bool (mobB xs)) ∧ Kp w w' := by
  obtain ⟨i0, hi, hz0, hz1, hz2⟩ := info_parts int_info
  have HR := Lib.hid hr
  have HL := Lib.hid hl
  clear hr
  by_cases h15 : inB (n : Int) 1 15 = true
  · have hb := inB_true.1 h15
    have HB := Lib.hid h15
    clear hl h15
    go_enter Try.func13, Try.ntmps13
    go_wp2_with (first | (go_at_call 31; refine (in_any _ _ _ _).mono ?_; rintro e w' ⟨rfl, rfl⟩; rw [HB.out]) | (at_make; refine wpList_make_full _ rfl _ _ 42 rfl w.heap.size 3 i0 (.int .i64 0) 1 Try.underlying42 hi hz0 hz1 .i64 .i64 _ _ n rfl rfl rfl rfl (by rw [hz2]; omega) (by unfold maxLen; omega) (Nat.le_refl _) ?_; intro w1 hown1 hgrow1))
    have hk1 : Kp w w1 := (Kp.refl w).grown hgrow1 (by simp)
    have ho1 : OwI w.heap.size w1 (.slice (some ⟨w.heap.size, 0, none⟩) n n) (cntL xs n 0) := by
      rw [show (Value.int .i64 0).cells = #[.int .i64 0] from rfl, toList_madeCells_one] at hown1
      unfold OwI
      rw [cntL_length]
      simpa [cntL] using hown1
    have HO1 := Lib.hid ho1
    clear hgrow1 hown1 ho1
    go_loopw [18] (fun i wr => ∃ k : Nat, k ≤ n ∧ i = .int .i64 k ∧ (∀ j, j < k → partB n j (pt xs j) = true) ∧ OwI w.heap.size wr (.slice (some ⟨w.heap.size, 0, none⟩) n n) (cntL xs n k) ∧ Kp w wr) (fun i _ => n - (intOf i).toNat)
    case atStart => exact ⟨0, by omega, rfl, fun j hj => by omega, HO1.out, hk1⟩
    case round =>
      obtain ⟨k, hk, rfl, hok, ho, hkp⟩ := hrel
      by_cases hlt : k < n
      · obtain ⟨b, off, rfl, hbz, hc⟩ := (HR.out.kp hkp).cellOf HL.out (by omega)
        have hC := hc k hlt
        have hP : partB n k (pt xs k) = true ∨ mobB xs = false := by
          cases h : partB n k (pt xs k) with
          | true => exact .inl rfl
          | false => exact .inr (mobB_not HL.out hlt h)
        have hstep : cntL xs n (k + 1) = if (pt xs k).l = -1 then cntL xs n k else bump (bump (cntL xs n k) (pt xs k).l.toNat) (pt xs k).r.toNat := rfl
        have hok' : partB n k (pt xs k) = true → ∀ j, j < k + 1 → partB n j (pt xs j) = true := fun h j hj => by
          rcases Nat.lt_or_ge j k with h1 | h1
          · exact hok j h1
          · obtain rfl : j = k := by omega
            exact h
        have hlen := cntL_length xs n k
        have hbd := cntL_bd xs n k
        have hgz : w.heap.size < wr.heap.size := ((ho.form (by rw [hlen]; omega)).elim fun g h => h.elim fun cap h => by
          have := h.2.2
          have e := h.1
          injection e with e1
          injection e1 with e1
          injection e1 with e1
          omega)
        obtain ⟨C, hCe⟩ : ∃ C, C = cntL xs n k := ⟨_, rfl⟩
        rw [← hCe] at hlen hbd ho hstep
        obtain ⟨⟨X0, X1, X2, X3, X4⟩, hX⟩ : ∃ X, X = pt xs k := ⟨_, rfl⟩
        rw [← hX] at hC hP hstep hok'
        obtain ⟨c0, c1, c2, c3, c4⟩ := hC
        dsimp only at c0 c1 c2 c3 c4 hstep
        have p0 : (0 : Int) ≤ (k : Int) := by omega
        have p1 : (k : Int) < (n : Int) := by omega
        have HO := Lib.hid ho
        have HKP := Lib.hid hkp
        have HP := Lib.hid hP
        have HST := Lib.hid hstep
        have HOK := Lib.hid hok'
        have HLN := Lib.hid hlen
        have HBD := Lib.hid hbd
        clear hc hX hCe hok hok' hP hstep hlen hbd ho hkp
        by_cases hleaf : X0 = -1
        · subst hleaf
          by_cases hr1 : X1 = -1
          · subst hr1
            by_cases hp1 : X2 = 0
            · subst hp1
              by_cases hq1 : X3 = 0
              · subst hq1
                by_cases hx1 : inB X4 1 1000 = true
                · have HX1 := Lib.hid hx1
                  clear hx1
                  go_wp2_with (go_at_call 31; refine (in_any _ _ _ _).mono ?_; rintro e w' ⟨rfl, rfl⟩; rw [HX1.out])
                  go_roundw
                  case rel => exact ⟨k + 1, by omega, by go_num, HOK.out (by simp [partB, leafB, HX1.out]), by have e := HST.out; simp at e; rw [e]; exact HO.out.kp (by (repeat (with_reducible first | exact Kp.refl _ | assumption | refine Kp.drew ?_ | refine Kp.drewN ?_ _ | refine Kp.alloc ?_ _ | refine Kp.setCell ?_ (by first | (simp; done) | (simp; omega) | (dsimp only; omega)) _ | refine Kp.trans ?_ (by assumption)))), by have := HKP.out; (repeat (with_reducible first | exact Kp.refl _ | assumption | refine Kp.drew ?_ | refine Kp.drewN ?_ _ | refine Kp.alloc ?_ _ | refine Kp.setCell ?_ (by first | (simp; done) | (simp; omega) | (dsimp only; omega)) _ | refine Kp.trans ?_ (by assumption)))⟩
                  case measure => simp [intOf]; omega
                · have HX1 := Lib.hid (show inB X4 1 1000 = false by simpa using hx1)
                  have HF := Lib.hid (HP.out.resolve_left (by simp [partB, leafB, HX1.out]))
                  clear hx1
                  (go_wp2_with (go_at_call 31; refine (in_any _ _ _ _).mono ?_; rintro e w' ⟨rfl, rfl⟩; first | rw [HX1.out] | rw [HA1.out] | rw [HA2.out] | rw [HA3.out] | rw [HA4.out]); go_ret; exact ⟨ret_bool HF.out.symm, by have := HKP.out; (repeat (with_reducible first | exact Kp.refl _ | assumption | refine Kp.drew ?_ | refine Kp.drewN ?_ _ | refine Kp.alloc ?_ _ | refine Kp.setCell ?_ (by first | (simp; done) | (simp; omega) | (dsimp only; omega)) _ | refine Kp.trans ?_ (by assumption)))⟩)
              · have HF := Lib.hid (HP.out.resolve_left (by simp [partB, leafB, hq1]))
                (go_wp2_with (go_at_call 31; refine (in_any _ _ _ _).mono ?_; rintro e w' ⟨rfl, rfl⟩; first | rw [HX1.out] | rw [HA1.out] | rw [HA2.out] | rw [HA3.out] | rw [HA4.out]); go_ret; exact ⟨ret_bool HF.out.symm, by have := HKP.out; (repeat (with_reducible first | exact Kp.refl _ | assumption | refine Kp.drew ?_ | refine Kp.drewN ?_ _ | refine Kp.alloc ?_ _ | refine Kp.setCell ?_ (by first | (simp; done) | (simp; omega) | (dsimp only; omega)) _ | refine Kp.trans ?_ (by assumption)))⟩)
            · have HF := Lib.hid (HP.out.resolve_left (by simp [partB, leafB, hp1]))
              (go_wp2_with (go_at_call 31; refine (in_any _ _ _ _).mono ?_; rintro e w' ⟨rfl, rfl⟩; first | rw [HX1.out] | rw [HA1.out] | rw [HA2.out] | rw [HA3.out] | rw [HA4.out]); go_ret; exact ⟨ret_bool HF.out.symm, by have := HKP.out; (repeat (with_reducible first | exact Kp.refl _ | assumption | refine Kp.drew ?_ | refine Kp.drewN ?_ _ | refine Kp.alloc ?_ _ | refine Kp.setCell ?_ (by first | (simp; done) | (simp; omega) | (dsimp only; omega)) _ | refine Kp.trans ?_ (by assumption)))⟩)
          · have HF := Lib.hid (HP.out.resolve_left (by simp [partB, leafB, hr1]))
            (go_wp2_with (go_at_call 31; refine (in_any _ _ _ _).mono ?_; rintro e w' ⟨rfl, rfl⟩; first | rw [HX1.out] | rw [HA1.out] | rw [HA2.out] | rw [HA3.out] | rw [HA4.out]); go_ret; exact ⟨ret_bool HF.out.symm, by have := HKP.out; (repeat (with_reducible first | exact Kp.refl _ | assumption | refine Kp.drew ?_ | refine Kp.drewN ?_ _ | refine Kp.alloc ?_ _ | refine Kp.setCell ?_ (by first | (simp; done) | (simp; omega) | (dsimp only; omega)) _ | refine Kp.trans ?_ (by assumption)))⟩)
        · by_cases a1 : inB X0 ((k : Int) + 1) ((n : Int) - 1) = true
          · have HA1 := Lib.hid a1
            have b1 := inB_true.1 a1
            clear a1
            by_cases a2 : inB X1 ((k : Int) + 1) ((n : Int) - 1) = true
            · have HA2 := Lib.hid a2
              have b2 := inB_true.1 a2
              clear a2
              by_cases a3 : inB X2 1 20 = true
              · have HA3 := Lib.hid a3
                clear a3
                by_cases a4 : inB X3 1 20 = true
                · have HA4 := Lib.hid a4
                  clear a4
                  by_cases a5 : X4 = 0
                  · subst a5
                    obtain ⟨l, rfl⟩ : ∃ l : Nat, X0 = (l : Int) := ⟨X0.toNat, by omega⟩
                    obtain ⟨r, rfl⟩ : ∃ r : Nat, X1 = (r : Int) := ⟨X1.toNat, by omega⟩
                    have HPT := Lib.hid (show partB n k ⟨(l : Int), (r : Int), X2, X3, 0⟩ = true by simp [partB, armB, hleaf, HA1.out, HA2.out, HA3.out, HA4.out])
                    have HN := Lib.hid (show cntL xs n (k + 1) = bump (bump C l) r by have := HST.out; rw [if_neg hleaf] at this; simpa using this)
                    go_upto_region 13 with (go_at_call 31; refine (in_any _ _ _ _).mono ?_; rintro e w' ⟨rfl, rfl⟩; first | rw [HA1.out] | rw [HA2.out] | rw [HA3.out] | rw [HA4.out])
                    have hA : Kp w (wr.alloc (.cells #[.int .i64 (l : Int), .int .i64 (r : Int), .int .i64 X2, .int .i64 X3, .int .i64 0] 40)) := by have := HKP.out; (repeat (with_reducible first | exact Kp.refl _ | assumption | refine Kp.drew ?_ | refine Kp.drewN ?_ _ | refine Kp.alloc ?_ _ | refine Kp.setCell ?_ (by first | (simp; done) | (simp; omega) | (dsimp only; omega)) _ | refine Kp.trans ?_ (by assumption)))
                    have hOA := HO.out.kp ((Kp.refl wr).alloc (.cells #[.int .i64 (l : Int), .int .i64 (r : Int), .int .i64 X2, .int .i64 X3, .int .i64 0] 40))
                    have f0 : (wr.alloc (.cells #[.int .i64 (l : Int), .int .i64 (r : Int), .int .i64 X2, .int .i64 X3, .int .i64 0] 40)).cell? ⟨wr.heap.size, 0, none⟩ = some (.int .i64 (l : Int)) := by simp [go_sem]
                    have f1 : (wr.alloc (.cells #[.int .i64 (l : Int), .int .i64 (r : Int), .int .i64 X2, .int .i64 X3, .int .i64 0] 40)).cell? ⟨wr.heap.size, 1, none⟩ = some (.int .i64 (r : Int)) := by simp [go_sem]
                    generalize wr.alloc (.cells #[.int .i64 (l : Int), .int .i64 (r : Int), .int .i64 X2, .int .i64 X3, .int .i64 0] 40) = W at *
                    obtain ⟨ca, fa, sta⟩ := row_cell HLN.out (show l < n by omega) hOA
                    obtain ⟨cb, fb, stb⟩ := row_cell (by rw [bump_length]; exact HLN.out) (show r < n by omega) (show OwI w.heap.size (W.setCell ⟨w.heap.size, l, none⟩ (.int .i64 (C.getD l 0 + 1))) (.slice (some ⟨w.heap.size, 0, none⟩) n n) (bump C l) from sta _)
                    have ba := HBD.out l
                    have bb := bump_bd HBD.out l r
                    have hst := Lib.hid (show OwI w.heap.size ((W.setCell ⟨w.heap.size, l, none⟩ (.int .i64 (C.getD l 0 + 1))).setCell ⟨w.heap.size, r, none⟩ (.int .i64 ((bump C l).getD r 0 + 1))) (.slice (some ⟨w.heap.size, 0, none⟩) n n) (cntL xs n (k + 1)) by rw [HN.out]; exact stb _)
                    have hkk := Lib.hid (show Kp w ((W.setCell ⟨w.heap.size, l, none⟩ (.int .i64 (C.getD l 0 + 1))).setCell ⟨w.heap.size, r, none⟩ (.int .i64 ((bump C l).getD r 0 + 1))) from (hA.setCell (Nat.le_refl _) _).setCell (Nat.le_refl _) _)
                    obtain ⟨U, eU⟩ : ∃ U, U = C.getD l 0 := ⟨_, rfl⟩
                    rw [← eU] at ca cb fb ba hst hkk
                    obtain ⟨V, eV⟩ : ∃ V, V = (bump C l).getD r 0 := ⟨_, rfl⟩
                    rw [← eV] at cb bb hst hkk
                    have i0 : (0 : Int) ≤ (l : Int) := by omega
                    have i1 : (l : Int) < (n : Int) := by omega
                    have j0 : (0 : Int) ≤ (r : Int) := by omega
                    have j1 : (r : Int) < (n : Int) := by omega
                    have hne : w.heap.size ≠ wr.heap.size := by omega
                    clear sta stb eU eV hOA hA b1 b2
                    go_wp2_with fail
                    go_roundw
                    case rel => exact ⟨k + 1, by omega, by go_num, HOK.out HPT.out, by first | exact hst.out | exact hst.out.kp (by (repeat (with_reducible first | exact Kp.refl _ | assumption | refine Kp.drew ?_ | refine Kp.drewN ?_ _ | refine Kp.alloc ?_ _ | refine Kp.setCell ?_ (by first | (simp; done) | (simp; omega) | (dsimp only; omega)) _ | refine Kp.trans ?_ (by assumption)))), by have := hkk.out; (repeat (with_reducible first | exact Kp.refl _ | assumption | refine Kp.drew ?_ | refine Kp.drewN ?_ _ | refine Kp.alloc ?_ _ | refine Kp.setCell ?_ (by first | (simp; done) | (simp; omega) | (dsimp only; omega)) _ | refine Kp.trans ?_ (by assumption)))⟩
                    case measure => simp [intOf]; omega
                  · have HF := Lib.hid (HP.out.resolve_left (by simp [partB, armB, hleaf, a5]))
                    (go_wp2_with (go_at_call 31; refine (in_any _ _ _ _).mono ?_; rintro e w' ⟨rfl, rfl⟩; first | rw [HX1.out] | rw [HA1.out] | rw [HA2.out] | rw [HA3.out] | rw [HA4.out]); go_ret; exact ⟨ret_bool HF.out.symm, by have := HKP.out; (repeat (with_reducible first | exact Kp.refl _ | assumption | refine Kp.drew ?_ | refine Kp.drewN ?_ _ | refine Kp.alloc ?_ _ | refine Kp.setCell ?_ (by first | (simp; done) | (simp; omega) | (dsimp only; omega)) _ | refine Kp.trans ?_ (by assumption)))⟩)
                · have HA4 := Lib.hid (show inB X3 1 20 = false by simpa using a4)
                  have HF := Lib.hid (HP.out.resolve_left (by simp [partB, armB, hleaf, HA4.out]))
                  clear a4
                  (go_wp2_with (go_at_call 31; refine (in_any _ _ _ _).mono ?_; rintro e w' ⟨rfl, rfl⟩; first | rw [HX1.out] | rw [HA1.out] | rw [HA2.out] | rw [HA3.out] | rw [HA4.out]); go_ret; exact ⟨ret_bool HF.out.symm, by have := HKP.out; (repeat (with_reducible first | exact Kp.refl _ | assumption | refine Kp.drew ?_ | refine Kp.drewN ?_ _ | refine Kp.alloc ?_ _ | refine Kp.setCell ?_ (by first | (simp; done) | (simp; omega) | (dsimp only; omega)) _ | refine Kp.trans ?_ (by assumption)))⟩)
              · have HA3 := Lib.hid (show inB X2 1 20 = false by simpa using a3)
                have HF := Lib.hid (HP.out.resolve_left (by simp [partB, armB, hleaf, HA3.out]))
                clear a3
                (go_wp2_with (go_at_call 31; refine (in_any _ _ _ _).mono ?_; rintro e w' ⟨rfl, rfl⟩; first | rw [HX1.out] | rw [HA1.out] | rw [HA2.out] | rw [HA3.out] | rw [HA4.out]); go_ret; exact ⟨ret_bool HF.out.symm, by have := HKP.out; (repeat (with_reducible first | exact Kp.refl _ | assumption | refine Kp.drew ?_ | refine Kp.drewN ?_ _ | refine Kp.alloc ?_ _ | refine Kp.setCell ?_ (by first | (simp; done) | (simp; omega) | (dsimp only; omega)) _ | refine Kp.trans ?_ (by assumption)))⟩)
            · have HA2 := Lib.hid (show inB X1 ((k : Int) + 1) ((n : Int) - 1) = false by simpa using a2)
              have HF := Lib.hid (HP.out.resolve_left (by simp [partB, armB, hleaf, HA2.out]))
              clear a2
              (go_wp2_with (go_at_call 31; refine (in_any _ _ _ _).mono ?_; rintro e w' ⟨rfl, rfl⟩; first | rw [HX1.out] | rw [HA1.out] | rw [HA2.out] | rw [HA3.out] | rw [HA4.out]); go_ret; exact ⟨ret_bool HF.out.symm, by have := HKP.out; (repeat (with_reducible first | exact Kp.refl _ | assumption | refine Kp.drew ?_ | refine Kp.drewN ?_ _ | refine Kp.alloc ?_ _ | refine Kp.setCell ?_ (by first | (simp; done) | (simp; omega) | (dsimp only; omega)) _ | refine Kp.trans ?_ (by assumption)))⟩)
          · have HA1 := Lib.hid (show inB X0 ((k : Int) + 1) ((n : Int) - 1) = false by simpa using a1)
            have HF := Lib.hid (HP.out.resolve_left (by simp [partB, armB, hleaf, HA1.out]))
            clear a1
            (go_wp2_with (go_at_call 31; refine (in_any _ _ _ _).mono ?_; rintro e w' ⟨rfl, rfl⟩; first | rw [HX1.out] | rw [HA1.out] | rw [HA2.out] | rw [HA3.out] | rw [HA4.out]); go_ret; exact ⟨ret_bool HF.out.symm, by have := HKP.out; (repeat (with_reducible first | exact Kp.refl _ | assumption | refine Kp.drew ?_ | refine Kp.drewN ?_ _ | refine Kp.alloc ?_ _ | refine Kp.setCell ?_ (by first | (simp; done) | (simp; omega) | (dsimp only; omega)) _ | refine Kp.trans ?_ (by assumption)))⟩)
      · obtain rfl : k = n := by omega
        have hlen := cntL_length xs k k
        have hall := mobB_yes HL.out HB.out hok
        obtain ⟨C, hCe⟩ : ∃ C, C = cntL xs k k := ⟨_, rfl⟩
        rw [← hCe] at hlen ho hall
        have HO := Lib.hid ho
        have HAL := Lib.hid hall
        have HLN := Lib.hid hlen
        have HKP := Lib.hid hkp
        clear hCe hlen ho hall hok hkp
        by_cases hk1 : k = 1
        · subst hk1
          have HT := Lib.hid (show mobB xs = true by rw [HAL.out]; exact ones_yes (fun j hj => by omega))
          go_wp2_with fail
          refine wp_loop_rounds 1 ?_
          rw [rounds_succ]
          go_wp2_with fail
          go_ret
          exact ⟨ret_bool HT.out.symm, HKP.out⟩
        · obtain ⟨M, rfl⟩ : ∃ M, k = M + 1 := ⟨k - 1, by omega⟩
          have hM1 : 1 ≤ M := by omega
          go_wp2_with fail
          go_loopw [98] (fun i w' => ∃ j : Nat, j ≤ M ∧ i = .int .i64 j ∧ (∀ i, i < j → C.getD (1 + i) 0 = 1) ∧ Kp wr w') (fun i _ => M - (intOf i).toNat)
          case atStart => exact ⟨0, by omega, rfl, fun i hi => by omega, Kp.refl _⟩
          case round =>
            obtain ⟨j, hj, rfl, hones, hkw⟩ := hrel
            have HON := Lib.hid hones
            clear hones
            by_cases hjl : j < M
            · have cx := (row_cell HLN.out (show 1 + j < M + 1 by omega) (HO.out.kp hkw)).1
              obtain ⟨V, eV⟩ : ∃ V, V = C.getD (1 + j) 0 := ⟨_, rfl⟩
              rw [← eV] at cx
              have EV := Lib.hid eV
              clear eV
              have i0 : (0 : Int) ≤ (j : Int) := by omega
              have i1 : (j : Int) < (M : Int) := by omega
              by_cases hv : V = 1
              · subst hv
                go_wp2_with fail
                go_roundw
                case rel => exact ⟨j + 1, by omega, by go_num, fun i hi => by
                  rcases Nat.lt_or_ge i j with h | h
                  · exact HON.out i h
                  · obtain rfl : i = j := by omega
                    exact EV.out.symm, by (repeat (with_reducible first | exact Kp.refl _ | assumption | refine Kp.drew ?_ | refine Kp.drewN ?_ _ | refine Kp.alloc ?_ _ | refine Kp.setCell ?_ (by first | (simp; done) | (simp; omega) | (dsimp only; omega)) _ | refine Kp.trans ?_ (by assumption)))⟩
                case measure => simp [intOf]; omega
              · have HF := Lib.hid (show mobB xs = false by rw [HAL.out]; exact ones_not (show 1 + j < M + 1 by omega) (by rw [← EV.out]; exact hv))
                go_wp2_with fail
                go_ret
                exact ⟨ret_bool HF.out.symm, HKP.out.trans (by (repeat (with_reducible first | exact Kp.refl _ | assumption | refine Kp.drew ?_ | refine Kp.drewN ?_ _ | refine Kp.alloc ?_ _ | refine Kp.setCell ?_ (by first | (simp; done) | (simp; omega) | (dsimp only; omega)) _ | refine Kp.trans ?_ (by assumption))))⟩
            · obtain rfl : j = M := by omega
              have HT := Lib.hid (show mobB xs = true by rw [HAL.out]; exact ones_yes (fun i hi => HON.out i (by omega)))
              go_wp2_with fail
              go_ret
              exact ⟨ret_bool HT.out.symm, HKP.out.trans (by (repeat (with_reducible first | exact Kp.refl _ | assumption | refine Kp.drew ?_ | refine Kp.drewN ?_ _ | refine Kp.alloc ?_ _ | refine Kp.setCell ?_ (by first | (simp; done) | (simp; omega) | (dsimp only; omega)) _ | refine Kp.trans ?_ (by assumption))))⟩
  · have HF := Lib.hid (show mobB xs = false by
      rw [mobB, hl]
      simp only [Bool.not_eq_true] at h15
      rw [h15]; rfl)
    have HX1 := Lib.hid (show inB (n : Int) 1 15 = false by simpa using h15)
    have HKP := Lib.hid (Kp.refl w)
    clear h15 hl
    go_enter Try.func13, Try.ntmps13
    (go_wp2_with (go_at_call 31; refine (in_any _ _ _ _).mono ?_; rintro e w' ⟨rfl, rfl⟩; first | rw [HX1.out] | rw [HA1.out] | rw [HA2.out] | rw [HA3.out] | rw [HA4.out]); go_ret; exact ⟨ret_bool HF.out.symm, by have := HKP.out; (repeat (with_reducible first | exact Kp.refl _ | assumption | refine Kp.drew ?_ | refine Kp.drewN ?_ _ | refine Kp.alloc ?_ _ | refine Kp.setCell ?_ (by first | (simp; done) | (simp; omega) | (dsimp only; omega)) _ | refine Kp.trans ?_ (by assumption)))⟩)
set_option maxRecDepth 20000 in
set_option maxHeartbeats 6400000 in
theorem sMobileOk_any (A : Option Addr) (n c : Nat) (xs : List Pt) (w : World) (hl : xs.length = n) (hn : n ≤ 1048576) (hr : RdP w A n xs) :
    Calls Try.prog 11 #[.slice A n c] w fun e w' => e = .returned (.bool (mobB xs)) ∧ Kp w w' := by
  obtain ⟨i0, hi, hz0, hz1, hz2⟩ := info_parts int_info
  have HR := Lib.hid hr
  have HL := Lib.hid hl
  clear hr
  by_cases h15 : inB (n : Int) 1 15 = true
  · have hb := inB_true.1 h15
    have HB := Lib.hid h15
    clear hl h15
    go_enter Try.func11, Try.ntmps11
    go_wp2_with (first | (go_at_call 29; refine (l01In_any _ _ _ _).mono ?_; rintro e w' ⟨rfl, rfl⟩; rw [HB.out]) | (at_make; refine wpList_make_full _ rfl _ _ 42 rfl w.heap.size 3 i0 (.int .i64 0) 1 Try.underlying42 hi hz0 hz1 .i64 .i64 _ _ n rfl rfl rfl rfl (by rw [hz2]; omega) (by unfold maxLen; omega) (Nat.le_refl _) ?_; intro w1 hown1 hgrow1))
    have hk1 : Kp w w1 := (Kp.refl w).grown hgrow1 (by simp)
    have ho1 : OwI w.heap.size w1 (.slice (some ⟨w.heap.size, 0, none⟩) n n) (cntL xs n 0) := by
      rw [show (Value.int .i64 0).cells = #[.int .i64 0] from rfl, toList_madeCells_one] at hown1
      unfold OwI
      rw [cntL_length]
      simpa [cntL] using hown1
    have HO1 := Lib.hid ho1
    clear hgrow1 hown1 ho1
    go_loopw [5] (fun i wr => ∃ k : Nat, k ≤ n ∧ i = .int .i64 k ∧ (∀ j, j < k → partB n j (pt xs j) = true) ∧ OwI w.heap.size wr (.slice (some ⟨w.heap.size, 0, none⟩) n n) (cntL xs n k) ∧ Kp w wr) (fun i _ => n - (intOf i).toNat)
    case atStart => exact ⟨0, by omega, rfl, fun j hj => by omega, HO1.out, hk1⟩
    case round =>
      obtain ⟨k, hk, rfl, hok, ho, hkp⟩ := hrel
      by_cases hlt : k < n
      · obtain ⟨b, off, rfl, hbz, hc⟩ := (HR.out.kp hkp).cellOf HL.out (by omega)
        have hC := hc k hlt
        have hP : partB n k (pt xs k) = true ∨ mobB xs = false := by
          cases h : partB n k (pt xs k) with
          | true => exact .inl rfl
          | false => exact .inr (mobB_not HL.out hlt h)
        have hstep : cntL xs n (k + 1) = if (pt xs k).l = -1 then cntL xs n k else bump (bump (cntL xs n k) (pt xs k).l.toNat) (pt xs k).r.toNat := rfl
        have hok' : partB n k (pt xs k) = true → ∀ j, j < k + 1 → partB n j (pt xs j) = true := fun h j hj => by
          rcases Nat.lt_or_ge j k with h1 | h1
          · exact hok j h1
          · obtain rfl : j = k := by omega
            exact h
        have hlen := cntL_length xs n k
        have hbd := cntL_bd xs n k
        have hgz : w.heap.size < wr.heap.size := ((ho.form (by rw [hlen]; omega)).elim fun g h => h.elim fun cap h => by
          have := h.2.2
          have e := h.1
          injection e with e1
          injection e1 with e1
          injection e1 with e1
          omega)
        obtain ⟨C, hCe⟩ : ∃ C, C = cntL xs n k := ⟨_, rfl⟩
        rw [← hCe] at hlen hbd ho hstep
        obtain ⟨⟨X0, X1, X2, X3, X4⟩, hX⟩ : ∃ X, X = pt xs k := ⟨_, rfl⟩
        rw [← hX] at hC hP hstep hok'
        obtain ⟨c0, c1, c2, c3, c4⟩ := hC
        dsimp only at c0 c1 c2 c3 c4 hstep
        have p0 : (0 : Int) ≤ (k : Int) := by omega
        have p1 : (k : Int) < (n : Int) := by omega
        have HO := Lib.hid ho
        have HKP := Lib.hid hkp
        have HP := Lib.hid hP
        have HST := Lib.hid hstep
        have HOK := Lib.hid hok'
        have HLN := Lib.hid hlen
        have HBD := Lib.hid hbd
        clear hc hX hCe hok hok' hP hstep hlen hbd ho hkp
        by_cases hleaf : X0 = -1
        · subst hleaf
          by_cases hr1 : X1 = -1
          · subst hr1
            by_cases hp1 : X2 = 0
            · subst hp1
              by_cases hq1 : X3 = 0
              · subst hq1
                by_cases hx1 : inB X4 1 1000 = true
                · have HX1 := Lib.hid hx1
                  clear hx1
                  go_wp2_with (go_at_call 29; refine (l01In_any _ _ _ _).mono ?_; rintro e w' ⟨rfl, rfl⟩; rw [HX1.out])
                  go_roundw
                  case rel => exact ⟨k + 1, by omega, by go_num, HOK.out (by simp [partB, leafB, HX1.out]), by have e := HST.out; simp at e; rw [e]; exact HO.out.kp (by (repeat (with_reducible first | exact Kp.refl _ | assumption | refine Kp.drew ?_ | refine Kp.drewN ?_ _ | refine Kp.alloc ?_ _ | refine Kp.setCell ?_ (by first | (simp; done) | (simp; omega) | (dsimp only; omega)) _ | refine Kp.trans ?_ (by assumption)))), by have := HKP.out; (repeat (with_reducible first | exact Kp.refl _ | assumption | refine Kp.drew ?_ | refine Kp.drewN ?_ _ | refine Kp.alloc ?_ _ | refine Kp.setCell ?_ (by first | (simp; done) | (simp; omega) | (dsimp only; omega)) _ | refine Kp.trans ?_ (by assumption)))⟩
                  case measure => simp [intOf]; omega
                · have HX1 := Lib.hid (show inB X4 1 1000 = false by simpa using hx1)
                  have HF := Lib.hid (HP.out.resolve_left (by simp [partB, leafB, HX1.out]))
                  clear hx1
                  (go_wp2_with (go_at_call 29; refine (l01In_any _ _ _ _).mono ?_; rintro e w' ⟨rfl, rfl⟩; first | rw [HX1.out] | rw [HA1.out] | rw [HA2.out] | rw [HA3.out] | rw [HA4.out]); go_ret; exact ⟨ret_bool HF.out.symm, by have := HKP.out; (repeat (with_reducible first | exact Kp.refl _ | assumption | refine Kp.drew ?_ | refine Kp.drewN ?_ _ | refine Kp.alloc ?_ _ | refine Kp.setCell ?_ (by first | (simp; done) | (simp; omega) | (dsimp only; omega)) _ | refine Kp.trans ?_ (by assumption)))⟩)
              · have HF := Lib.hid (HP.out.resolve_left (by simp [partB, leafB, hq1]))
                (go_wp2_with (go_at_call 29; refine (l01In_any _ _ _ _).mono ?_; rintro e w' ⟨rfl, rfl⟩; first | rw [HX1.out] | rw [HA1.out] | rw [HA2.out] | rw [HA3.out] | rw [HA4.out]); go_ret; exact ⟨ret_bool HF.out.symm, by have := HKP.out; (repeat (with_reducible first | exact Kp.refl _ | assumption | refine Kp.drew ?_ | refine Kp.drewN ?_ _ | refine Kp.alloc ?_ _ | refine Kp.setCell ?_ (by first | (simp; done) | (simp; omega) | (dsimp only; omega)) _ | refine Kp.trans ?_ (by assumption)))⟩)
            · have HF := Lib.hid (HP.out.resolve_left (by simp [partB, leafB, hp1]))
              (go_wp2_with (go_at_call 29; refine (l01In_any _ _ _ _).mono ?_; rintro e w' ⟨rfl, rfl⟩; first | rw [HX1.out] | rw [HA1.out] | rw [HA2.out] | rw [HA3.out] | rw [HA4.out]); go_ret; exact ⟨ret_bool HF.out.symm, by have := HKP.out; (repeat (with_reducible first | exact Kp.refl _ | assumption | refine Kp.drew ?_ | refine Kp.drewN ?_ _ | refine Kp.alloc ?_ _ | refine Kp.setCell ?_ (by first | (simp; done) | (simp; omega) | (dsimp only; omega)) _ | refine Kp.trans ?_ (by assumption)))⟩)
          · have HF := Lib.hid (HP.out.resolve_left (by simp [partB, leafB, hr1]))
            (go_wp2_with (go_at_call 29; refine (l01In_any _ _ _ _).mono ?_; rintro e w' ⟨rfl, rfl⟩; first | rw [HX1.out] | rw [HA1.out] | rw [HA2.out] | rw [HA3.out] | rw [HA4.out]); go_ret; exact ⟨ret_bool HF.out.symm, by have := HKP.out; (repeat (with_reducible first | exact Kp.refl _ | assumption | refine Kp.drew ?_ | refine Kp.drewN ?_ _ | refine Kp.alloc ?_ _ | refine Kp.setCell ?_ (by first | (simp; done) | (simp; omega) | (dsimp only; omega)) _ | refine Kp.trans ?_ (by assumption)))⟩)
        · by_cases a1 : inB X0 ((k : Int) + 1) ((n : Int) - 1) = true
          · have HA1 := Lib.hid a1
            have b1 := inB_true.1 a1
            clear a1
            by_cases a2 : inB X1 ((k : Int) + 1) ((n : Int) - 1) = true
            · have HA2 := Lib.hid a2
              have b2 := inB_true.1 a2
              clear a2
              by_cases a3 : inB X2 1 20 = true
              · have HA3 := Lib.hid a3
                clear a3
                by_cases a4 : inB X3 1 20 = true
                · have HA4 := Lib.hid a4
                  clear a4
                  by_cases a5 : X4 = 0
                  · subst a5
                    obtain ⟨l, rfl⟩ : ∃ l : Nat, X0 = (l : Int) := ⟨X0.toNat, by omega⟩
                    obtain ⟨r, rfl⟩ : ∃ r : Nat, X1 = (r : Int) := ⟨X1.toNat, by omega⟩
                    have HPT := Lib.hid (show partB n k ⟨(l : Int), (r : Int), X2, X3, 0⟩ = true by simp [partB, armB, hleaf, HA1.out, HA2.out, HA3.out, HA4.out])
                    have HN := Lib.hid (show cntL xs n (k + 1) = bump (bump C l) r by have := HST.out; rw [if_neg hleaf] at this; simpa using this)
                    go_upto_region 14 with (go_at_call 29; refine (l01In_any _ _ _ _).mono ?_; rintro e w' ⟨rfl, rfl⟩; first | rw [HA1.out] | rw [HA2.out] | rw [HA3.out] | rw [HA4.out])
                    have hA : Kp w (wr.alloc (.cells #[.int .i64 (l : Int), .int .i64 (r : Int), .int .i64 X2, .int .i64 X3, .int .i64 0] 40)) := by have := HKP.out; (repeat (with_reducible first | exact Kp.refl _ | assumption | refine Kp.drew ?_ | refine Kp.drewN ?_ _ | refine Kp.alloc ?_ _ | refine Kp.setCell ?_ (by first | (simp; done) | (simp; omega) | (dsimp only; omega)) _ | refine Kp.trans ?_ (by assumption)))
                    have hOA := HO.out.kp ((Kp.refl wr).alloc (.cells #[.int .i64 (l : Int), .int .i64 (r : Int), .int .i64 X2, .int .i64 X3, .int .i64 0] 40))
                    have f0 : (wr.alloc (.cells #[.int .i64 (l : Int), .int .i64 (r : Int), .int .i64 X2, .int .i64 X3, .int .i64 0] 40)).cell? ⟨wr.heap.size, 0, none⟩ = some (.int .i64 (l : Int)) := by simp [go_sem]
                    have f1 : (wr.alloc (.cells #[.int .i64 (l : Int), .int .i64 (r : Int), .int .i64 X2, .int .i64 X3, .int .i64 0] 40)).cell? ⟨wr.heap.size, 1, none⟩ = some (.int .i64 (r : Int)) := by simp [go_sem]
                    generalize wr.alloc (.cells #[.int .i64 (l : Int), .int .i64 (r : Int), .int .i64 X2, .int .i64 X3, .int .i64 0] 40) = W at *
                    obtain ⟨ca, fa, sta⟩ := row_cell HLN.out (show l < n by omega) hOA
                    obtain ⟨cb, fb, stb⟩ := row_cell (by rw [bump_length]; exact HLN.out) (show r < n by omega) (show OwI w.heap.size (W.setCell ⟨w.heap.size, l, none⟩ (.int .i64 (C.getD l 0 + 1))) (.slice (some ⟨w.heap.size, 0, none⟩) n n) (bump C l) from sta _)
                    have ba := HBD.out l
                    have bb := bump_bd HBD.out l r
                    have hst := Lib.hid (show OwI w.heap.size ((W.setCell ⟨w.heap.size, l, none⟩ (.int .i64 (C.getD l 0 + 1))).setCell ⟨w.heap.size, r, none⟩ (.int .i64 ((bump C l).getD r 0 + 1))) (.slice (some ⟨w.heap.size, 0, none⟩) n n) (cntL xs n (k + 1)) by rw [HN.out]; exact stb _)
                    have hkk := Lib.hid (show Kp w ((W.setCell ⟨w.heap.size, l, none⟩ (.int .i64 (C.getD l 0 + 1))).setCell ⟨w.heap.size, r, none⟩ (.int .i64 ((bump C l).getD r 0 + 1))) from (hA.setCell (Nat.le_refl _) _).setCell (Nat.le_refl _) _)
                    obtain ⟨U, eU⟩ : ∃ U, U = C.getD l 0 := ⟨_, rfl⟩
                    rw [← eU] at ca cb fb ba hst hkk
                    obtain ⟨V, eV⟩ : ∃ V, V = (bump C l).getD r 0 := ⟨_, rfl⟩
                    rw [← eV] at cb bb hst hkk
                    have i0 : (0 : Int) ≤ (l : Int) := by omega
                    have i1 : (l : Int) < (n : Int) := by omega
                    have j0 : (0 : Int) ≤ (r : Int) := by omega
                    have j1 : (r : Int) < (n : Int) := by omega
                    have hne : w.heap.size ≠ wr.heap.size := by omega
                    clear sta stb eU eV hOA hA b1 b2
                    have q1 : IntKind.i64.wrap (U + 1) = U + 1 := IntWalk.i64_in _ (by omega)
                    have q2 : IntKind.i64.wrap (V + 1) = V + 1 := IntWalk.i64_in _ (by omega)
                    have cb2 : (W.drew.setCell ⟨w.heap.size, l, none⟩ (.int .i64 (U + 1))).cell? ⟨w.heap.size, r, none⟩ = some (.int .i64 V) := cb
                    have fb2 : (W.drew.setCell ⟨w.heap.size, l, none⟩ (.int .i64 (U + 1))).frozen? ⟨w.heap.size, r, none⟩ = false := fb
                    have f2 : (W.drew.setCell ⟨w.heap.size, l, none⟩ (.int .i64 (U + 1))).cell? ⟨wr.heap.size, 1, none⟩ = some (.int .i64 (r : Int)) := by
                      rw [World.cell?_setCell_other _ _ _ _ (by first | (simp; done) | (simp; omega))]; exact f1
                    go_region
                    go_upto_region 15 with fail
                    go_region
                    clear q1 q2
                    go_wp2_with fail
                    go_roundw
                    case rel => exact ⟨k + 1, by omega, by go_num, HOK.out HPT.out, by first | exact hst.out | exact hst.out.kp (by (repeat (with_reducible first | exact Kp.refl _ | assumption | refine Kp.drew ?_ | refine Kp.drewN ?_ _ | refine Kp.alloc ?_ _ | refine Kp.setCell ?_ (by first | (simp; done) | (simp; omega) | (dsimp only; omega)) _ | refine Kp.trans ?_ (by assumption)))), by have := hkk.out; (repeat (with_reducible first | exact Kp.refl _ | assumption | refine Kp.drew ?_ | refine Kp.drewN ?_ _ | refine Kp.alloc ?_ _ | refine Kp.setCell ?_ (by first | (simp; done) | (simp; omega) | (dsimp only; omega)) _ | refine Kp.trans ?_ (by assumption)))⟩
                    case measure => simp [intOf]; omega
                  · have HF := Lib.hid (HP.out.resolve_left (by simp [partB, armB, hleaf, a5]))
                    (go_wp2_with (go_at_call 29; refine (l01In_any _ _ _ _).mono ?_; rintro e w' ⟨rfl, rfl⟩; first | rw [HX1.out] | rw [HA1.out] | rw [HA2.out] | rw [HA3.out] | rw [HA4.out]); go_ret; exact ⟨ret_bool HF.out.symm, by have := HKP.out; (repeat (with_reducible first | exact Kp.refl _ | assumption | refine Kp.drew ?_ | refine Kp.drewN ?_ _ | refine Kp.alloc ?_ _ | refine Kp.setCell ?_ (by first | (simp; done) | (simp; omega) | (dsimp only; omega)) _ | refine Kp.trans ?_ (by assumption)))⟩)
                · have HA4 := Lib.hid (show inB X3 1 20 = false by simpa using a4)
                  have HF := Lib.hid (HP.out.resolve_left (by simp [partB, armB, hleaf, HA4.out]))
                  clear a4
                  (go_wp2_with (go_at_call 29; refine (l01In_any _ _ _ _).mono ?_; rintro e w' ⟨rfl, rfl⟩; first | rw [HX1.out] | rw [HA1.out] | rw [HA2.out] | rw [HA3.out] | rw [HA4.out]); go_ret; exact ⟨ret_bool HF.out.symm, by have := HKP.out; (repeat (with_reducible first | exact Kp.refl _ | assumption | refine Kp.drew ?_ | refine Kp.drewN ?_ _ | refine Kp.alloc ?_ _ | refine Kp.setCell ?_ (by first | (simp; done) | (simp; omega) | (dsimp only; omega)) _ | refine Kp.trans ?_ (by assumption)))⟩)
              · have HA3 := Lib.hid (show inB X2 1 20 = false by simpa using a3)
                have HF := Lib.hid (HP.out.resolve_left (by simp [partB, armB, hleaf, HA3.out]))
                clear a3
                (go_wp2_with (go_at_call 29; refine (l01In_any _ _ _ _).mono ?_; rintro e w' ⟨rfl, rfl⟩; first | rw [HX1.out] | rw [HA1.out] | rw [HA2.out] | rw [HA3.out] | rw [HA4.out]); go_ret; exact ⟨ret_bool HF.out.symm, by have := HKP.out; (repeat (with_reducible first | exact Kp.refl _ | assumption | refine Kp.drew ?_ | refine Kp.drewN ?_ _ | refine Kp.alloc ?_ _ | refine Kp.setCell ?_ (by first | (simp; done) | (simp; omega) | (dsimp only; omega)) _ | refine Kp.trans ?_ (by assumption)))⟩)
            · have HA2 := Lib.hid (show inB X1 ((k : Int) + 1) ((n : Int) - 1) = false by simpa using a2)
              have HF := Lib.hid (HP.out.resolve_left (by simp [partB, armB, hleaf, HA2.out]))
              clear a2
              (go_wp2_with (go_at_call 29; refine (l01In_any _ _ _ _).mono ?_; rintro e w' ⟨rfl, rfl⟩; first | rw [HX1.out] | rw [HA1.out] | rw [HA2.out] | rw [HA3.out] | rw [HA4.out]); go_ret; exact ⟨ret_bool HF.out.symm, by have := HKP.out; (repeat (with_reducible first | exact Kp.refl _ | assumption | refine Kp.drew ?_ | refine Kp.drewN ?_ _ | refine Kp.alloc ?_ _ | refine Kp.setCell ?_ (by first | (simp; done) | (simp; omega) | (dsimp only; omega)) _ | refine Kp.trans ?_ (by assumption)))⟩)
          · have HA1 := Lib.hid (show inB X0 ((k : Int) + 1) ((n : Int) - 1) = false by simpa using a1)
            have HF := Lib.hid (HP.out.resolve_left (by simp [partB, armB, hleaf, HA1.out]))
            clear a1
            (go_wp2_with (go_at_call 29; refine (l01In_any _ _ _ _).mono ?_; rintro e w' ⟨rfl, rfl⟩; first | rw [HX1.out] | rw [HA1.out] | rw [HA2.out] | rw [HA3.out] | rw [HA4.out]); go_ret; exact ⟨ret_bool HF.out.symm, by have := HKP.out; (repeat (with_reducible first | exact Kp.refl _ | assumption | refine Kp.drew ?_ | refine Kp.drewN ?_ _ | refine Kp.alloc ?_ _ | refine Kp.setCell ?_ (by first | (simp; done) | (simp; omega) | (dsimp only; omega)) _ | refine Kp.trans ?_ (by assumption)))⟩)
      · obtain rfl : k = n := by omega
        have hlen := cntL_length xs k k
        have hall := mobB_yes HL.out HB.out hok
        obtain ⟨C, hCe⟩ : ∃ C, C = cntL xs k k := ⟨_, rfl⟩
        rw [← hCe] at hlen ho hall
        have HO := Lib.hid ho
        have HAL := Lib.hid hall
        have HLN := Lib.hid hlen
        have HKP := Lib.hid hkp
        clear hCe hlen ho hall hok hkp
        by_cases hk1 : k = 1
        · subst hk1
          have HT := Lib.hid (show mobB xs = true by rw [HAL.out]; exact ones_yes (fun j hj => by omega))
          go_wp2_with fail
          refine wp_loop_rounds 1 ?_
          rw [rounds_succ]
          go_wp2_with fail
          go_ret
          exact ⟨ret_bool HT.out.symm, HKP.out⟩
        · obtain ⟨M, rfl⟩ : ∃ M, k = M + 1 := ⟨k - 1, by omega⟩
          have hM1 : 1 ≤ M := by omega
          go_wp2_with fail
          go_loopw [7] (fun i w' => ∃ j : Nat, j ≤ M ∧ i = .int .i64 (1 + (j : Int)) ∧ (∀ i, i < j → C.getD (1 + i) 0 = 1) ∧ Kp wr w') (fun i _ => M + 1 - (intOf i).toNat)
          case atStart => exact ⟨0, by omega, rfl, fun i hi => by omega, Kp.refl _⟩
          case round =>
            obtain ⟨j, hj, rfl, hones, hkw⟩ := hrel
            have HON := Lib.hid hones
            clear hones
            by_cases hjl : j < M
            · have cx := (row_cell HLN.out (show 1 + j < M + 1 by omega) (HO.out.kp hkw)).1
              obtain ⟨V, eV⟩ : ∃ V, V = C.getD (1 + j) 0 := ⟨_, rfl⟩
              rw [← eV] at cx
              have EV := Lib.hid eV
              clear eV
              have i0 : (0 : Int) ≤ 1 + (j : Int) := by omega
              have i1 : 1 + (j : Int) < (M : Int) + 1 := by omega
              by_cases hv : V = 1
              · subst hv
                go_wp2_with fail
                go_roundw
                case rel => exact ⟨j + 1, by omega, by go_num, fun i hi => by
                  rcases Nat.lt_or_ge i j with h | h
                  · exact HON.out i h
                  · obtain rfl : i = j := by omega
                    exact EV.out.symm, by (repeat (with_reducible first | exact Kp.refl _ | assumption | refine Kp.drew ?_ | refine Kp.drewN ?_ _ | refine Kp.alloc ?_ _ | refine Kp.setCell ?_ (by first | (simp; done) | (simp; omega) | (dsimp only; omega)) _ | refine Kp.trans ?_ (by assumption)))⟩
                case measure => simp [intOf]; omega
              · have HF := Lib.hid (show mobB xs = false by rw [HAL.out]; exact ones_not (show 1 + j < M + 1 by omega) (by rw [← EV.out]; exact hv))
                go_wp2_with fail
                go_ret
                exact ⟨ret_bool HF.out.symm, HKP.out.trans (by (repeat (with_reducible first | exact Kp.refl _ | assumption | refine Kp.drew ?_ | refine Kp.drewN ?_ _ | refine Kp.alloc ?_ _ | refine Kp.setCell ?_ (by first | (simp; done) | (simp; omega) | (dsimp only; omega)) _ | refine Kp.trans ?_ (by assumption))))⟩
            · obtain rfl : j = M := by omega
              have HT := Lib.hid (show mobB xs = true by rw [HAL.out]; exact ones_yes (fun i hi => HON.out i (by omega)))
              go_wp2_with fail
              go_ret
              exact ⟨ret_bool HT.out.symm, HKP.out.trans (by (repeat (with_reducible first | exact Kp.refl _ | assumption | refine Kp.drew ?_ | refine Kp.drewN ?_ _ | refine Kp.alloc ?_ _ | refine Kp.setCell ?_ (by first | (simp; done) | (simp; omega) | (dsimp only; omega)) _ | refine Kp.trans ?_ (by assumption))))⟩
  · have HF := Lib.hid (show mobB xs = false by
      rw [mobB, hl]
      simp only [Bool.not_eq_true] at h15
      rw [h15]; rfl)
    have HX1 := Lib.hid (show inB (n : Int) 1 15 = false by simpa using h15)
    have HKP := Lib.hid (Kp.refl w)
    clear h15 hl
    go_enter Try.func11, Try.ntmps11
    (go_wp2_with (go_at_call 29; refine (l01In_any _ _ _ _).mono ?_; rintro e w' ⟨rfl, rfl⟩; first | rw [HX1.out] | rw [HA1.out] | rw [HA2.out] | rw [HA3.out] | rw [HA4.out]); go_ret; exact ⟨ret_bool HF.out.symm, by have := HKP.out; (repeat (with_reducible first | exact Kp.refl _ | assumption | refine Kp.drew ?_ | refine Kp.drewN ?_ _ | refine Kp.alloc ?_ _ | refine Kp.setCell ?_ (by first | (simp; done) | (simp; omega) | (dsimp only; omega)) _ | refine Kp.trans ?_ (by assumption)))⟩)
end Go.Proofs.Ytajdppfngnpklaa
