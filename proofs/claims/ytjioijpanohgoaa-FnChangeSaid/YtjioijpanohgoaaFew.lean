/- Fewest coins: the plain words, and the contract of the program's table. -/
import Derived.Test.YtjioijpanohgoaaSys
import Derived.Deep.DeepCutAuto
set_option linter.unusedVariables false
namespace Go.Proofs.Ytjioijpanohgoaa
open Go.RowKit

theorem OwI.cells {B : Nat} {w : World} {v : Value} {xs : List Int} (h : OwI B w v xs) (h0 : 0 < xs.length) :
    ∃ g cap, v = .slice (some ⟨g, 0, none⟩) xs.length cap ∧ xs.length ≤ cap ∧ cap ≤ 9223372036854775807 ∧ B ≤ g ∧ g < w.heap.size ∧ ∀ j, j < xs.length → w.cell? ⟨g, j, none⟩ = some (.int .i64 (xs.getD j 0)) := by
  obtain ⟨g, cap, rfl, hb, hg⟩ := h.form h0
  have hc : xs.length ≤ cap ∧ cap ≤ 9223372036854775807 := by
    rcases h.2 with ⟨e, _⟩ | ⟨g', cap', cur, e, _, _, h1, h2, _⟩
    · cases e
    · cases e; exact ⟨h1, by unfold maxLen at h2; omega⟩
  refine ⟨g, cap, rfl, hc.1, hc.2, hb, hg, fun j hj => ?_⟩
  rw [World.ownsRow.cellAt h j (by omega), get_map hj, getD_of]
theorem map_set (l : List Int) (d : Nat) (e : Int) : (l.map (Value.int .i64)).set d (.int .i64 e) = (l.set d e).map (Value.int .i64) := by rw [List.map_set]
theorem set_getD_same {l : List Int} {d : Nat} {e : Int} (h : d < l.length) : (l.set d e).getD d 0 = e := by
  rw [List.getD_eq_getElem?_getD, List.getElem?_set]; simp [h]
theorem set_getD_other {l : List Int} {d j : Nat} {e : Int} (h : j ≠ d) : (l.set d e).getD j 0 = l.getD j 0 := by
  rw [List.getD_eq_getElem?_getD, List.getElem?_set, if_neg (by omega), ← List.getD_eq_getElem?_getD]

def fwG (f : Nat → Int) (xs : List Int) (a : Nat) : Nat → Int
  | 0 => f (a - 1) + 1
  | k + 1 => if xs.getD k 0 ≤ (a : Int) then min (fwG f xs a k) (f (a - (xs.getD k 0).toNat) + 1) else fwG f xs a k
def fwT (xs : List Int) : Nat → List Int
  | 0 => [0]
  | n + 1 => fwT xs n ++ [fwG (fun j => (fwT xs n).getD j 0) xs (n + 1) xs.length]
/-- The least number of coins for an amount. -/
def fw (xs : List Int) (n : Nat) : Int := (fwT xs n).getD n 0
theorem fwT_length (xs : List Int) (n : Nat) : (fwT xs n).length = n + 1 := by
  induction n with
  | zero => rfl
  | succ n ih => rw [fwT, List.length_append, ih]; rfl
theorem fwT_getD (xs : List Int) (n j : Nat) (h : j ≤ n) : (fwT xs n).getD j 0 = fw xs j := by
  induction n with
  | zero => obtain rfl : j = 0 := by omega
            rfl
  | succ n ih =>
    rcases Nat.lt_or_ge n j with h1 | h1
    · obtain rfl : j = n + 1 := by omega
      rfl
    · rw [fwT, List.getD_eq_getElem?_getD, List.getElem?_append_left (by rw [fwT_length]; omega), ← List.getD_eq_getElem?_getD]
      exact ih h1
theorem fw_zero (xs : List Int) : fw xs 0 = 0 := rfl
theorem fwG_congr {f g : Nat → Int} {xs : List Int} (hp : allB 1 100 xs = true) {a : Nat} (ha : 1 ≤ a) (h : ∀ j, j < a → f j = g j) : ∀ k, k ≤ xs.length → fwG f xs a k = fwG g xs a k := by
  intro k
  induction k with
  | zero => intro _; rw [fwG, fwG, h _ (by omega)]
  | succ k ih =>
    intro hk
    have := allB_iff.1 hp k (by omega)
    rw [fwG, fwG, ih (by omega), h (a - (xs.getD k 0).toNat) (by omega)]
theorem fw_succ {xs : List Int} (hp : allB 1 100 xs = true) (n : Nat) : fw xs (n + 1) = fwG (fw xs) xs (n + 1) xs.length := by
  rw [← fwG_congr hp (by omega) (fun j hj => fwT_getD xs n j (by omega)) _ (Nat.le_refl _)]
  unfold fw
  rw [fwT, List.getD_eq_getElem?_getD, List.getElem?_append_right (by rw [fwT_length]; omega), fwT_length, Nat.sub_self]
  rfl
theorem fwG_bd {f : Nat → Int} {xs : List Int} (hp : allB 1 100 xs = true) {a : Nat} (ha : 1 ≤ a) (h : ∀ j, j < a → 0 ≤ f j ∧ f j ≤ j) : ∀ k, k ≤ xs.length → 1 ≤ fwG f xs a k ∧ fwG f xs a k ≤ a := by
  intro k
  induction k with
  | zero => intro _; have := h (a - 1) (by omega); rw [fwG]; omega
  | succ k ih =>
    intro hk
    have h1 := allB_iff.1 hp k (by omega)
    have h2 := ih (by omega)
    have h3 := h (a - (xs.getD k 0).toNat) (by omega)
    rw [fwG]
    split
    · omega
    · exact h2
theorem fw_bd {xs : List Int} (hp : allB 1 100 xs = true) (n : Nat) : 0 ≤ fw xs n ∧ fw xs n ≤ n := by
  induction n using Nat.strongRecOn with
  | _ n ih =>
    rcases Nat.eq_zero_or_pos n with h | h
    · subst h; exact ⟨by rw [fw_zero]; omega, by rw [fw_zero]; omega⟩
    · obtain ⟨m, rfl⟩ : ∃ m, n = m + 1 := ⟨n - 1, by omega⟩
      rw [fw_succ hp]
      have := fwG_bd hp (by omega) ih _ (Nat.le_refl _)
      omega
def FwRow (xs : List Int) (a : Nat) (M : Nat) (L : List Int) : Prop := L.length = M ∧ ∀ j, j < a → L.getD j 0 = fw xs j
theorem fwRow_start (xs : List Int) (M : Nat) : FwRow xs 1 M (List.replicate M 0) := by
  refine ⟨by simp, fun j hj => ?_⟩
  obtain rfl : j = 0 := by omega
  rw [fw_zero, List.getD_eq_getElem?_getD, List.getElem?_replicate]
  split <;> rfl
theorem FwRow.set {xs : List Int} {a M : Nat} {L : List Int} (h : FwRow xs a M L) (e : Int) (ha : a < M) : FwRow xs a M (L.set a e) ∧ (L.set a e).getD a 0 = e :=
  ⟨⟨by rw [List.length_set]; exact h.1, fun j hj => by rw [set_getD_other (by omega)]; exact h.2 j hj⟩, set_getD_same (by rw [h.1]; exact ha)⟩
theorem FwRow.next {xs : List Int} {a M : Nat} {L : List Int} (hp : allB 1 100 xs = true) (ha : 1 ≤ a) (h : FwRow xs a M L) (hv : L.getD a 0 = fwG (fw xs) xs a xs.length) : FwRow xs (a + 1) M L := by
  refine ⟨h.1, fun j hj => ?_⟩
  rcases Nat.lt_or_ge j a with h1 | h1
  · exact h.2 j h1
  · obtain rfl : j = a := by omega
    obtain ⟨m, rfl⟩ : ∃ m, j = m + 1 := ⟨j - 1, by omega⟩
    rw [fw_succ hp, hv]
theorem fwG_one {f : Nat → Int} {xs : List Int} (h1 : xs.getD 0 0 = 1) {a : Nat} (ha : 1 ≤ a) : fwG f xs a 1 = f (a - 1) + 1 := by
  rw [fwG, fwG, h1, if_pos (by omega)]
  exact Int.min_self _
theorem fwG_stop {f : Nat → Int} {xs : List Int} {a : Nat} (hs : ascB xs = true) {k : Nat} (hk : k ≤ xs.length) (h : k < xs.length → (a : Int) < xs.getD k 0) : ∀ n, k ≤ n → n ≤ xs.length → fwG f xs a n = fwG f xs a k := by
  intro n
  induction n with
  | zero => intro h1 _; obtain rfl : k = 0 := by omega
            rfl
  | succ n ih =>
    intro h1 h2
    rcases Nat.lt_or_ge n k with h3 | h3
    · obtain rfl : k = n + 1 := by omega
      rfl
    · rw [fwG, if_neg, ih h3 (by omega)]
      have hm : ∀ m, k ≤ m → m < xs.length → xs.getD k 0 ≤ xs.getD m 0 := by
        intro m
        induction m with
        | zero => intro q _; obtain rfl : k = 0 := by omega
                  exact Int.le_refl _
        | succ m ihm =>
          intro q1 q2
          rcases Nat.lt_or_ge m k with q | q
          · obtain rfl : k = m + 1 := by omega
            exact Int.le_refl _
          · have := ascB_iff.1 hs m (by omega)
            have := ihm q (by omega)
            omega
      have := hm n h3 (by omega)
      have := h (by omega)
      omega
set_option maxHeartbeats 1600000 in
theorem iFewest_any (A : Option Addr) (len c : Nat) (xs : List Int) (N : Nat) (w : World) (hl : xs.length = len) (hsys : sysB xs = true) (hN : N ≤ 1000) (hr : Reads w w.heap.size 1 A len (xs.map (.int .i64))) :
    Calls Try.prog 29 #[.slice A len c, .int .i64 (N : Int)] w fun e w' => ∃ v L, e = .returned v ∧ OwI w.heap.size w' v L ∧ FwRow xs (N + 1) (N + 1) L ∧ Kp w w' := by
  have HR := Lib.hid hr
  obtain ⟨ha, hs, b2, hone⟩ := sysB_bd hsys
  have HA := Lib.hid ha
  rw [hl] at b2
  have HL := Lib.hid hl
  clear ha hs hone hl hr hsys
  obtain ⟨i0, hi, hz0, hz1, hz2⟩ := info_parts int_info
  obtain ⟨M, hM⟩ : ∃ M, M = N + 1 := ⟨_, rfl⟩
  rw [← hM]
  have hM1 : N + 1 ≤ M := by omega
  have hM2 : M ≤ N + 1 := by omega
  have HM := Lib.hid hM
  clear hM
  go_enter Try.func29, Try.ntmps29
  go_wp2_with (at_make; refine wpList_make_full _ rfl _ _ 22 rfl w.heap.size 3 i0 (.int .i64 0) 1 Try.underlying22 hi hz0 hz1 .i64 .i64 _ _ M rfl rfl (by omega) (by omega) (by rw [hz2]; omega) (by unfold maxLen; omega) (Nat.le_refl _) ?_; intro w2 hown2 hgrow2; have hk2 := (Kp.refl w).grown hgrow2 (by simp); rw [show (Value.int .i64 0).cells = #[.int .i64 0] from rfl, toList_madeCells_one, Nat.mul_one] at hown2; have HO2 := Lib.hid hown2; clear hgrow2 hown2)
  go_loopw [6] (fun i wr => ∃ a : Nat, 1 ≤ a ∧ a ≤ M ∧ i = .int .i64 a ∧ (∃ L, FwRow xs a M L ∧ wr.ownsRow w.heap.size 3 1 (.slice (some ⟨w.heap.size, 0, none⟩) M M) M (L.map (Value.int .i64))) ∧ Kp w wr)
    (fun i _ => M + 1 - (intOf i).toNat)
  case atStart => exact ⟨1, by omega, by omega, rfl, ⟨_, fwRow_start xs M, by simpa using HO2.out⟩, hk2⟩
  case round =>
    obtain ⟨a, ha1, ha, rfl, ⟨L, hrow, hown⟩, hkp⟩ := hrel
    by_cases hlt : a < M
    · have hP := fw_bd HA.out (a - 1)
      have e1 := hrow.2 (a - 1) (by omega)
      obtain ⟨P, eP⟩ : ∃ P, P = fw xs (a - 1) := ⟨_, rfl⟩
      rw [← eP] at hP e1
      have cp : wr.cell? ⟨w.heap.size, a - 1, none⟩ = some (.int .i64 P) := by
        rw [hown.cellAt (a - 1) (by omega), get_map (by rw [hrow.1]; omega), getD_of, e1]
      have cg : wr.cell? ⟨w.heap.size, a, none⟩ = some (.int .i64 (L.getD a 0)) := by
        rw [hown.cellAt a (by omega), get_map (by rw [hrow.1]; omega), getD_of]
      have fg := hown.frozenAt a
      have hsto := (hown.stored a (.int .i64 (P + 1))).1
      rw [map_set] at hsto
      have hset := hrow.set (P + 1) hlt
      have HS := Lib.hid hsto
      have HSET := Lib.hid hset
      have EP := Lib.hid eP
      obtain ⟨G, eG⟩ : ∃ G, G = L.getD a 0 := ⟨_, rfl⟩
      rw [← eG] at cg
      clear hsto hset eP e1 hrow hown eG
      have i1 : ((a : Int) - 1).toNat = a - 1 := by omega
      have i2 : (0 : Int) ≤ (a : Int) - 1 := by omega
      have i3 : (a : Int) - 1 < (M : Int) := by omega
      have i4 : (a : Int) ≤ (N : Int) := by omega
      have i5 : (a : Int) < (M : Int) := by omega
      go_wp2
      obtain ⟨wo, rfl⟩ : ∃ wo : World, wo = wr := ⟨_, rfl⟩
      go_loopw [28] (fun j wr => ∃ k : Nat, k ≤ len ∧ j = .int .i64 k ∧ (∃ L, FwRow xs a M L ∧ L.getD a 0 = fwG (fw xs) xs a k ∧ wr.ownsRow w.heap.size 3 1 (.slice (some ⟨w.heap.size, 0, none⟩) M M) M (L.map (Value.int .i64))) ∧ Kp w wr)
        (fun j _ => len + 1 - (intOf j).toNat)
      case atStart => exact ⟨0, by omega, rfl, ⟨_, HSET.out.1, by rw [HSET.out.2, fwG, EP.out], HS.out⟩, by (repeat (with_reducible first | exact Kp.refl _ | assumption | refine Kp.drew ?_ | refine Kp.drewN ?_ _ | refine Kp.alloc ?_ _ | refine Kp.setCell ?_ (by first | (simp; done) | (simp; omega) | (dsimp only; omega)) _ | refine Kp.trans ?_ (by assumption)))⟩
      case round =>
        obtain ⟨k, hk, rfl, ⟨L, hrow, hval, hown⟩, hkq⟩ := hrel
        by_cases hkl : k < len
        · have LL := HL.out
          obtain ⟨b', off', u', eA, hb', hu', hc'⟩ := (HR.out.kp hkq).cellOf (k := k) (by omega)
          subst eA
          have cy := hc' k _ (get_map (by omega))
          rw [getD_of] at cy
          have y0 := allB_iff.1 HA.out k (by omega)
          have AS : fwG (fw xs) xs a (k + 1) = if xs.getD k 0 ≤ (a : Int) then min (fwG (fw xs) xs a k) (fw xs (a - (xs.getD k 0).toNat) + 1) else fwG (fw xs) xs a k := by rw [fwG]
          have GB := fwG_bd HA.out ha1 (fun j _ => fw_bd HA.out j) k (by omega)
          obtain ⟨y, hy⟩ : ∃ y, y = xs.getD k 0 := ⟨_, rfl⟩
          rw [← hy] at cy y0 AS
          obtain ⟨C, rfl⟩ : ∃ C : Nat, y = (C : Int) := ⟨y.toNat, by omega⟩
          rw [Int.toNat_natCast] at AS
          clear hy hu' hc' LL
          by_cases hCa : C ≤ a
          · rw [if_pos (by omega)] at AS
            have FB := fw_bd HA.out (a - C)
            have e2 := hrow.2 (a - C) (by omega)
            obtain ⟨F, eF⟩ : ∃ F, F = fw xs (a - C) := ⟨_, rfl⟩
            obtain ⟨E, eE⟩ : ∃ E, E = fwG (fw xs) xs a k := ⟨_, rfl⟩
            rw [← eF] at AS FB e2
            rw [← eE] at AS GB hval
            have cf : wr.cell? ⟨w.heap.size, a - C, none⟩ = some (.int .i64 F) := by
              rw [hown.cellAt (a - C) (by omega), get_map (by rw [hrow.1]; omega), getD_of, e2]
            have ce : wr.cell? ⟨w.heap.size, a, none⟩ = some (.int .i64 E) := by
              rw [hown.cellAt a (by omega), get_map (by rw [hrow.1]; omega), getD_of, hval]
            have fg := hown.frozenAt a
            have hsto := (hown.stored a (.int .i64 (if F + 1 < E then F + 1 else E))).1
            have MN : min E (F + 1) = if F + 1 < E then F + 1 else E := by split <;> omega
            rw [MN] at AS
            clear MN
            rw [map_set] at hsto
            have hset := hrow.set (if F + 1 < E then F + 1 else E) hlt
            have HS2 := Lib.hid (hset.2.trans AS.symm)
            have HS := Lib.hid hsto
            have HSET := Lib.hid hset
            clear hsto hset eF e2 hrow hown hval eE AS
            have j1 : ((a : Int) - (C : Int)).toNat = a - C := by omega
            have j2 : (0 : Int) ≤ (a : Int) - (C : Int) := by omega
            have j3 : (a : Int) - (C : Int) < (M : Int) := by omega
            have j4 : (C : Int) ≤ (a : Int) := by omega
            go_upto_region 10 with fail
            have q1 : IntKind.i64.wrap ((a : Int) - (C : Int)) = (a : Int) - (C : Int) := IntWalk.i64_in _ (by omega)
            have q2 : IntKind.i64.wrap (F + 1) = F + 1 := IntWalk.i64_in _ (by omega)
            go_region
            clear q1 q2
            go_wp2
            go_roundw
            case rel => exact ⟨k + 1, by omega, by go_num, ⟨_, HSET.out.1, HS2.out, HS.out⟩, by (repeat (with_reducible first | exact Kp.refl _ | assumption | refine Kp.drew ?_ | refine Kp.drewN ?_ _ | refine Kp.alloc ?_ _ | refine Kp.setCell ?_ (by first | (simp; done) | (simp; omega) | (dsimp only; omega)) _ | refine Kp.trans ?_ (by assumption)))⟩
            case measure => simp [intOf]; omega
          · rw [if_neg (by omega)] at AS
            rw [← AS] at hval
            have HV := Lib.hid hval
            have HO := Lib.hid hown
            have HW := Lib.hid hrow
            clear hval hown hrow AS GB
            have j4 : (a : Int) < (C : Int) := by omega
            go_wp2
            go_roundw
            case rel => exact ⟨k + 1, by omega, by go_num, ⟨_, HW.out, HV.out, HO.out⟩, hkq⟩
            case measure => simp [intOf]; omega
        · obtain rfl : k = len := by omega
          have HO := Lib.hid hown
          have hf : FwRow xs (a + 1) M L := ⟨hrow.1, fun j hj => by
            rcases Nat.lt_or_ge j a with h | h
            · exact hrow.2 j h
            · obtain rfl : j = a := by omega
              obtain ⟨m, rfl⟩ : ∃ m, j = m + 1 := ⟨j - 1, by omega⟩
              rw [fw_succ HA.out, hval, HL.out]⟩
          have HF := Lib.hid hf
          clear hown hval hrow hf
          go_wp2
          go_roundw
          case rel => exact ⟨a + 1, by omega, by omega, by go_num, ⟨_, HF.out, HO.out⟩, hkq⟩
          case measure => simp [intOf]; omega
    · obtain rfl : a = M := by omega
      have i1 : (N : Int) < (a : Int) := by omega
      have HO := Lib.hid hown
      have HW := Lib.hid hrow
      clear hown hrow
      go_wp2
      go_ret
      refine ⟨_, _, rfl, ?_, HW.out, hkp⟩
      unfold OwI
      rw [HW.out.1]
      exact HO.out
set_option maxHeartbeats 1600000 in
theorem sFewest_any (A : Option Addr) (len c : Nat) (xs : List Int) (N : Nat) (w : World) (hl : xs.length = len) (hsys : sysB xs = true) (hN : N ≤ 1000) (hr : Reads w w.heap.size 1 A len (xs.map (.int .i64))) :
    Calls Try.prog 26 #[.slice A len c, .int .i64 (N : Int)] w fun e w' => ∃ v L, e = .returned v ∧ OwI w.heap.size w' v L ∧ FwRow xs (N + 1) (N + 1) L ∧ Kp w w' := by
  have HR := Lib.hid hr
  obtain ⟨ha, hs, b2, hone⟩ := sysB_bd hsys
  have HA := Lib.hid ha
  rw [hl] at b2
  have HL := Lib.hid hl
  have HS0 := Lib.hid hs
  have HONE := Lib.hid hone
  clear ha hs hone hl hr hsys
  obtain ⟨i0, hi, hz0, hz1, hz2⟩ := info_parts int_info
  obtain ⟨M, hM⟩ : ∃ M, M = N + 1 := ⟨_, rfl⟩
  rw [← hM]
  have hM1 : N + 1 ≤ M := by omega
  have hM2 : M ≤ N + 1 := by omega
  have HM := Lib.hid hM
  clear hM
  go_enter Try.func26, Try.ntmps26
  go_wp2_with (at_make; refine wpList_make_full _ rfl _ _ 22 rfl w.heap.size 3 i0 (.int .i64 0) 1 Try.underlying22 hi hz0 hz1 .i64 .i64 _ _ M rfl rfl (by omega) (by omega) (by rw [hz2]; omega) (by unfold maxLen; omega) (Nat.le_refl _) ?_; intro w2 hown2 hgrow2; have hk2 := (Kp.refl w).grown hgrow2 (by simp); rw [show (Value.int .i64 0).cells = #[.int .i64 0] from rfl, toList_madeCells_one, Nat.mul_one] at hown2; have HO2 := Lib.hid hown2; clear hgrow2 hown2)
  go_loopw [6] (fun i wr => ∃ a : Nat, 1 ≤ a ∧ a ≤ M ∧ i = .int .i64 a ∧ (∃ L, FwRow xs a M L ∧ wr.ownsRow w.heap.size 3 1 (.slice (some ⟨w.heap.size, 0, none⟩) M M) M (L.map (Value.int .i64))) ∧ Kp w wr)
    (fun i _ => M + 1 - (intOf i).toNat)
  case atStart => exact ⟨1, by omega, by omega, rfl, ⟨_, fwRow_start xs M, by simpa using HO2.out⟩, hk2⟩
  case round =>
    obtain ⟨a, ha1, ha, rfl, ⟨L, hrow, hown⟩, hkp⟩ := hrel
    by_cases hlt : a < M
    · have hP := fw_bd HA.out (a - 1)
      have e1 := hrow.2 (a - 1) (by omega)
      obtain ⟨P, eP⟩ : ∃ P, P = fw xs (a - 1) := ⟨_, rfl⟩
      rw [← eP] at hP e1
      have cp : wr.cell? ⟨w.heap.size, a - 1, none⟩ = some (.int .i64 P) := by
        rw [hown.cellAt (a - 1) (by omega), get_map (by rw [hrow.1]; omega), getD_of, e1]
      have cg : wr.cell? ⟨w.heap.size, a, none⟩ = some (.int .i64 (L.getD a 0)) := by
        rw [hown.cellAt a (by omega), get_map (by rw [hrow.1]; omega), getD_of]
      have fg := hown.frozenAt a
      have hsto := (hown.stored a (.int .i64 (P + 1))).1
      rw [map_set] at hsto
      have hset := hrow.set (P + 1) hlt
      have HS := Lib.hid hsto
      have HSET := Lib.hid hset
      have EP := Lib.hid eP
      obtain ⟨G, eG⟩ : ∃ G, G = L.getD a 0 := ⟨_, rfl⟩
      rw [← eG] at cg
      clear hsto hset eP e1 hrow hown eG
      have i1 : ((a : Int) - 1).toNat = a - 1 := by omega
      have i2 : (0 : Int) ≤ (a : Int) - 1 := by omega
      have i3 : (a : Int) - 1 < (M : Int) := by omega
      have i4 : (a : Int) ≤ (N : Int) := by omega
      have i5 : (a : Int) < (M : Int) := by omega
      go_wp2
      obtain ⟨wo, rfl⟩ : ∃ wo : World, wo = wr := ⟨_, rfl⟩
      go_loopw [7] (fun j wr => ∃ k : Nat, 1 ≤ k ∧ k ≤ len ∧ j = .int .i64 k ∧ (∃ L, FwRow xs a M L ∧ L.getD a 0 = fwG (fw xs) xs a k ∧ wr.ownsRow w.heap.size 3 1 (.slice (some ⟨w.heap.size, 0, none⟩) M M) M (L.map (Value.int .i64))) ∧ Kp w wr)
        (fun j _ => len + 1 - (intOf j).toNat)
      case atStart => exact ⟨1, by omega, by omega, rfl, ⟨_, HSET.out.1, by rw [HSET.out.2, fwG_one HONE.out ha1, EP.out], HS.out⟩, by (repeat (with_reducible first | exact Kp.refl _ | assumption | refine Kp.drew ?_ | refine Kp.drewN ?_ _ | refine Kp.alloc ?_ _ | refine Kp.setCell ?_ (by first | (simp; done) | (simp; omega) | (dsimp only; omega)) _ | refine Kp.trans ?_ (by assumption)))⟩
      case round =>
        obtain ⟨k, hk1, hk, rfl, ⟨L, hrow, hval, hown⟩, hkq⟩ := hrel
        by_cases hkl : k < len
        · have LL := HL.out
          obtain ⟨b', off', u', eA, hb', hu', hc'⟩ := (HR.out.kp hkq).cellOf (k := k) (by omega)
          subst eA
          have cy := hc' k _ (get_map (by omega))
          rw [getD_of] at cy
          have y0 := allB_iff.1 HA.out k (by omega)
          have AS : fwG (fw xs) xs a (k + 1) = if xs.getD k 0 ≤ (a : Int) then min (fwG (fw xs) xs a k) (fw xs (a - (xs.getD k 0).toNat) + 1) else fwG (fw xs) xs a k := by rw [fwG]
          have GB := fwG_bd HA.out ha1 (fun j _ => fw_bd HA.out j) k (by omega)
          obtain ⟨y, hy⟩ : ∃ y, y = xs.getD k 0 := ⟨_, rfl⟩
          rw [← hy] at cy y0 AS
          obtain ⟨C, rfl⟩ : ∃ C : Nat, y = (C : Int) := ⟨y.toNat, by omega⟩
          rw [Int.toNat_natCast] at AS
          have HY := Lib.hid hy
          clear hy hu' hc' LL
          by_cases hCa : C ≤ a
          · rw [if_pos (by omega)] at AS
            have FB := fw_bd HA.out (a - C)
            have e2 := hrow.2 (a - C) (by omega)
            obtain ⟨F, eF⟩ : ∃ F, F = fw xs (a - C) := ⟨_, rfl⟩
            obtain ⟨E, eE⟩ : ∃ E, E = fwG (fw xs) xs a k := ⟨_, rfl⟩
            rw [← eF] at AS FB e2
            rw [← eE] at AS GB hval
            have cf : wr.cell? ⟨w.heap.size, a - C, none⟩ = some (.int .i64 F) := by
              rw [hown.cellAt (a - C) (by omega), get_map (by rw [hrow.1]; omega), getD_of, e2]
            have ce : wr.cell? ⟨w.heap.size, a, none⟩ = some (.int .i64 E) := by
              rw [hown.cellAt a (by omega), get_map (by rw [hrow.1]; omega), getD_of, hval]
            have fg := hown.frozenAt a
            have hsto := (hown.stored a (.int .i64 (if F + 1 < E then F + 1 else E))).1
            have MN : min E (F + 1) = if F + 1 < E then F + 1 else E := by split <;> omega
            rw [MN] at AS
            clear MN
            rw [map_set] at hsto
            have hset := hrow.set (if F + 1 < E then F + 1 else E) hlt
            have HS2 := Lib.hid (hset.2.trans AS.symm)
            have HS := Lib.hid hsto
            have HSET := Lib.hid hset
            clear hsto hset eF e2 hrow hown hval eE AS
            have j1 : ((a : Int) - (C : Int)).toNat = a - C := by omega
            have j2 : (0 : Int) ≤ (a : Int) - (C : Int) := by omega
            have j3 : (a : Int) - (C : Int) < (M : Int) := by omega
            have j4 : (C : Int) ≤ (a : Int) := by omega
            go_upto_region 9 with fail
            have q1 : IntKind.i64.wrap ((a : Int) - (C : Int)) = (a : Int) - (C : Int) := IntWalk.i64_in _ (by omega)
            have q2 : IntKind.i64.wrap (F + 1) = F + 1 := IntWalk.i64_in _ (by omega)
            go_region
            clear q1 q2
            go_wp2
            go_roundw
            case rel => exact ⟨k + 1, by omega, by omega, by go_num, ⟨_, HSET.out.1, HS2.out, HS.out⟩, by (repeat (with_reducible first | exact Kp.refl _ | assumption | refine Kp.drew ?_ | refine Kp.drewN ?_ _ | refine Kp.alloc ?_ _ | refine Kp.setCell ?_ (by first | (simp; done) | (simp; omega) | (dsimp only; omega)) _ | refine Kp.trans ?_ (by assumption)))⟩
            case measure => simp [intOf]; omega
          · have hst := fwG_stop (f := fw xs) (a := a) HS0.out (k := k) (by rw [HL.out]; exact hk) (fun h => by rw [← HY.out]; omega) xs.length (by rw [HL.out]; omega) (Nat.le_refl _)
            have HO := Lib.hid hown
            have hf := hrow.next HA.out ha1 (hval.trans hst.symm)
            have HF := Lib.hid hf
            clear hown hval hrow hf hst AS GB
            have j4 : (a : Int) < (C : Int) := by omega
            go_wp2
            go_roundw
            case rel => exact ⟨a + 1, by omega, by omega, by go_num, ⟨_, HF.out, HO.out⟩, hkq⟩
            case measure => simp [intOf]; omega
        · obtain rfl : k = len := by omega
          have HO := Lib.hid hown
          have hf : FwRow xs (a + 1) M L := ⟨hrow.1, fun j hj => by
            rcases Nat.lt_or_ge j a with h | h
            · exact hrow.2 j h
            · obtain rfl : j = a := by omega
              obtain ⟨m, rfl⟩ : ∃ m, j = m + 1 := ⟨j - 1, by omega⟩
              rw [fw_succ HA.out, hval, HL.out]⟩
          have HF := Lib.hid hf
          clear hown hval hrow hf
          go_wp2
          go_roundw
          case rel => exact ⟨a + 1, by omega, by omega, by go_num, ⟨_, HF.out, HO.out⟩, hkq⟩
          case measure => simp [intOf]; omega
    · obtain rfl : a = M := by omega
      have i1 : (N : Int) < (a : Int) := by omega
      have HO := Lib.hid hown
      have HW := Lib.hid hrow
      clear hown hrow
      go_wp2
      go_ret
      refine ⟨_, _, rfl, ?_, HW.out, hkp⟩
      unfold OwI
      rw [HW.out.1]
      exact HO.out
end Go.Proofs.Ytjioijpanohgoaa
