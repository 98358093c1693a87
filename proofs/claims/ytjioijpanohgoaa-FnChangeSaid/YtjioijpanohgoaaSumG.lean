/- Sums of a short list: contracts; the first amount for which greedy change is bad: the plain words. -/
import Derived.Test.YtjioijpanohgoaaGreedyC
set_option linter.unusedVariables false
namespace Go.Proofs.Ytjioijpanohgoaa
open Go.RowKit

def sumK (xs : List Int) : Nat → Int
  | 0 => 0
  | k + 1 => sumK xs k + xs.getD k 0
theorem sumK_bd {xs : List Int} (hp : allB 0 1000 xs = true) (k : Nat) (hk : k ≤ xs.length) : 0 ≤ sumK xs k ∧ sumK xs k ≤ 1000 * (k : Int) := by
  induction k with
  | zero => simp [sumK]
  | succ k ih =>
    have h1 := ih (by omega)
    have h2 := allB_iff.1 hp k (by omega)
    rw [sumK]
    omega
theorem iSum_any (A : Option Addr) (n c : Nat) (xs : List Int) (w : World) (hl : xs.length = n) (hn : n ≤ 6) (hp : allB 0 1000 xs = true) (hr : Reads w w.heap.size 1 A n (xs.map (.int .i64))) :
    Calls Try.prog 36 #[.slice A n c] w fun e w' => e = .returned (.int .i64 (sumK xs n)) ∧ Kp w w' := by
  have HR := Lib.hid hr
  have HP := Lib.hid hp
  have HL := Lib.hid hl
  clear hr hp hl
  go_enter Try.func36, Try.ntmps36
  go_wp2
  go_loopw [3, 8] (fun g i wr => ∃ k : Nat, k ≤ n ∧ i = .int .i64 k ∧ g = .int .i64 (sumK xs k) ∧ Kp w wr) (fun _ i _ => n - (intOf i).toNat)
  case atStart => exact ⟨0, by omega, rfl, rfl, Kp.refl w⟩
  case round =>
    obtain ⟨k, hk, rfl, rfl, hkp⟩ := hrel
    by_cases hlt : k < n
    · have LL := HL.out
      obtain ⟨b, off, u, rfl, hb, hu, hc⟩ := (HR.out.kp hkp).cellOf (k := k) (by omega)
      have cx := hc k _ (get_map (by omega))
      rw [getD_of] at cx
      have g0 := sumK_bd HP.out k (by omega)
      have x0 := allB_iff.1 HP.out k (by omega)
      have GS : sumK xs (k + 1) = sumK xs k + xs.getD k 0 := rfl
      obtain ⟨x, hx⟩ : ∃ x, x = xs.getD k 0 := ⟨_, rfl⟩
      obtain ⟨G, hG⟩ : ∃ G, G = sumK xs k := ⟨_, rfl⟩
      rw [← hx] at cx x0 GS
      rw [← hG] at g0 GS ⊢
      have HGS := Lib.hid GS
      clear hu hc hx hG GS LL
      go_wp2
      go_roundw
      case rel => exact ⟨k + 1, by omega, by go_num, by rw [HGS.out], hkp⟩
      case measure => simp [intOf]; omega
    · obtain rfl : k = n := by omega
      go_wp2
      go_ret
      exact ⟨rfl, hkp⟩
theorem sSum_any (A : Option Addr) (n c : Nat) (xs : List Int) (w : World) (hl : xs.length = n) (hn : n ≤ 6) (hp : allB 0 1000 xs = true) (hr : Reads w w.heap.size 1 A n (xs.map (.int .i64))) :
    Calls Try.prog 32 #[.slice A n c] w fun e w' => e = .returned (.int .i64 (sumK xs n)) ∧ Kp w w' := by
  have HR := Lib.hid hr
  have HP := Lib.hid hp
  have HL := Lib.hid hl
  clear hr hp hl
  go_enter Try.func32, Try.ntmps32
  go_wp2
  go_loopw [3, 4] (fun g i wr => ∃ k : Nat, k ≤ n ∧ i = .int .i64 k ∧ g = .int .i64 (sumK xs k) ∧ Kp w wr) (fun _ i _ => n - (intOf i).toNat)
  case atStart => exact ⟨0, by omega, rfl, rfl, Kp.refl w⟩
  case round =>
    obtain ⟨k, hk, rfl, rfl, hkp⟩ := hrel
    by_cases hlt : k < n
    · have LL := HL.out
      obtain ⟨b, off, u, rfl, hb, hu, hc⟩ := (HR.out.kp hkp).cellOf (k := k) (by omega)
      have cx := hc k _ (get_map (by omega))
      rw [getD_of] at cx
      have g0 := sumK_bd HP.out k (by omega)
      have x0 := allB_iff.1 HP.out k (by omega)
      have GS : sumK xs (k + 1) = sumK xs k + xs.getD k 0 := rfl
      obtain ⟨x, hx⟩ : ∃ x, x = xs.getD k 0 := ⟨_, rfl⟩
      obtain ⟨G, hG⟩ : ∃ G, G = sumK xs k := ⟨_, rfl⟩
      rw [← hx] at cx x0 GS
      rw [← hG] at g0 GS ⊢
      have HGS := Lib.hid GS
      clear hu hc hx hG GS LL
      go_wp2
      go_roundw
      case rel => exact ⟨k + 1, by omega, by go_num, by rw [HGS.out], hkp⟩
      case measure => simp [intOf]; omega
    · obtain rfl : k = n := by omega
      go_wp2
      go_ret
      exact ⟨rfl, hkp⟩
theorem sum_row {F : Nat} (h : ∀ (A : Option Addr) (n c : Nat) (xs : List Int) (w : World), xs.length = n → n ≤ 6 → allB 0 1000 xs = true → Reads w w.heap.size 1 A n (xs.map (.int .i64)) →
    Calls Try.prog F #[.slice A n c] w fun e w' => e = .returned (.int .i64 (sumK xs n)) ∧ Kp w w') (len : Nat) (h6 : len ≤ 6) (G : List Int) (hl : G.length = len) (hp : allB 0 1000 G = true)
    (W : World) (B : Nat) (v : Value) (ho : OwI B W v G) : Calls Try.prog F #[v] W fun e w' => e = .returned (.int .i64 (sumK G len)) ∧ Kp W w' := by
  obtain ⟨A, c, rfl, hr⟩ := ho.rd
  rw [hl] at hr ⊢
  exact h A len c G W hl h6 hp hr
/-- What greedy change costs. -/
def gcost (xs : List Int) (n : Nat) : Int := sumK (greedyL xs (n : Int)) xs.length
def fgbM (xs : List Int) (m : Nat) : Int := match (List.range m).find? (fun i => gcost xs (i + 1) != fw xs (i + 1)) with
  | some i => ((i + 1 : Nat) : Int)
  | none => -1
theorem fgbM_hit {xs : List Int} {m n : Nat} (h1 : 1 ≤ n) (h2 : n ≤ m) (h : ∀ j, 1 ≤ j → j < n → gcost xs j = fw xs j) (hn : gcost xs n ≠ fw xs n) : fgbM xs m = (n : Int) := by
  have e : (List.range m).find? (fun i => gcost xs (i + 1) != fw xs (i + 1)) = some (n - 1) := by
    rw [List.find?_range_eq_some]
    refine ⟨?_, by rw [List.mem_range]; omega, fun j hj => ?_⟩
    · rw [show n - 1 + 1 = n by omega]; simpa using hn
    · simp [h (j + 1) (by omega) (by omega)]
  rw [fgbM, e]
  show ((n - 1 + 1 : Nat) : Int) = n
  omega
theorem fgbM_miss {xs : List Int} {m : Nat} (h : ∀ j, 1 ≤ j → j < m + 1 → gcost xs j = fw xs j) : fgbM xs m = -1 := by
  have e : (List.range m).find? (fun i => gcost xs (i + 1) != fw xs (i + 1)) = none := by
    rw [List.find?_range_eq_none]
    intro i hi
    simp [h (i + 1) (by omega) (by omega)]
  rw [fgbM, e]
theorem fgbM_bd (xs : List Int) (m : Nat) : fgbM xs m = -1 ∨ (1 ≤ fgbM xs m ∧ fgbM xs m ≤ m) := by
  unfold fgbM
  cases h : (List.range m).find? (fun i => gcost xs (i + 1) != fw xs (i + 1)) with
  | none => exact .inl rfl
  | some i =>
    have := List.mem_of_find?_eq_some h
    rw [List.mem_range] at this
    right
    show 1 ≤ ((i + 1 : Nat) : Int) ∧ ((i + 1 : Nat) : Int) ≤ m
    omega
theorem greedy_small {xs : List Int} (hp : allB 1 100 xs = true) {n : Int} (hn : inB n 0 1000 = true) : allB 0 1000 (greedyL xs n) = true := by
  have hb := inB_true.1 hn
  rw [allB_iff]
  intro j hj
  rw [greedyL_length] at hj
  rw [greedyL_getD hj]
  have h1 := grem_bd hp hb.1 (xs.length - 1 - j) (by omega)
  have h2 := allB_iff.1 hp j hj
  have h3 := Int.ediv_nonneg h1.1 (show 0 ≤ xs.getD j 0 by omega)
  have h4 := Int.ediv_le_self (xs.getD j 0) h1.1
  omega
def mostN (xs : List Int) : Nat := if xs.length = 1 then 1 else (xs.getD (xs.length - 1) 0 + xs.getD (xs.length - 2) 0).toNat
theorem mostN_bd {xs : List Int} (h : sysB xs = true) : 1 ≤ mostN xs ∧ mostN xs ≤ 200 := by
  obtain ⟨ha, hs, hl, h1⟩ := sysB_bd h
  have g1 := allB_iff.1 ha (xs.length - 1) (by omega)
  have g2 := allB_iff.1 ha (xs.length - 2) (by omega)
  unfold mostN
  split <;> omega
def fgb (xs : List Int) : Int := if sysB xs = true then fgbM xs (mostN xs) else -1
theorem fgb_one {xs : List Int} (h : sysB xs = true) (h1 : xs.length = 1) : fgb xs = -1 := by
  obtain ⟨x, rfl⟩ : ∃ x, xs = [x] := List.length_eq_one_iff.1 h1
  have h2 := (sysB_bd h).2.2.2
  simp at h2
  subst h2
  decide
end Go.Proofs.Ytjioijpanohgoaa
