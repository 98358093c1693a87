/- Ascending lists: the plain words, and the contract of isAscending. -/
import Derived.Test.YteojocnjiebdcaaInts
import Derived.Test.YteojocnjiebdcaaKeep
set_option linter.unusedVariables false
namespace Go.Proofs.Yteojocnjiebdcaa
open Go.RowKit

theorem quiet_same {P : Program} {f : FuncId} {args : Array Value} {w : World} {n : Nat} {v : Value}
    (h : Calls P f args (w.drewN n) fun e w' => e = .returned v ∧ w.drewN n = w') : Calls P f args (w.drewN n) fun e w'' => e = .returned v ∧ ∃ m, w'' = w.drewN m :=
  h.mono fun _ _ ⟨he, hm⟩ => ⟨he, n, hm.symm⟩
theorem quiet_add_same {P : Program} {f : FuncId} {args : Array Value} {w : World} {a n : Nat} {v : Value}
    (h : Calls P f args (w.drewN (a + n)) fun e w' => e = .returned v ∧ w.drewN (a + n) = w') :
    Calls P f args (w.drewN (a + n)) fun e w'' => e = .returned v ∧ ∃ m, w'' = w.drewN (a + m) :=
  h.mono fun _ _ ⟨he, hm⟩ => ⟨he, n, hm.symm⟩

/-- Each element is below the next. -/
def ascB (xs : List Int) : Bool := (List.range (xs.length - 1)).all fun j => decide (xs.getD j 0 < xs.getD (j + 1) 0)
theorem ascB_iff {xs : List Int} : ascB xs = true ↔ ∀ j, j + 1 < xs.length → xs.getD j 0 < xs.getD (j + 1) 0 := by
  simp only [ascB, List.all_eq_true, List.mem_range, decide_eq_true_eq]
  exact ⟨fun h j hj => h j (by omega), fun h j hj => h j (by omega)⟩
theorem asc_lt {xs : List Int} (h : ascB xs = true) : ∀ j i, i < j → j < xs.length → xs.getD i 0 < xs.getD j 0 := by
  rw [ascB_iff] at h
  intro j
  induction j with
  | zero => intro i hi; omega
  | succ j ih =>
    intro i hi hj
    rcases Nat.lt_or_ge i j with h1 | h1
    · exact Int.lt_trans (ih i h1 (by omega)) (h j hj)
    · obtain rfl : i = j := by omega
      exact h i hj
/-- Each element lies in the range. -/
def allB (lo hi : Int) (xs : List Int) : Bool := xs.all fun x => inB x lo hi
theorem allB_iff {lo hi : Int} {xs : List Int} : allB lo hi xs = true ↔ ∀ j, j < xs.length → lo ≤ xs.getD j 0 ∧ xs.getD j 0 ≤ hi := by
  simp only [allB, List.all_eq_true]
  constructor
  · intro h j hj
    have := inB_true.1 (h xs[j] (List.getElem_mem hj))
    rwa [List.getD_eq_getElem?_getD, List.getElem?_eq_getElem hj, Option.getD_some]
  · intro h x hx
    obtain ⟨j, hj, rfl⟩ := List.mem_iff_getElem.1 hx
    have := h j hj
    rw [List.getD_eq_getElem?_getD, List.getElem?_eq_getElem hj, Option.getD_some] at this
    exact inB_true.2 this
theorem asc_all {lo hi : Int} {xs : List Int} (h : ascB xs = true) (h0 : 0 < xs.length) (hlo : lo ≤ xs.getD 0 0) (hhi : xs.getD (xs.length - 1) 0 ≤ hi) : allB lo hi xs = true := by
  rw [allB_iff]
  intro j hj
  have h1 : xs.getD 0 0 ≤ xs.getD j 0 := by
    rcases Nat.eq_zero_or_pos j with e | e
    · subst e; exact Int.le_refl _
    · exact Int.le_of_lt (asc_lt h j 0 e hj)
  have h2 : xs.getD j 0 ≤ xs.getD (xs.length - 1) 0 := by
    rcases Nat.lt_or_ge j (xs.length - 1) with e | e
    · exact Int.le_of_lt (asc_lt h _ j e (by omega))
    · rw [show xs.length - 1 = j by omega]; exact Int.le_refl _
  omega
theorem getD_of {xs : List Int} {k : Nat} (hk : k < xs.length) : xs[k] = xs.getD k 0 := by
  rw [List.getD_eq_getElem?_getD, List.getElem?_eq_getElem hk, Option.getD_some]
theorem isAscending_any (A : Option Addr) (n c : Nat) (xs : List Int) (w : World) (hl : xs.length = n) (hn : n ≤ 1048576) (hr : Reads w w.heap.size 1 A n (xs.map (.int .i64))) :
    Calls Try.prog 29 #[.slice A n c] w fun e w' => e = .returned (.bool (ascB xs)) ∧ ∃ m, w' = w.drewN m := by
  go_enter Try.func29, Try.ntmps29
  go_wp2
  go_loopw [3] (fun i wr => ∃ k : Nat, (k + 1 ≤ n ∨ k = 0) ∧ i = .int .i64 ((k : Int) + 1) ∧ (∀ j, j < k → xs.getD j 0 < xs.getD (j + 1) 0) ∧ ∃ m, wr = w.drewN m) (fun i _ => n + 1 - (intOf i).toNat)
  case atStart => exact ⟨0, by omega, rfl, fun j hj => by omega, 0, rfl⟩
  case round =>
    obtain ⟨k, hk, rfl, hasc, hm⟩ := hrel
    have hkp := Kp.of_drewN hm
    by_cases hlt : k + 1 < n
    · obtain ⟨b, off, u, rfl, hb, hu, hc⟩ := (hr.kp hkp).cellOf (k := k + 1) (by omega)
      have cx := hc k _ (get_map (by omega))
      have cy := hc (k + 1) _ (get_map (by omega))
      rw [getD_of] at cx cy
      obtain ⟨x, hx⟩ : ∃ x, x = xs.getD k 0 := ⟨_, rfl⟩
      obtain ⟨y, hy⟩ : ∃ y, y = xs.getD (k + 1) 0 := ⟨_, rfl⟩
      rw [← hx] at cx
      rw [← hy] at cy
      have HX := Lib.hid hx
      have HY := Lib.hid hy
      have i0 : (0 : Int) ≤ (k : Int) := by omega
      have i1 : (k : Int) + 1 < (n : Int) := by omega
      have HM := Lib.hid hm
      have HA := Lib.hid hasc
      clear hm hasc hc hu hkp hx hy
      by_cases hxy : x < y
      · go_wp2
        go_quiet (fail)
        go_wp2
        go_roundw
        case rel =>
          refine ⟨k + 1, by omega, by go_num, fun j hj => ?_, drewN_trans HM.out ⟨_, rfl⟩⟩
          rcases Nat.lt_or_ge j k with h | h
          · exact HA.out j h
          · obtain rfl : j = k := by omega
            rw [← HX.out, ← HY.out]; exact hxy
        case measure => simp [intOf]; omega
      · have hyx : y ≤ x := by omega
        go_wp2
        go_quiet (fail)
        go_wp2
        go_ret
        refine ⟨ret_bool ?_, drewN_trans HM.out ⟨_, rfl⟩⟩
        symm
        rw [Bool.eq_false_iff]
        intro h
        have := ascB_iff.1 h k (by omega)
        rw [← HX.out, ← HY.out] at this
        omega
    · have HM := Lib.hid hm
      have e : ascB xs = true := ascB_iff.2 fun j hj => hasc j (by omega)
      have HE := Lib.hid e
      have i1 : (n : Int) ≤ (k : Int) + 1 := by omega
      clear hm hasc e
      go_wp2
      go_ret
      exact ⟨ret_bool HE.out.symm, HM.out⟩
end Go.Proofs.Yteojocnjiebdcaa
