/- ShiftBeam: the plain words, and the contracts (copyBeam, markHangS, heldHangS too). -/
import Derived.Test.YtnfajiokmjkebaaBeam
import Derived.Test.YtnfajiokmjkebaaApp
set_option linter.unusedVariables false
namespace Go.Proofs.Ytnfajiokmjkebaa
open Go.RowKit

def shK (xs : List (Int × Int)) (q : Int) : Nat → List (Int × Int)
  | 0 => xs
  | k + 1 => (shK xs q k).set k (pA xs k + q, pB xs k)
theorem shK_length (xs : List (Int × Int)) (q : Int) (k : Nat) : (shK xs q k).length = xs.length := by
  induction k with
  | zero => rfl
  | succ k ih => simp [shK, ih]
theorem shK_rest (xs : List (Int × Int)) (q : Int) (k j : Nat) (h : k ≤ j) : (shK xs q k).getD j (0, 0) = xs.getD j (0, 0) := by
  induction k with
  | zero => rfl
  | succ k ih =>
    rw [shK, List.getD_eq_getElem?_getD, List.getElem?_set, if_neg (by omega), ← List.getD_eq_getElem?_getD, ih (by omega)]
theorem pC_set (xs : List (Int × Int)) : ∀ k, k < xs.length → ∀ a b : Int, ((pC xs).set (k * 2) (.int .i64 a)).set (k * 2 + 1) (.int .i64 b) = pC (xs.set k (a, b)) := by
  induction xs with
  | nil => intro k hk; simp at hk
  | cons p l ih =>
    intro k hk a b
    cases k with
    | zero => rfl
    | succ k =>
      have := ih k (by simpa using hk) a b
      rw [show (k + 1) * 2 = k * 2 + 1 + 1 by omega]
      simp only [pC, List.set_cons_succ]
      rw [this]
theorem pC_set0 (xs : List (Int × Int)) (k : Nat) (hk : k < xs.length) (a : Int) : (pC xs).set (k * 2) (.int .i64 a) = pC (xs.set k (a, pB xs k)) := by
  rw [← pC_set xs k hk, List.set_comm _ _ (by omega)]
  congr 1
  have h := (pC_get xs k hk).2
  refine (List.ext_getElem? fun j => ?_).symm
  rw [List.getElem?_set]
  split
  · rename_i e; subst e; rw [h]; split
    · rfl
    · rename_i h2; rw [pC_length] at h2; omega
  · rfl
theorem oneCell_pairs (xs : List (Int × Int)) : ∀ u ∈ pC xs, u.oneCell' = true := by
  induction xs with
  | nil => intro u hu; simp [pC] at hu
  | cons p l ih =>
    intro u hu
    simp only [pC, List.mem_cons] at hu
    rcases hu with rfl | rfl | hu
    · rfl
    · rfl
    · exact ih u hu
def okShift (xs : List (Int × Int)) (q : Int) : Bool := beamB xs && inB q (-200) 200 && beamB (shK xs q xs.length)
def shiftL (xs : List (Int × Int)) (q : Int) : List (Int × Int) := if okShift xs q = true then shK xs q xs.length else xs
theorem shiftL_length (xs : List (Int × Int)) (q : Int) : (shiftL xs q).length = xs.length := by
  rw [shiftL]; split
  · rw [shK_length]
  · rfl
theorem OwP.kp {B : Nat} {w w' : World} {v : Value} {xs : List (Int × Int)} (h : OwP B w v xs) (hk : Kp w w') : OwP B w' v xs := owns_kp h hk
theorem OwP.weak {B B' : Nat} {w : World} {v : Value} {xs : List (Int × Int)} (h : OwP B w v xs) (hB : B' ≤ B) : OwP B' w v xs := by
  refine ⟨h.1, ?_⟩
  rcases h.2 with h0 | ⟨g, cap, cur, e, hb, r⟩
  · exact .inl h0
  · exact .inr ⟨g, cap, cur, e, by omega, r⟩
theorem OwP.lt {B : Nat} {w : World} {v : Value} {xs : List (Int × Int)} (h : OwP B w v xs) : ∀ k, v.ownBlock = some k → B ≤ k ∧ k < w.heap.size := World.ownsRow.lt h
theorem OwP.far {B : Nat} {w w' : World} {v : Value} {xs : List (Int × Int)} (h : OwP B w v xs) {row : Option Nat} (hg : w.grownBy w' row) (hne : v.ownBlock = none ∨ v.ownBlock ≠ row) : OwP B w' v xs := World.ownsRow.kept h hg hne
theorem OwP.form {B : Nat} {w : World} {v : Value} {xs : List (Int × Int)} (h : OwP B w v xs) (hn : 0 < xs.length) : ∃ g cap, v = .slice (some ⟨g, 0, none⟩) xs.length cap ∧ B ≤ g ∧ g < w.heap.size := World.ownsRow.form h hn
theorem OwP.apart {B B' : Nat} {w w1 w2 : World} {v v' : Value} {xs ys : List (Int × Int)} (h : OwP B w v xs) (h' : OwP B' w1 v' ys) (hB : w.heap.size ≤ B') : v.ownBlock = none ∨ v.ownBlock ≠ v'.ownBlock := by
  cases e : v.ownBlock with
  | none => exact .inl rfl
  | some k =>
    refine .inr fun e' => ?_
    have h1 := h.lt k e
    have h2 := h'.lt k e'.symm
    omega
theorem OwP.apart' {B B' : Nat} {w w1 w2 : World} {v v' : Value} {xs ys : List (Int × Int)} (h : OwP B w v xs) (h' : OwP B' w1 v' ys) (hB : w.heap.size ≤ B') : v'.ownBlock = none ∨ v'.ownBlock ≠ v.ownBlock := by
  cases e : v'.ownBlock with
  | none => exact .inl rfl
  | some k =>
    refine .inr fun e' => ?_
    have h1 := h.lt k e'.symm
    have h2 := h'.lt k e
    omega
theorem copyBeam_any (A : Option Addr) (n c : Nat) (xs : List (Int × Int)) (w : World) (hl : xs.length = n) (hn : n ≤ 1048576) (hr : RdP w A n xs) :
    Calls Try.prog 38 #[.slice A n c] w fun e w' => ∃ v, e = .returned v ∧ OwP w.heap.size w' v xs ∧ Kp w w' := by
  obtain ⟨i0, hi0, hz0, hz1, hz2⟩ := info_parts hang_info
  have h1 := oneCell_pairs xs
  have HR := Lib.hid hr
  clear hr
  go_enter Try.func38, Try.ntmps38
  go_wp2_with (at_builtin; refine wpList_append_any _ rfl (.const (.slice none 0 0)) (.tmp 3) _ rfl w.heap.size 46 i0 _ 2 16 Try.underlying25 hi0 hz0 hz1 hz2 rfl (by omega) (.slice none 0 0) 0 [] rfl ⟨by simp, .inl ⟨rfl, rfl⟩⟩ w.heap.size A n c (pC xs) rfl HR.out h1 (by simp only [maxLen]; omega) (by omega) (Nat.le_refl _) ?_; intro v1 w1 hown1 hg1 hat1)
  go_ret
  refine ⟨v1, rfl, ?_, (Kp.refl w).grown hg1 (by simp [Value.ownBlock])⟩
  unfold OwP
  rw [hl]
  simpa using hown1
end Go.Proofs.Ytnfajiokmjkebaa
