/- Contracts of small functions on integers that several statements use: in, l01In, gcd, l02Gcd. No condition beside the bounds that each states. -/
import Derived.Test.YtgkjckhjmphoaaaProg
import Derived.WalkKit
import Derived.WalkLawsBesides
import Derived.WalkSpells
import Derived.Lib.Hide
import Derived.Deep.QuietTactic
import Derived.BigQuiet
import Derived.RegionTactic
set_option linter.unusedVariables false
namespace Go.Proofs.Ytgkjckhjmphoaaa
open Go.RowKit

def inB (n lo hi : Int) : Bool := decide (lo ≤ n) && decide (n ≤ hi)
theorem inB_true {n lo hi : Int} : inB n lo hi = true ↔ lo ≤ n ∧ n ≤ hi := by simp [inB]
theorem inB_false {n lo hi : Int} : inB n lo hi = false ↔ n < lo ∨ hi < n := by simp [inB]; omega
theorem in_any (n lo hi : Int) (w : World) : Calls Try.prog 28 #[.int .i64 n, .int .i64 lo, .int .i64 hi] w fun e w' => e = .returned (.bool (inB n lo hi)) ∧ w = w' := by
  go_enter Try.func28, Try.ntmps28
  go_wp2
  all_goals (go_ret; exact ⟨by simp [inB] <;> omega, rfl⟩)
theorem l01In_any (n lo hi : Int) (w : World) : Calls Try.prog 27 #[.int .i64 n, .int .i64 lo, .int .i64 hi] w fun e w' => e = .returned (.bool (inB n lo hi)) ∧ w = w' := by
  go_enter Try.func27, Try.ntmps27
  go_wp2
  all_goals (go_ret; exact ⟨by simp [inB] <;> omega, rfl⟩)

theorem drewN_trans {w w1 w2 : World} (h : ∃ n, w1 = w.drewN n) (h' : ∃ n, w2 = w1.drewN n) : ∃ n, w2 = w.drewN n := by
  obtain ⟨n, rfl⟩ := h
  obtain ⟨m, rfl⟩ := h'
  exact ⟨_, World.drewN_drewN _ _ _⟩
theorem below_drewN {B : Nat} {a w : World} (h : Below B a w) (n : Nat) : Below B a (w.drewN n) := ⟨h.os, h.tape, h.output, h.size, h.block⟩
theorem bcell {W w1 : World} (hb : Below W.heap.size W w1) : (∀ b o, b < W.heap.size → w1.cell? ⟨b, o, none⟩ = W.cell? ⟨b, o, none⟩) ∧ (∀ b o, b < W.heap.size → w1.frozen? ⟨b, o, none⟩ = W.frozen? ⟨b, o, none⟩) :=
  ⟨fun b o h => hb.cell (p := ⟨b, o, none⟩) h, fun b o h => hb.frozen (p := ⟨b, o, none⟩) h⟩
/-- Nothing that was there has turned: 'Below' at the world's own size, kept closed to the walk. -/
def Kp (w w' : World) : Prop := Below w.heap.size w w'
theorem Kp.refl (w : World) : Kp w w := Below.refl _ _
theorem Kp.trans {w W w' : World} (h : Kp w W) (h' : Kp W w') : Kp w w' := Below.trans h (Below.mono h' h.size)
theorem Kp.alloc {w W : World} (h : Kp w W) (o : Obj) : Kp w (W.alloc o) := Below.alloc h h.size o
theorem Kp.drew {w W : World} (h : Kp w W) : Kp w W.drew := Below.drew h
theorem Kp.drewN {w W : World} (h : Kp w W) (n : Nat) : Kp w (W.drewN n) := below_drewN h n
theorem Kp.setCell {w W : World} (h : Kp w W) {p : Addr} (hp : w.heap.size ≤ p.block) (u : Value) : Kp w (W.setCell p u) := Below.setCell h hp u
theorem Kp.grown {w W W' : World} {row : Option Nat} (h : Kp w W) (hg : W.grownBy W' row) (hr : ∀ k, row = some k → w.heap.size ≤ k) : Kp w W' := Below.grown h hg h.size hr
theorem Kp.cells {w W : World} (h : Kp w W) : (∀ b o, b < w.heap.size → W.cell? ⟨b, o, none⟩ = w.cell? ⟨b, o, none⟩) ∧ (∀ b o, b < w.heap.size → W.frozen? ⟨b, o, none⟩ = w.frozen? ⟨b, o, none⟩) := bcell h
theorem Kp.size {w W : World} (h : Kp w W) : w.heap.size ≤ W.heap.size := Below.size h
theorem cell_lt {w : World} {a : Addr} {v : Value} (h : w.cell? a = some v) : a.block < w.heap.size := by
  rcases Nat.lt_or_ge a.block w.heap.size with h1 | h1
  · exact h1
  · rw [World.cell?, Array.getElem?_eq_none h1] at h
    cases h
theorem Kp.at1 {w W : World} (h : Kp w W) {p : Addr} {v : Value} (hv : w.cell? p = some v) : W.cell? p = some v := (Below.cell h (cell_lt hv)).trans hv
theorem Kp.at2 {w W : World} (h : Kp w W) {p : Addr} {v : Value} (hv : w.cell? p = some v) (hf : w.frozen? p = false) : W.cell? p = some v ∧ W.frozen? p = false :=
  ⟨h.at1 hv, (Below.frozen h (cell_lt hv)).trans hf⟩
theorem cell_alloc {w : World} {p : Addr} {v : Value} (h : w.cell? p = some v) (o : Obj) : (w.alloc o).cell? p = some v := by
  rw [World.cell?_alloc_lt w o p (cell_lt h)]; exact h
theorem cell_set {w : World} {p a : Addr} {v : Value} (h : w.cell? p = some v) (u : Value) (hne : p.block ≠ a.block) : (w.setCell a u).cell? p = some v := by
  rw [World.cell?_setCell_other w a p u (fun e => hne (by rw [e]))]; exact h
theorem Kp.of_drewN {w W : World} (h : ∃ n, W = w.drewN n) : Kp w W := by obtain ⟨n, rfl⟩ := h; exact (Kp.refl w).drewN n
theorem ret_int {k : IntKind} {a b : Int} (h : a = b) : Ending.returned (.int k a) = .returned (.int k b) := by rw [h]
theorem ret_bool {a b : Bool} (h : a = b) : Ending.returned (.bool a) = .returned (.bool b) := by rw [h]

theorem mul_bd {a b A B : Int} (ha : -A ≤ a ∧ a ≤ A) (hb : -B ≤ b ∧ b ≤ B) : -(A * B) ≤ a * b ∧ a * b ≤ A * B := by
  have h1 : (a * b).natAbs ≤ A.natAbs * B.natAbs := by rw [Int.natAbs_mul]; exact Nat.mul_le_mul (by omega) (by omega)
  have h2 : ((A.natAbs * B.natAbs : Nat) : Int) = A * B := by rw [Int.natCast_mul, Int.natAbs_of_nonneg (by omega), Int.natAbs_of_nonneg (by omega)]
  omega
theorem gcd_step (a b : Int) (_ha : 0 ≤ a) (_hb : 0 < b) : Int.gcd b (a % b) = Int.gcd a b := by
  rw [Int.gcd_comm a b, ← Int.gcd_add_mul_right_right b (a % b) (a / b), Int.mul_comm, Int.emod_add_mul_ediv]
end Go.Proofs.Ytgkjckhjmphoaaa
