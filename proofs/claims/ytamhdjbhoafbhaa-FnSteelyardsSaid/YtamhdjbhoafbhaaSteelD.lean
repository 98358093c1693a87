/- AddFractions on valid fractions; DrawSteelyard. -/
import Derived.Test.YtamhdjbhoafbhaaSteelP
import Derived.Test.YtamhdjbhoafbhaaDrawMore
set_option linter.unusedVariables false
namespace Go.Proofs.Ytamhdjbhoafbhaa
open Go.RowKit
theorem addFrac_any (a b c d : Int) (w : World) (h1 : fracB a b = true) (h2 : fracB c d = true) (hM : -1000000000 ≤ a * d + c * b ∧ a * d + c * b ≤ 1000000000) :
    Calls Try.prog 34 #[.agg #[.int .i64 a, .int .i64 b], .agg #[.int .i64 c, .int .i64 d]] w fun e w' => e = .returned (.tuple #[.agg #[.int .i64 (mfT (a * d + c * b) (b * d)), .int .i64 (mfU (a * d + c * b) (b * d))], .bool (mfB (a * d + c * b) (b * d))]) ∧ Kp w w' := by
  obtain ⟨⟨b1, b2⟩, b3, b4⟩ := fracB_bd h1
  obtain ⟨⟨b5, b6⟩, b7, b8⟩ := fracB_bd h2
  have n1 : -1000000000000 ≤ a * d ∧ a * d ≤ 1000000000000 := mul_bd (A := 1000000) (B := 1000000) (by omega) (by omega)
  have n2 : -1000000000000 ≤ c * b ∧ c * b ≤ 1000000000000 := mul_bd (A := 1000000) (B := 1000000) (by omega) (by omega)
  have n3 : -1000000000000 ≤ b * d ∧ b * d ≤ 1000000000000 := mul_bd (A := 1000000) (B := 1000000) (by omega) (by omega)
  have m3 : b * d ≠ 0 := Int.mul_ne_zero (by omega) (by omega)
  have H1 := Lib.hid h1
  have H2 := Lib.hid h2
  obtain ⟨M1, g1⟩ : ∃ M, M = a * d := ⟨_, rfl⟩
  obtain ⟨M2, g2⟩ : ∃ M, M = c * b := ⟨_, rfl⟩
  obtain ⟨M3, g3⟩ : ∃ M, M = b * d := ⟨_, rfl⟩
  have k1 : a * d = M1 := g1.symm
  have k2 : c * b = M2 := g2.symm
  have k3 : b * d = M3 := g3.symm
  rw [k1, k2] at hM ⊢
  rw [k3] at m3 n3 ⊢
  rw [k1] at n1
  rw [k2] at n2
  obtain ⟨S, gS⟩ : ∃ S, S = M1 + M2 := ⟨_, rfl⟩
  rw [← gS] at hM ⊢
  have kS : M1 + M2 = S := gS.symm
  have m1 : -1000000000000 ≤ S ∧ S ≤ 1000000000000 := by omega
  have m2 : -1000000000000 ≤ M3 ∧ M3 ≤ 1000000000000 := n3
  clear g1 g2 g3 gS h1 h2
  go_enter Try.func34, Try.ntmps34
  go_wp2_with (first | (go_at_call 41; refine (iFracOk_any _ _ _).mono ?_; rintro e w1 ⟨rfl, hk⟩; have c0_0 : w1.cell? ⟨w.heap.size, 0, none⟩ = some (.int .i64 a) := hk.at1 (by first | with_reducible assumption | simp [go_sem]); have c0_1 : w1.cell? ⟨w.heap.size, 1, none⟩ = some (.int .i64 b) := hk.at1 (by first | with_reducible assumption | simp [go_sem]); have c1_0 : w1.cell? ⟨w.heap.size + 1, 0, none⟩ = some (.int .i64 c) := hk.at1 (by first | with_reducible assumption | simp [go_sem]); have c1_1 : w1.cell? ⟨w.heap.size + 1, 1, none⟩ = some (.int .i64 d) := hk.at1 (by first | with_reducible assumption | simp [go_sem]); obtain ⟨c2_0, f2_0⟩ : w1.cell? ⟨w.heap.size + 1 + 1, 0, none⟩ = some (.int .i64 0) ∧ w1.frozen? ⟨w.heap.size + 1 + 1, 0, none⟩ = false := hk.at2 (by first | with_reducible assumption | simp [go_sem]) (by first | with_reducible assumption | simp [go_sem]); obtain ⟨c2_1, f2_1⟩ : w1.cell? ⟨w.heap.size + 1 + 1, 1, none⟩ = some (.int .i64 0) ∧ w1.frozen? ⟨w.heap.size + 1 + 1, 1, none⟩ = false := hk.at2 (by first | with_reducible assumption | simp [go_sem]) (by first | with_reducible assumption | simp [go_sem]); first | rw [H1.out] | rw [H2.out]) | (go_at_call 44; refine (iReduced_mf _ _ _ m3 m1 m2).mono ?_; rintro e w1 ⟨rfl, hk⟩; obtain ⟨c2_0, f2_0⟩ : w1.cell? ⟨w.heap.size + 1 + 1, 0, none⟩ = some (.int .i64 0) ∧ w1.frozen? ⟨w.heap.size + 1 + 1, 0, none⟩ = false := hk.at2 (by first | with_reducible assumption | simp [go_sem]) (by first | with_reducible assumption | simp [go_sem]); obtain ⟨c2_1, f2_1⟩ : w1.cell? ⟨w.heap.size + 1 + 1, 1, none⟩ = some (.int .i64 0) ∧ w1.frozen? ⟨w.heap.size + 1 + 1, 1, none⟩ = false := hk.at2 (by first | with_reducible assumption | simp [go_sem]) (by first | with_reducible assumption | simp [go_sem])))
  exact bodyPost_ret (v := .tuple #[.agg #[.int .i64 (mfT S M3), .int .i64 (mfU S M3)], .bool (mfB S M3)]) (by simp [results, Try.results34, go_sem, c2_0, c2_1]) rfl ⟨rfl, by (repeat (with_reducible first | exact Kp.refl _ | assumption | refine Kp.drew ?_ | refine Kp.drewN ?_ _ | refine Kp.alloc ?_ _ | refine Kp.setCell ?_ (by first | (simp; done) | (simp; omega) | (dsimp only; omega)) _ | refine Kp.trans ?_ (by assumption)))⟩
theorem grown_both {w W : World} {g : Nat} {p : Addr} {v : Value} (h : w.grownBy W (some g)) (hne : p.block ≠ g) (hc : w.cell? p = some v ∧ w.frozen? p = false) : W.cell? p = some v ∧ W.frozen? p = false := by
  refine ⟨grown_cell h hne hc.1, ?_⟩
  have hb := h.block p.block (cell_lt hc.1) (fun e => hne (by injection e))
  have := hc.2
  simp only [World.frozen?, hb] at this ⊢
  exact this
/-- Three ints in a block, none frozen. -/
def F3 (w : World) (b : Nat) (p s e : Int) : Prop := (w.cell? ⟨b, 0, none⟩ = some (.int .i64 p) ∧ w.frozen? ⟨b, 0, none⟩ = false) ∧ (w.cell? ⟨b, 1, none⟩ = some (.int .i64 s) ∧ w.frozen? ⟨b, 1, none⟩ = false) ∧ (w.cell? ⟨b, 2, none⟩ = some (.int .i64 e) ∧ w.frozen? ⟨b, 2, none⟩ = false)
theorem F3.fresh (w : World) (p s e : Int) (t : TypeId) : F3 (w.alloc (.cells #[.int .i64 p, .int .i64 s, .int .i64 e] t)) w.heap.size p s e := by
  refine ⟨⟨?_, ?_⟩, ⟨?_, ?_⟩, ⟨?_, ?_⟩⟩ <;> simp [go_sem]
theorem F3.grown {w W : World} {g b : Nat} {p s e : Int} (h : F3 w b p s e) (hg : w.grownBy W (some g)) (hne : b ≠ g) : F3 W b p s e :=
  ⟨grown_both hg hne h.1, grown_both hg hne h.2.1, grown_both hg hne h.2.2⟩
theorem F3.kp {w W : World} {b : Nat} {p s e : Int} (h : F3 w b p s e) (hk : Kp w W) : F3 W b p s e :=
  ⟨hk.at2 h.1.1 h.1.2, hk.at2 h.2.1.1 h.2.1.2, hk.at2 h.2.2.1 h.2.2.2⟩
theorem F3.lt {w : World} {b : Nat} {p s e : Int} (h : F3 w b p s e) : b < w.heap.size := cell_lt h.1.1
set_option maxHeartbeats 1600000 in
theorem l15Steelyard_any (g : Nat) (A : Option Addr) (n c : Nat) (xs : List Int) (w : World) (hc : Cur w g A n c xs) :
    Calls Try.prog 42 #[.pointer (some ⟨g, 0, none⟩)] w fun x w' => ∃ p s e : Int, x = .returned (.agg #[.int .i64 p, .int .i64 s, .int .i64 e]) ∧ SmallS p s e ∧ w.grownBy w' (some g) := by
  have HC := Lib.hid hc
  have hgz := hc.lt
  clear hc
  go_enter Try.func42, Try.ntmps42
  go_wp2_with fail
  refine (l01Below_any g A n c xs 12 _ (by omega) (HC.out.carry (row := none) (grown_alloc _ _) (by simp))).mono ?_
  rintro x w1 ⟨P, rfl, p0, p1, hc1, hg1⟩
  have G1 := Lib.hid (grown_trans (⟨rfl, rfl, rfl, by simp, fun k hk _ => Below.heap_alloc w _ k hk⟩ : w.grownBy (w.alloc (.cells #[.int .i64 0, .int .i64 0, .int .i64 0] 26)) (some g)) hg1)
  have F1 := Lib.hid ((F3.fresh w 0 0 0 26).grown hg1 (by omega))
  have HC1 := Lib.hid hc1
  clear hc1 hg1
  go_wp2_with fail
  refine (l01Below_any g A n c xs 20 _ (by omega) HC1.out).mono ?_
  rintro x w2 ⟨S, rfl, q0, q1, hc2, hg2⟩
  have G2 := Lib.hid (grown_trans G1.out hg2)
  have F2 := Lib.hid (F1.out.grown hg2 (by omega))
  have HC2 := Lib.hid hc2
  clear hc2 hg2
  go_wp2_with fail
  refine (l01Below_any g A n c xs 21 _ (by omega) HC2.out).mono ?_
  rintro x w3 ⟨E, rfl, t0, t1, hc3, hg3⟩
  have G3 := Lib.hid (grown_trans G2.out hg3)
  have F3' := Lib.hid (F2.out.grown hg3 (by omega))
  clear hc3 hg3
  obtain ⟨⟨c0, f0⟩, ⟨c1, f1⟩, ⟨c2, f2⟩⟩ := F3'.out
  have hz := F3'.out.lt
  go_wp2_with fail
  refine bodyPost_ret (v := .agg #[.int .i64 (1 + P), .int .i64 (1 + S), .int .i64 (E - 10)]) ?_ rfl ⟨1 + P, 1 + S, E - 10, rfl, ⟨by omega, by omega, by omega⟩, ?_⟩
  · simp [results, Try.results42, go_sem, c0, c1, c2]
  · have hs := fun (W : World) (h : w.grownBy W (some g)) (p : Addr) (v : Value) (hp : w.heap.size ≤ p.block) => (⟨h.os, h.tape, h.output, by simpa using h.size, fun k hk hne => (Below.heap_setCell W p v k (by omega)).trans (h.block k hk hne)⟩ : w.grownBy (W.setCell p v) (some g))
    exact hs _ (hs _ (hs _ G3.out _ _ (Nat.le_refl _)) _ _ (Nat.le_refl _)) _ _ (Nat.le_refl _)
theorem drawSteelyard_any (A : Option Addr) (n c : Nat) (xs : List Int) (w : World) (hl : xs.length = n) (hn : n ≤ 1048576) (hr : Reads w w.heap.size 1 A n (xs.map (.int .u8))) (hx : ∀ x ∈ xs, 0 ≤ x ∧ x ≤ 255) :
    Calls Try.prog 32 #[.slice A n c] w fun x w' => ∃ p s e : Int, x = .returned (.agg #[.int .i64 p, .int .i64 s, .int .i64 e]) ∧ SmallS p s e ∧ Kp w w' := by
  have HR := Lib.hid hr
  have HX := Lib.hid hx
  clear hr hx
  go_enter Try.func32, Try.ntmps32
  go_wp2_with fail
  refine (l01New_any A n c xs _ hl hn (HR.out.kp ((Kp.refl w).alloc _)) HX.out).mono ?_
  rintro e w1 ⟨g, rfl, hg, hc, hk⟩
  have hz := hk.size
  have hgs : w.heap.size + 1 ≤ g := by simpa using hg
  have HC := Lib.hid hc
  have HF := Lib.hid ((F3.fresh w 0 0 0 26).kp hk)
  have HK := Lib.hid (Kp.trans ((Kp.refl w).alloc _) hk)
  clear hc hk
  go_wp2_with fail
  refine (l15Steelyard_any g A n c xs _ HC.out).mono ?_
  rintro e w2 ⟨p, s, e, rfl, hs, hgr⟩
  have HG := Lib.hid (HK.out.grown hgr (fun k e => by cases e; omega))
  have HS := Lib.hid hs
  obtain ⟨⟨c0, f0⟩, ⟨c1, f1⟩, ⟨c2, f2⟩⟩ := HF.out.grown hgr (by omega)
  clear hgr hs
  go_wp2_with fail
  refine bodyPost_ret (v := .agg #[.int .i64 p, .int .i64 s, .int .i64 e]) ?_ rfl ⟨p, s, e, rfl, HS.out, by have := HG.out; (repeat (with_reducible first | exact Kp.refl _ | assumption | refine Kp.drew ?_ | refine Kp.drewN ?_ _ | refine Kp.alloc ?_ _ | refine Kp.setCell ?_ (by first | (simp; done) | (simp; omega) | (dsimp only; omega)) _ | refine Kp.trans ?_ (by assumption)))⟩
  simp [results, Try.results32, go_sem, c0, c1, c2]
end Go.Proofs.Ytamhdjbhoafbhaa
