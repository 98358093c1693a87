/- DrawGlasses: what is drawn are glasses. -/
import Derived.Test.YtpafcambfmkmiaaGlG
import Derived.Test.YtpafcambfmkmiaaDrawMore
set_option linter.unusedVariables false
namespace Go.Proofs.Ytpafcambfmkmiaa
open Go.RowKit
/-- Four ints in a block of the call's own. -/
def G4 (w : World) (b : Nat) (p q r s : Int) : Prop := ((w.cell? ⟨b, 0, none⟩ = some (.int .i64 p) ∧ w.frozen? ⟨b, 0, none⟩ = false) ∧ (w.cell? ⟨b, 1, none⟩ = some (.int .i64 q) ∧ w.frozen? ⟨b, 1, none⟩ = false) ∧ (w.cell? ⟨b, 2, none⟩ = some (.int .i64 r) ∧ w.frozen? ⟨b, 2, none⟩ = false) ∧ (w.cell? ⟨b, 3, none⟩ = some (.int .i64 s) ∧ w.frozen? ⟨b, 3, none⟩ = false))
theorem G4.gb {w w' : World} {b : Nat} {p q r s : Int} {o : Option Nat} (h : G4 w b p q r s) (hg : w.grownBy w' o) (hne : some b ≠ o) : G4 w' b p q r s := by
  have hb : w'.heap[b]? = w.heap[b]? := hg.block b (cell_lt h.1.1) hne
  have hf : ∀ k, w'.frozen? ⟨b, k, none⟩ = w.frozen? ⟨b, k, none⟩ := fun k => World.frozen?_of_block (w := w) (w' := w') (a := ⟨b, k, none⟩) hb
  have hc : ∀ k, w'.cell? ⟨b, k, none⟩ = w.cell? ⟨b, k, none⟩ := fun k => World.cell?_of_block (w := w) (w' := w') (a := ⟨b, k, none⟩) hb
  obtain ⟨⟨c0, f0⟩, ⟨c1, f1⟩, ⟨c2, f2⟩, ⟨c3, f3⟩⟩ := h
  exact ⟨⟨(hc 0).trans c0, (hf 0).trans f0⟩, ⟨(hc 1).trans c1, (hf 1).trans f1⟩, ⟨(hc 2).trans c2, (hf 2).trans f2⟩, ⟨(hc 3).trans c3, (hf 3).trans f3⟩⟩
theorem G4.fresh (w : World) (p q r s : Int) (t : TypeId) : G4 (w.alloc (.cells #[.int .i64 p, .int .i64 q, .int .i64 r, .int .i64 s] t)) w.heap.size p q r s := by
  refine ⟨⟨?_, ?_⟩, ⟨?_, ?_⟩, ⟨?_, ?_⟩, ⟨?_, ?_⟩⟩ <;> simp [go_sem]
theorem G4.set2 {w : World} {b : Nat} {p q r s : Int} (h : G4 w b p q r s) (x : Int) : G4 (w.setCell ⟨b, 2, none⟩ (.int .i64 x)) b p q x s := by
  obtain ⟨⟨c0, f0⟩, ⟨c1, f1⟩, ⟨c2, f2⟩, ⟨c3, f3⟩⟩ := h
  refine ⟨⟨?_, ?_⟩, ⟨?_, ?_⟩, ⟨?_, ?_⟩, ⟨?_, ?_⟩⟩ <;> simp [go_sem, c0, c1, c2, c3, f0, f1, f2, f3]
theorem G4.set3 {w : World} {b : Nat} {p q r s : Int} (h : G4 w b p q r s) (x : Int) : G4 (w.setCell ⟨b, 3, none⟩ (.int .i64 x)) b p q r x := by
  obtain ⟨⟨c0, f0⟩, ⟨c1, f1⟩, ⟨c2, f2⟩, ⟨c3, f3⟩⟩ := h
  refine ⟨⟨?_, ?_⟩, ⟨?_, ?_⟩, ⟨?_, ?_⟩, ⟨?_, ?_⟩⟩ <;> simp [go_sem, c0, c1, c2, c3, f0, f1, f2, f3]
set_option maxRecDepth 20000 in
set_option maxHeartbeats 3200000 in
theorem l12Glasses_any (g : Nat) (A : Option Addr) (n c : Nat) (xs : List Int) (w : World) (hc : Cur w g A n c xs) :
    Calls Try.prog 32 #[.pointer (some ⟨g, 0, none⟩)] w fun e w' => ∃ f s a b : Int, e = .returned (.agg #[.int .i64 f, .int .i64 s, .int .i64 a, .int .i64 b]) ∧ (1 ≤ f ∧ f ≤ 12) ∧ (1 ≤ s ∧ s ≤ 12) ∧ (0 ≤ a ∧ a ≤ f) ∧ (0 ≤ b ∧ b ≤ s) ∧ w.grownBy w' (some g) := by
  have HC := Lib.hid hc
  have hgz : g < w.heap.size := hc.lt
  clear hc
  have HR0 := Lib.hid (G4.fresh w 0 0 0 0 25)
  have hg0 : w.grownBy (w.alloc (.cells #[.int .i64 0, .int .i64 0, .int .i64 0, .int .i64 0] 25)) (some g) := ⟨rfl, rfl, rfl, by simp, fun k hk _ => Below.heap_alloc w _ k hk⟩
  have HG0 := Lib.hid hg0
  clear hg0
  have hne : w.heap.size ≠ g := by omega
  go_enter Try.func32, Try.ntmps32
  go_wp2_with fail
  refine (l01Below_any g A n c xs 12 _ (by omega) (HC.out.carry (row := none) (grown_alloc _ _) (by simp))).mono ?_
  rintro e w1 ⟨F, rfl, F0, F1, hc1, hg1⟩
  have HC1 := Lib.hid hc1
  have HG1 := Lib.hid (grown_trans HG0.out hg1)
  have HR1 := Lib.hid (HR0.out.gb hg1 (by simp; exact hne))
  clear hc1 hg1
  go_wp2_with fail
  refine (l01Below_any g A n c xs 12 _ (by omega) HC1.out).mono ?_
  rintro e w2 ⟨S, rfl, S0, S1, hc2, hg2⟩
  have HG2 := Lib.hid (grown_trans HG1.out hg2)
  have HR2 := Lib.hid (HR1.out.gb hg2 (by simp; exact hne))
  have HC2 := Lib.hid (hc2.carry (row := none) (grown_alloc w2 (.cells #[.int .i64 (1 + F), .int .i64 (1 + S), .int .i64 0, .int .i64 0] 25)) (by simp))
  have HJ2 := Lib.hid (G4.fresh w2 (1 + F) (1 + S) 0 0 25)
  have hal := World.grownBy_alloc w2 (.cells #[.int .i64 (1 + F), .int .i64 (1 + S), .int .i64 0, .int .i64 0] 25) (some g)
  have HR3 := Lib.hid (HR2.out.gb hal (by simp; exact hne))
  have HG3 := Lib.hid (grown_trans HG2.out hal)
  obtain ⟨W, hW⟩ : ∃ W, W = w2.alloc (.cells #[.int .i64 (1 + F), .int .i64 (1 + S), .int .i64 0, .int .i64 0] 25) := ⟨_, rfl⟩
  obtain ⟨jb, hjb⟩ : ∃ jb, jb = w2.heap.size := ⟨_, rfl⟩
  have hg2z : g < w2.heap.size := hc2.lt
  have hw2z : w.heap.size < w2.heap.size := cell_lt HR2.out.1.1
  rw [← hW, ← hjb] at HJ2
  rw [← hW] at HC2 HR3 HG3
  have hjg : jb ≠ g := by omega
  have hjg2 : g < jb ∧ w.heap.size < jb := by omega
  have hjw : jb ≠ w.heap.size := by omega
  obtain ⟨⟨j0, e0⟩, ⟨j1, e1⟩, ⟨j2, e2⟩, ⟨j3, e3⟩⟩ := id HJ2.out
  clear hc2 hg2 hal
  go_wp2_with fail
  rw [← hW, ← hjb]
  clear hW hjb
  go_wp2_with fail
  refine (l01Below_any g A n c xs (1 + F + 1) _ (by omega) HC2.out).mono ?_
  rintro e w3 ⟨a, rfl, a0, a1, hc3, hg3⟩
  have HJ3 := Lib.hid (HJ2.out.gb hg3 (by simp; exact hjg))
  have HR4 := Lib.hid ((HR3.out.gb hg3 (by simp; exact hne)).gb (grown_set w3 jb 2 (.int .i64 a)) (by simp; exact hjw.symm))
  have HJ4 := Lib.hid (HJ3.out.set2 a)
  have hjw3 : jb < w3.heap.size := cell_lt HJ3.out.1.1
  have HC4 := Lib.hid (hc3.carry (grown_set w3 jb 2 (.int .i64 a)) (fun k e => by injection e with e; omega))
  have HG4 := Lib.hid (show w.grownBy (w3.setCell ⟨jb, 2, none⟩ (.int .i64 a)) (some g) from grown_over (grown_trans HG3.out hg3) (grown_set w3 jb 2 (.int .i64 a)) (fun k e => by injection e with e; omega))
  clear j0 j1 j2 j3 e0 e1 e2 e3 hc3 hg3
  obtain ⟨⟨j0, e0⟩, ⟨j1, e1⟩, ⟨j2, e2⟩, ⟨j3, e3⟩⟩ := id HJ3.out
  obtain ⟨W4, hW4⟩ : ∃ W4, W4 = w3.setCell ⟨jb, 2, none⟩ (.int .i64 a) := ⟨_, rfl⟩
  rw [← hW4] at HR4 HJ4 HC4 HG4
  obtain ⟨⟨k0, k0'⟩, ⟨k1, k1'⟩, ⟨k2, k2'⟩, ⟨k3, k3'⟩⟩ := id HJ4.out
  go_wp2_with fail
  rw [← hW4]
  clear hW4
  go_wp2_with fail
  refine (l01Below_any g A n c xs (1 + S + 1) _ (by omega) HC4.out).mono ?_
  rintro e w5 ⟨b, rfl, b0, b1, hc5, hg5⟩
  have HJ5 := Lib.hid (HJ4.out.gb hg5 (by simp; exact hjg))
  have HR6 := Lib.hid ((HR4.out.gb hg5 (by simp; exact hne)).gb (grown_set w5 jb 3 (.int .i64 b)) (by simp; exact hjw.symm))
  have HJ6 := Lib.hid (HJ5.out.set3 b)
  have hjw5 : jb < w5.heap.size := cell_lt HJ5.out.1.1
  have HG6 := Lib.hid (show w.grownBy (w5.setCell ⟨jb, 3, none⟩ (.int .i64 b)) (some g) from grown_over (grown_trans HG4.out hg5) (grown_set w5 jb 3 (.int .i64 b)) (fun k e => by injection e with e; omega))
  clear j0 j1 j2 j3 e0 e1 e2 e3 k0 k0' k1 k1' k2 k2' k3 k3' hc5 hg5
  obtain ⟨⟨j0, e0⟩, ⟨j1, e1⟩, ⟨j2, e2⟩, ⟨j3, e3⟩⟩ := id HJ5.out
  obtain ⟨⟨k0, k0'⟩, ⟨k1, k1'⟩, ⟨k2, k2'⟩, ⟨k3, k3'⟩⟩ := id HJ6.out
  obtain ⟨⟨r0, r0'⟩, ⟨r1, r1'⟩, ⟨r2, r2'⟩, ⟨r3, r3'⟩⟩ := id HR6.out
  go_wp2_with fail
  have hV := cell_lt r0
  have hg6 := HG6.out
  obtain ⟨V, hV'⟩ : ∃ V, V = w5.setCell ⟨jb, 3, none⟩ (.int .i64 b) := ⟨_, rfl⟩
  rw [← hV'] at r0 r1 r2 r3 r0' r1' r2' r3' hV hg6 ⊢
  have hgx := grown_over (grown_over (grown_over (grown_over hg6 (grown_set V w.heap.size 0 (.int .i64 (1 + F))) (fun k e => by injection e with e; omega)) (grown_set _ w.heap.size 1 (.int .i64 (1 + S))) (fun k e => by injection e with e; omega)) (grown_set _ w.heap.size 2 (.int .i64 a)) (fun k e => by injection e with e; omega)) (grown_set _ w.heap.size 3 (.int .i64 b)) (fun k e => by injection e with e; omega)
  refine bodyPost_ret (v := .agg #[.int .i64 (1 + F), .int .i64 (1 + S), .int .i64 a, .int .i64 b]) ?_ rfl ⟨1 + F, 1 + S, a, b, rfl, by omega, by omega, by omega, by omega, hgx⟩
  simp [results, Try.results32, go_sem, r0, r1, r2, r3, r0', r1', r2', r3', hV]
set_option maxRecDepth 20000 in
set_option maxHeartbeats 3200000 in
theorem DrawGlasses_any (A : Option Addr) (n c : Nat) (xs : List Int) (w : World) (hl : xs.length = n) (hn : n ≤ 1048576) (hr : Reads w w.heap.size 1 A n (xs.map (.int .u8))) (hx : ∀ x ∈ xs, 0 ≤ x ∧ x ≤ 255) :
    Calls Try.prog 25 #[.slice A n c] w fun e w' => ∃ f s a b : Int, e = .returned (.agg #[.int .i64 f, .int .i64 s, .int .i64 a, .int .i64 b]) ∧ (1 ≤ f ∧ f ≤ 12) ∧ (1 ≤ s ∧ s ≤ 12) ∧ (0 ≤ a ∧ a ≤ f) ∧ (0 ≤ b ∧ b ≤ s) ∧ Kp w w' := by
  have HR0 := Lib.hid (G4.fresh w 0 0 0 0 25)
  have HL := Lib.hid hl
  have HX := Lib.hid hx
  have HRR := Lib.hid (hr.kp ((Kp.refl w).alloc (.cells #[.int .i64 0, .int .i64 0, .int .i64 0, .int .i64 0] 25)))
  have HK0 := Lib.hid ((Kp.refl w).alloc (.cells #[.int .i64 0, .int .i64 0, .int .i64 0, .int .i64 0] 25))
  clear hl hr hx
  go_enter Try.func25, Try.ntmps25
  go_wp2_with fail
  refine (l01New_any A n c xs _ HL.out hn HRR.out HX.out).mono ?_
  rintro e w1 ⟨g, rfl, hg, hc1, hk1⟩
  have hg' : w.heap.size < g := by simp at hg; omega
  have HC1 := Lib.hid hc1
  have HR1 := Lib.hid (HR0.out.gb (gb_kp hk1 none) (by simp))
  have HK1 := Lib.hid (HK0.out.trans hk1)
  clear hc1 hk1 hg
  go_wp2_with fail
  refine (l12Glasses_any g A n c xs _ HC1.out).mono ?_
  rintro e w2 ⟨f, s, a, b, rfl, b1, b2, b3, b4, hg2⟩
  have HR2 := Lib.hid (HR1.out.gb hg2 (by simp; omega))
  have HK2 := Lib.hid (HK1.out.grown hg2 (fun k e => by injection e with e; omega))
  clear hg2
  obtain ⟨⟨r0, r0'⟩, ⟨r1, r1'⟩, ⟨r2, r2'⟩, ⟨r3, r3'⟩⟩ := id HR2.out
  go_wp2_with fail
  have hV := cell_lt r0
  refine bodyPost_ret (v := .agg #[.int .i64 f, .int .i64 s, .int .i64 a, .int .i64 b]) ?_ rfl ⟨f, s, a, b, rfl, b1, b2, b3, b4, ?_⟩
  · simp [results, Try.results25, go_sem, r0, r1, r2, r3, r0', r1', r2', r3', hV]
  · exact (((HK2.out.setCell (by simp) _).setCell (by simp) _).setCell (by simp) _).setCell (by simp) _
end Go.Proofs.Ytpafcambfmkmiaa
