/- The draw's cursor carried over allocations, appends and the like. -/
import Derived.Test.YtpafcambfmkmiaaDraw
import Derived.Test.YtpafcambfmkmiaaApp
set_option linter.unusedVariables false
namespace Go.Proofs.Ytpafcambfmkmiaa
open Go.RowKit
theorem grown_cell {w W : World} {g : Nat} {p : Addr} {v : Value} (h : w.grownBy W (some g)) (hne : p.block ≠ g) (hc : w.cell? p = some v) : W.cell? p = some v :=
  (World.cell?_of_block (h.block p.block (cell_lt hc) (fun e => hne (by injection e)))).trans hc
theorem Cur.carry {w W : World} {g : Nat} {A : Option Addr} {n c : Nat} {xs : List Int} (h : Cur w g A n c xs) {row : Option Nat} (hg : w.grownBy W row) (hr : ∀ k, row = some k → g < k) : Cur W g A n c xs := by
  obtain ⟨⟨i, H, c0, ⟨c1, f1⟩, ⟨c2, f2⟩, hi⟩, hl, hn, hrd, hx, hz⟩ := h
  have hb : W.heap[g]? = w.heap[g]? := hg.block g hz (fun e => absurd (hr g e.symm) (Nat.lt_irrefl _))
  have hcell : ∀ o, W.cell? ⟨g, o, none⟩ = w.cell? ⟨g, o, none⟩ := fun o => World.cell?_of_block hb
  have hfr : ∀ o, W.frozen? ⟨g, o, none⟩ = w.frozen? ⟨g, o, none⟩ := fun o => by simp only [World.frozen?, hb]
  refine ⟨⟨i, H, (hcell 0).trans c0, ⟨(hcell 1).trans c1, (hfr 1).trans f1⟩, ⟨(hcell 2).trans c2, (hfr 2).trans f2⟩, hi⟩, hl, hn, ?_, hx, Nat.lt_of_lt_of_le hz hg.size⟩
  exact hrd.grown hg (Nat.le_of_lt hz) (fun k e => Nat.le_of_lt (hr k e))
theorem grown_over {w W V : World} {g : Nat} {row : Option Nat} (h : w.grownBy W (some g)) (h' : W.grownBy V row) (hr : ∀ k, row = some k → w.heap.size ≤ k) : w.grownBy V (some g) :=
  ⟨h'.os.trans h.os, h'.tape.trans h.tape, h'.output.trans h.output, Nat.le_trans h.size h'.size, fun k hk hne => (h'.block k (Nat.lt_of_lt_of_le hk h.size) (fun e => by have := hr k e.symm; omega)).trans (h.block k hk hne)⟩
theorem grown_alloc (w : World) (o : Obj) : w.grownBy (w.alloc o) none := ⟨rfl, rfl, rfl, by simp, fun k hk _ => Below.heap_alloc w _ k hk⟩
theorem Cur.lt {w : World} {g : Nat} {A : Option Addr} {n c : Nat} {xs : List Int} (h : Cur w g A n c xs) : g < w.heap.size := h.2.2.2.2.2
end Go.Proofs.Ytpafcambfmkmiaa
