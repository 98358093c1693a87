/- Small lemmas that carry a cell's fact over an allocation or a store, for the regions that draw their order. -/
import Derived.Test.YtgkjckhjmphoaaaBase
namespace Go.Proofs.Ytgkjckhjmphoaaa
open Go.RowKit
theorem cell_realloc {w : World} {p : Addr} {v : Value} {o : Obj} (h : (w.alloc o).cell? p = some v) (hne : p.block ≠ w.heap.size) (o' : Obj) : (w.alloc o').cell? p = some v := by
  have e : ∀ x : Obj, (w.alloc x).cell? p = w.cell? p := fun x => by
    have hx : (w.alloc x).heap[p.block]? = w.heap[p.block]? := by
      show (w.heap.push x)[p.block]? = _
      rw [Array.getElem?_push, if_neg hne]
    simp only [World.cell?, hx]
  rw [e] at h ⊢
  exact h
theorem cell_drew {w : World} {p : Addr} {v : Value} (h : w.cell? p = some v) : w.drew.cell? p = some v := h
/-- Behind a contract whose call stood right behind the laying of a block of two cells: that block's cells. -/
theorem Kp.last2 {w0 w1 : World} {x y : Value} {t : TypeId} (h : Kp (w0.alloc (.cells #[x, y] t)) w1) :
    (w1.cell? ⟨w0.heap.size, 0, none⟩ = some x ∧ w1.frozen? ⟨w0.heap.size, 0, none⟩ = false) ∧ (w1.cell? ⟨w0.heap.size, 1, none⟩ = some y ∧ w1.frozen? ⟨w0.heap.size, 1, none⟩ = false) :=
  ⟨h.at2 (by simp [go_sem]) (by simp [go_sem]), h.at2 (by simp [go_sem]) (by simp [go_sem])⟩
theorem Kp.last2d {w0 w1 : World} {x y : Value} {t : TypeId} (h : Kp (w0.alloc (.cells #[x, y] t)).drew w1) :
    (w1.cell? ⟨w0.heap.size, 0, none⟩ = some x ∧ w1.frozen? ⟨w0.heap.size, 0, none⟩ = false) ∧ (w1.cell? ⟨w0.heap.size, 1, none⟩ = some y ∧ w1.frozen? ⟨w0.heap.size, 1, none⟩ = false) :=
  ⟨h.at2 (by simp [go_sem]) (by simp [go_sem]), h.at2 (by simp [go_sem]) (by simp [go_sem])⟩
theorem Kp.next2 {w0 w1 : World} {p q : Addr} {x y : Value} (hl : (w0.cell? p = some x ∧ w0.frozen? p = false) ∧ (w0.cell? q = some y ∧ w0.frozen? q = false)) (h : Kp w0 w1) :
    (w1.cell? p = some x ∧ w1.frozen? p = false) ∧ (w1.cell? q = some y ∧ w1.frozen? q = false) := ⟨h.at2 hl.1.1 hl.1.2, h.at2 hl.2.1 hl.2.2⟩
theorem Kp.two44 {w w1 : World} {x0 x1 x2 x3 y0 y1 y2 y3 : Value} {t t' : TypeId} (h : Kp ((w.alloc (.cells #[x0, x1, x2, x3] t)).alloc (.cells #[y0, y1, y2, y3] t')) w1) :
    (w1.cell? ⟨w.heap.size, 0, none⟩ = some x0 ∧ w1.cell? ⟨w.heap.size, 1, none⟩ = some x1 ∧ w1.cell? ⟨w.heap.size, 2, none⟩ = some x2 ∧ w1.cell? ⟨w.heap.size, 3, none⟩ = some x3) ∧
    ((w1.cell? ⟨w.heap.size + 1, 0, none⟩ = some y0 ∧ w1.frozen? ⟨w.heap.size + 1, 0, none⟩ = false) ∧ (w1.cell? ⟨w.heap.size + 1, 1, none⟩ = some y1 ∧ w1.frozen? ⟨w.heap.size + 1, 1, none⟩ = false) ∧
     (w1.cell? ⟨w.heap.size + 1, 2, none⟩ = some y2 ∧ w1.frozen? ⟨w.heap.size + 1, 2, none⟩ = false) ∧ (w1.cell? ⟨w.heap.size + 1, 3, none⟩ = some y3 ∧ w1.frozen? ⟨w.heap.size + 1, 3, none⟩ = false)) ∧
    w.heap.size < w1.heap.size ∧ w.heap.size + 1 < w1.heap.size := by
  have hz := h.size
  simp at hz
  exact ⟨⟨h.at1 (by simp [go_sem]), h.at1 (by simp [go_sem]), h.at1 (by simp [go_sem]), h.at1 (by simp [go_sem])⟩,
    ⟨h.at2 (by simp [go_sem]) (by simp [go_sem]), h.at2 (by simp [go_sem]) (by simp [go_sem]), h.at2 (by simp [go_sem]) (by simp [go_sem]), h.at2 (by simp [go_sem]) (by simp [go_sem])⟩, by omega, by omega⟩
theorem Kp.last4 {w0 w1 : World} {x y z u : Value} {t : TypeId} (h : Kp (w0.alloc (.cells #[x, y, z, u] t)) w1) :
    (w1.cell? ⟨w0.heap.size, 0, none⟩ = some x ∧ w1.frozen? ⟨w0.heap.size, 0, none⟩ = false) ∧ (w1.cell? ⟨w0.heap.size, 1, none⟩ = some y ∧ w1.frozen? ⟨w0.heap.size, 1, none⟩ = false) ∧
    (w1.cell? ⟨w0.heap.size, 2, none⟩ = some z ∧ w1.frozen? ⟨w0.heap.size, 2, none⟩ = false) ∧ (w1.cell? ⟨w0.heap.size, 3, none⟩ = some u ∧ w1.frozen? ⟨w0.heap.size, 3, none⟩ = false) :=
  ⟨h.at2 (by simp [go_sem]) (by simp [go_sem]), h.at2 (by simp [go_sem]) (by simp [go_sem]), h.at2 (by simp [go_sem]) (by simp [go_sem]), h.at2 (by simp [go_sem]) (by simp [go_sem])⟩
end Go.Proofs.Ytgkjckhjmphoaaa
