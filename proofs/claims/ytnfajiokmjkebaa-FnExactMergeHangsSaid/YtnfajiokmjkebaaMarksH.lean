/- markHangS, heldHangS: the contracts. -/
import Derived.Test.YtnfajiokmjkebaaShift
set_option linter.unusedVariables false
namespace Go.Proofs.Ytnfajiokmjkebaa
open Go.RowKit
def MkdTo (L : List (Int × Int)) (q : Int) (k : Nat) : Prop := ∀ j, j < k → pA L j = q + 2 * (j : Int) ∧ pB L j = q + 2 * (j : Int) + 1
theorem MkdTo.next {L : List (Int × Int)} {q : Int} {k : Nat} (h : MkdTo L q k) (hk : k < L.length) : MkdTo (L.set k (q + 2 * (k : Int), q + 2 * (k : Int) + 1)) q (k + 1) := by
  intro j hj
  rw [pA, pB, List.getD_eq_getElem?_getD, List.getElem?_set]
  by_cases e : k = j
  · subst e; simp [hk]
  · rw [if_neg e, ← List.getD_eq_getElem?_getD]; exact h j (by omega)
theorem two_store {B : Nat} {w : World} {g n cap : Nat} {L : List (Int × Int)} {k : Nat} (a b : Int) (hl : L.length = n) (hk : k < n) (h : OwP B w (.slice (some ⟨g, 0, none⟩) n cap) L) :
    (∃ u, w.cell? ⟨g, k * 2, none⟩ = some u) ∧ (∃ u, w.cell? ⟨g, k * 2 + 1, none⟩ = some u) ∧ w.frozen? ⟨g, k * 2, none⟩ = false ∧ w.frozen? ⟨g, k * 2 + 1, none⟩ = false ∧
    OwP B ((w.setCell ⟨g, k * 2, none⟩ (.int .i64 a)).setCell ⟨g, k * 2 + 1, none⟩ (.int .i64 b)) (.slice (some ⟨g, 0, none⟩) n cap) (L.set k (a, b)) ∧
    w.grownBy ((w.setCell ⟨g, k * 2, none⟩ (.int .i64 a)).setCell ⟨g, k * 2 + 1, none⟩ (.int .i64 b)) (some g) := by
  unfold OwP at h ⊢
  rw [hl] at h
  rw [List.length_set, hl]
  have hg := pC_get L k (by omega)
  have h1 := World.ownsRow.stored h (k * 2) (.int .i64 a)
  have h2 := World.ownsRow.stored h1.1 (k * 2 + 1) (.int .i64 b)
  rw [pC_set _ _ (by omega)] at h2
  exact ⟨⟨_, by rw [World.ownsRow.cellAt h _ (by omega), hg.1]⟩, ⟨_, by rw [World.ownsRow.cellAt h _ (by omega), hg.2]⟩, World.ownsRow.frozenAt h _, World.ownsRow.frozenAt h _, h2.1, h1.2.trans h2.2⟩
theorem markHangS_any (v : Value) (xs : List (Int × Int)) (q : Int) (B : Nat) (w : World) (h : OwP B w v xs) (hn : xs.length ≤ 1048576) (hq : 0 ≤ q ∧ q ≤ 1000000000) :
    Calls Try.prog 22 #[v, .int .i64 q] w fun e w' => ∃ L, e = .returned (.int .i64 (q + 2 * (xs.length : Int))) ∧ L.length = xs.length ∧ MkdTo L q xs.length ∧ OwP B w' v L ∧ w.grownBy w' v.ownBlock := by
  rcases Nat.eq_zero_or_pos xs.length with h0 | h0
  · have hxs : xs = [] := List.eq_nil_of_length_eq_zero h0
    subst hxs
    obtain ⟨A, c, rfl, hr⟩ := h.rd
    have HH := Lib.hid h
    clear h
    go_enter Try.func22, Try.ntmps22
    go_wp2
    refine wp_loop_rounds 1 ?_
    rw [rounds_succ]
    go_wp2
    go_ret
    exact ⟨[], by simp, rfl, fun j hj => by simp at hj, HH.out, ⟨rfl, rfl, rfl, Nat.le_refl _, fun _ _ _ => rfl⟩⟩
  · obtain ⟨n, hlen⟩ : ∃ n, n = xs.length := ⟨_, rfl⟩
    obtain ⟨g, cap, rfl, hg, hgl⟩ := h.form h0
    rw [← hlen] at h hn h0 ⊢
    have HL := Lib.hid hlen
    clear hlen
    go_enter Try.func22, Try.ntmps22
    go_wp2
    go_loopw [1, 5] (fun q' i wr => ∃ k : Nat, ∃ L, k ≤ n ∧ i = .int .i64 k ∧ q' = .int .i64 (q + 2 * (k : Int)) ∧ L.length = n ∧ MkdTo L q k ∧ OwP B wr (.slice (some ⟨g, 0, none⟩) n cap) L ∧ w.grownBy wr (some g))
      (fun _ i _ => n - (intOf i).toNat)
    case atStart => exact ⟨0, xs, by omega, rfl, by simp, HL.out.symm, fun j hj => by omega, h, ⟨rfl, rfl, rfl, Nat.le_refl _, fun _ _ _ => rfl⟩⟩
    case round =>
      obtain ⟨k, L, hk, rfl, rfl, hl, hm, hown, hgr⟩ := hrel
      by_cases hlt : k < n
      · obtain ⟨⟨u0, cg0⟩, ⟨u1, cg1⟩, fg0, fg1, hst, hg2⟩ := two_store (q + 2 * (k : Int)) (q + 2 * (k : Int) + 1) hl hlt hown
        have HS := Lib.hid hst
        have HG := Lib.hid (hgr.trans hg2)
        have HM := Lib.hid (hm.next (by omega))
        have HLL := Lib.hid (show (L.set k (q + 2 * (k : Int), q + 2 * (k : Int) + 1)).length = n by rw [List.length_set, hl])
        clear hst hown hgr hg2 hm hl
        go_wp2
        go_roundw
        case rel => exact ⟨k + 1, _, by omega, by go_num, by go_num, HLL.out, HM.out, HS.out, HG.out⟩
        case measure => simp [intOf]; omega
      · obtain rfl : k = n := by omega
        go_wp2
        go_ret
        exact ⟨L, rfl, hl, hm, hown, hgr⟩
theorem heldHangS_any (A : Option Addr) (n c : Nat) (L : List (Int × Int)) (q : Int) (w : World) (hl : L.length = n) (hn : n ≤ 1048576) (hq : 0 ≤ q ∧ q ≤ 1000000000) (hm : MkdTo L q n) (hr : RdP w A n L) :
    Calls Try.prog 23 #[.slice A n c, .int .i64 q] w fun e w' => e = .returned (.int .i64 (q + 2 * (n : Int))) ∧ Kp w w' := by
  have HR := Lib.hid hr
  have HL := Lib.hid hl
  have HM := Lib.hid hm
  clear hr hl hm
  go_enter Try.func23, Try.ntmps23
  go_wp2
  go_loopw [1, 5] (fun q' i wr => ∃ k : Nat, k ≤ n ∧ i = .int .i64 k ∧ q' = .int .i64 (q + 2 * (k : Int)) ∧ Kp w wr) (fun _ i _ => n - (intOf i).toNat)
  case atStart => exact ⟨0, by omega, rfl, by simp, Kp.refl _⟩
  case round =>
    obtain ⟨k, hk, rfl, rfl, hkp⟩ := hrel
    by_cases hlt : k < n
    · obtain ⟨b, off, rfl, hb, hc⟩ := (HR.out.kp hkp).cellOf HL.out (by omega)
      obtain ⟨cx, cy⟩ := hc k hlt
      rw [(HM.out k hlt).1] at cx
      rw [(HM.out k hlt).2] at cy
      have i0 : (0 : Int) ≤ (k : Int) := by omega
      have i1 : (k : Int) < (n : Int) := by omega
      clear hc
      go_wp2
      go_roundw
      case rel => exact ⟨k + 1, by omega, by go_num, by go_num, by (repeat (with_reducible first | exact Kp.refl _ | assumption | refine Kp.drew ?_ | refine Kp.drewN ?_ _ | refine Kp.alloc ?_ _ | refine Kp.setCell ?_ (by first | (simp; done) | (simp; omega) | (dsimp only; omega)) _ | refine Kp.trans ?_ (by assumption)))⟩
      case measure => simp [intOf]; omega
    · obtain rfl : k = n := by omega
      go_wp2
      go_ret
      exact ⟨rfl, hkp⟩
end Go.Proofs.Ytnfajiokmjkebaa
