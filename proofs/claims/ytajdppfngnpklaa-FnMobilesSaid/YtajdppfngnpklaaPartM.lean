/- Parts: more words for slices of the call's own; append, markPartS, heldPartS. -/
import Derived.Test.YtajdppfngnpklaaWeigh
import Derived.Test.YtajdppfngnpklaaApp
set_option linter.unusedVariables false
namespace Go.Proofs.Ytajdppfngnpklaa
open Go.RowKit
theorem pC_set5 (xs : List Pt) : ∀ k, k < xs.length → ∀ v : Pt, set5 (pC xs) (k * 5) v = pC (xs.set k v) := by
  induction xs with
  | nil => intro k hk; simp at hk
  | cons p l ih =>
    intro k hk v
    cases k with
    | zero => rfl
    | succ k =>
      have := ih k (by simpa using hk) v
      rw [show (k + 1) * 5 = k * 5 + 1 + 1 + 1 + 1 + 1 by omega]
      simp only [set5, pC, List.set_cons_succ] at this ⊢
      rw [this]
theorem oneCell_parts (xs : List Pt) : ∀ u ∈ pC xs, u.oneCell' = true := by
  induction xs with
  | nil => intro u hu; simp [pC] at hu
  | cons p l ih =>
    intro u hu
    simp only [pC, List.mem_cons] at hu
    rcases hu with rfl | rfl | rfl | rfl | rfl | hu
    · rfl
    · rfl
    · rfl
    · rfl
    · rfl
    · exact ih u hu
theorem OwP.kp {B : Nat} {w w' : World} {v : Value} {xs : List Pt} (h : OwP B w v xs) (hk : Kp w w') : OwP B w' v xs := owns_kp h hk
theorem OwP.weak {B B' : Nat} {w : World} {v : Value} {xs : List Pt} (h : OwP B w v xs) (hB : B' ≤ B) : OwP B' w v xs := by
  refine ⟨h.1, ?_⟩
  rcases h.2 with h0 | ⟨g, cap, cur, e, hb, r⟩
  · exact .inl h0
  · exact .inr ⟨g, cap, cur, e, by omega, r⟩
theorem OwP.lt {B : Nat} {w : World} {v : Value} {xs : List Pt} (h : OwP B w v xs) : ∀ k, v.ownBlock = some k → B ≤ k ∧ k < w.heap.size := World.ownsRow.lt h
theorem OwP.far {B : Nat} {w w' : World} {v : Value} {xs : List Pt} (h : OwP B w v xs) {row : Option Nat} (hg : w.grownBy w' row) (hne : v.ownBlock = none ∨ v.ownBlock ≠ row) : OwP B w' v xs := World.ownsRow.kept h hg hne
theorem OwP.form {B : Nat} {w : World} {v : Value} {xs : List Pt} (h : OwP B w v xs) (hn : 0 < xs.length) : ∃ g cap, v = .slice (some ⟨g, 0, none⟩) xs.length cap ∧ B ≤ g ∧ g < w.heap.size := World.ownsRow.form h hn
theorem OwP.apart {B B' : Nat} {w w1 w2 : World} {v v' : Value} {xs ys : List Pt} (h : OwP B w v xs) (h' : OwP B' w1 v' ys) (hB : w.heap.size ≤ B') : v.ownBlock = none ∨ v.ownBlock ≠ v'.ownBlock := by
  cases e : v.ownBlock with
  | none => exact .inl rfl
  | some k =>
    refine .inr fun e' => ?_
    have h1 := h.lt k e
    have h2 := h'.lt k e'.symm
    omega
theorem OwP.apart' {B B' : Nat} {w w1 w2 : World} {v v' : Value} {xs ys : List Pt} (h : OwP B w v xs) (h' : OwP B' w1 v' ys) (hB : w.heap.size ≤ B') : v'.ownBlock = none ∨ v'.ownBlock ≠ v.ownBlock := by
  cases e : v'.ownBlock with
  | none => exact .inl rfl
  | some k =>
    refine .inr fun e' => ?_
    have h1 := h.lt k e'.symm
    have h2 := h'.lt k e
    omega
def MkdTo (L : List Pt) (q : Int) (k : Nat) : Prop := ∀ j, j < k → pt L j = ⟨q + 5 * (j : Int), q + 5 * (j : Int) + 1, q + 5 * (j : Int) + 2, q + 5 * (j : Int) + 3, q + 5 * (j : Int) + 4⟩
theorem MkdTo.next {L : List Pt} {q : Int} {k : Nat} (h : MkdTo L q k) (hk : k < L.length) : MkdTo (L.set k ⟨q + 5 * (k : Int), q + 5 * (k : Int) + 1, q + 5 * (k : Int) + 2, q + 5 * (k : Int) + 3, q + 5 * (k : Int) + 4⟩) q (k + 1) := by
  intro j hj
  rw [pt, List.getD_eq_getElem?_getD, List.getElem?_set]
  by_cases e : k = j
  · subst e; simp [hk]
  · rw [if_neg e, ← List.getD_eq_getElem?_getD]; exact h j (by omega)
theorem five_store {B : Nat} {w : World} {g n cap : Nat} {L : List Pt} {k : Nat} (v : Pt) (hl : L.length = n) (hk : k < n) (h : OwP B w (.slice (some ⟨g, 0, none⟩) n cap) L) :
    (∀ i, i < 5 → (∃ u, w.cell? ⟨g, k * 5 + i, none⟩ = some u) ∧ w.frozen? ⟨g, k * 5 + i, none⟩ = false) ∧
    OwP B (((((w.setCell ⟨g, k * 5, none⟩ (.int .i64 v.l)).setCell ⟨g, k * 5 + 1, none⟩ (.int .i64 v.r)).setCell ⟨g, k * 5 + 2, none⟩ (.int .i64 v.p)).setCell ⟨g, k * 5 + 3, none⟩ (.int .i64 v.q)).setCell ⟨g, k * 5 + 4, none⟩ (.int .i64 v.x)) (.slice (some ⟨g, 0, none⟩) n cap) (L.set k v) ∧
    w.grownBy (((((w.setCell ⟨g, k * 5, none⟩ (.int .i64 v.l)).setCell ⟨g, k * 5 + 1, none⟩ (.int .i64 v.r)).setCell ⟨g, k * 5 + 2, none⟩ (.int .i64 v.p)).setCell ⟨g, k * 5 + 3, none⟩ (.int .i64 v.q)).setCell ⟨g, k * 5 + 4, none⟩ (.int .i64 v.x)) (some g) := by
  unfold OwP at h ⊢
  rw [hl] at h
  rw [List.length_set, hl]
  have hlen : (pC L).length = n * 5 := by rw [pC_length, hl]
  have h1 := World.ownsRow.stored h (k * 5) (.int .i64 v.l)
  have h2 := World.ownsRow.stored h1.1 (k * 5 + 1) (.int .i64 v.r)
  have h3 := World.ownsRow.stored h2.1 (k * 5 + 2) (.int .i64 v.p)
  have h4 := World.ownsRow.stored h3.1 (k * 5 + 3) (.int .i64 v.q)
  have h5 := World.ownsRow.stored h4.1 (k * 5 + 4) (.int .i64 v.x)
  have e := pC_set5 L k (by omega) v
  simp only [set5] at e
  rw [e] at h5
  refine ⟨fun i hi => ⟨⟨_, by rw [World.ownsRow.cellAt h _ (by omega), List.getElem?_eq_getElem (by rw [hlen]; omega)]⟩, World.ownsRow.frozenAt h _⟩, h5.1, (((h1.2.trans h2.2).trans h3.2).trans h4.2).trans h5.2⟩
set_option maxHeartbeats 3200000 in
theorem markPartS_any (v : Value) (xs : List Pt) (q : Int) (B : Nat) (w : World) (h : OwP B w v xs) (hn : xs.length ≤ 1048576) (hq : 0 ≤ q ∧ q ≤ 1000000000) :
    Calls Try.prog 25 #[v, .int .i64 q] w fun e w' => ∃ L, e = .returned (.int .i64 (q + 5 * (xs.length : Int))) ∧ L.length = xs.length ∧ MkdTo L q xs.length ∧ OwP B w' v L ∧ w.grownBy w' v.ownBlock := by
  rcases Nat.eq_zero_or_pos xs.length with h0 | h0
  · have hxs : xs = [] := List.eq_nil_of_length_eq_zero h0
    subst hxs
    obtain ⟨A, c, rfl, hr⟩ := h.rd
    have HH := Lib.hid h
    clear h
    go_enter Try.func25, Try.ntmps25
    go_wp2
    refine wp_loop_rounds 1 ?_
    rw [rounds_succ]
    go_wp2
    go_ret
    exact ⟨[], by simp, rfl, fun j hj => by simp at hj, HH.out, ⟨rfl, rfl, rfl, Nat.le_refl _, fun _ _ _ => rfl⟩⟩
  · obtain ⟨n, hlen⟩ : ∃ n, n = xs.length := ⟨_, rfl⟩
    obtain ⟨g, cap, rfl, hg, hgl⟩ := h.form h0
    rw [← hlen] at h hn h0 ⊢
    have HL := Lib.hid hlen
    clear hlen
    go_enter Try.func25, Try.ntmps25
    go_wp2
    go_loopw [1, 5] (fun q' i wr => ∃ k : Nat, ∃ L, k ≤ n ∧ i = .int .i64 k ∧ q' = .int .i64 (q + 5 * (k : Int)) ∧ L.length = n ∧ MkdTo L q k ∧ OwP B wr (.slice (some ⟨g, 0, none⟩) n cap) L ∧ w.grownBy wr (some g))
      (fun _ i _ => n - (intOf i).toNat)
    case atStart => exact ⟨0, xs, by omega, rfl, by simp, HL.out.symm, fun j hj => by omega, h, ⟨rfl, rfl, rfl, Nat.le_refl _, fun _ _ _ => rfl⟩⟩
    case round =>
      obtain ⟨k, L, hk, rfl, rfl, hl, hm, hown, hgr⟩ := hrel
      by_cases hlt : k < n
      · obtain ⟨hc, hst, hg2⟩ := five_store ⟨q + 5 * (k : Int), q + 5 * (k : Int) + 1, q + 5 * (k : Int) + 2, q + 5 * (k : Int) + 3, q + 5 * (k : Int) + 4⟩ hl hlt hown
        obtain ⟨⟨u0, cg0⟩, fg0⟩ := hc 0 (by omega)
        obtain ⟨⟨u1, cg1⟩, fg1⟩ := hc 1 (by omega)
        obtain ⟨⟨u2, cg2⟩, fg2⟩ := hc 2 (by omega)
        obtain ⟨⟨u3, cg3⟩, fg3⟩ := hc 3 (by omega)
        obtain ⟨⟨u4, cg4⟩, fg4⟩ := hc 4 (by omega)
        rw [Nat.add_zero] at cg0 fg0
        have HS := Lib.hid hst
        have HG := Lib.hid (hgr.trans hg2)
        have HM := Lib.hid (hm.next (by omega))
        have HLL := Lib.hid (show (L.set k (⟨q + 5 * (k : Int), q + 5 * (k : Int) + 1, q + 5 * (k : Int) + 2, q + 5 * (k : Int) + 3, q + 5 * (k : Int) + 4⟩ : Pt)).length = n by rw [List.length_set, hl])
        clear hst hown hgr hg2 hm hl hc
        go_wp2_with fail
        go_roundw
        case rel => exact ⟨k + 1, _, by omega, by go_num, by go_num, HLL.out, HM.out, by simpa [Int.add_assoc] using HS.out, by simpa [Int.add_assoc] using HG.out⟩
        case measure => simp [intOf]; omega
      · obtain rfl : k = n := by omega
        go_wp2_with fail
        go_ret
        exact ⟨L, rfl, hl, hm, hown, hgr⟩
theorem heldPartS_any (A : Option Addr) (n c : Nat) (L : List Pt) (q : Int) (w : World) (hl : L.length = n) (hn : n ≤ 1048576) (hq : 0 ≤ q ∧ q ≤ 1000000000) (hm : MkdTo L q n) (hr : RdP w A n L) :
    Calls Try.prog 26 #[.slice A n c, .int .i64 q] w fun e w' => e = .returned (.int .i64 (q + 5 * (n : Int))) ∧ Kp w w' := by
  have HR := Lib.hid hr
  have HL := Lib.hid hl
  have HM := Lib.hid hm
  clear hr hl hm
  go_enter Try.func26, Try.ntmps26
  go_wp2
  go_loopw [1, 5] (fun q' i wr => ∃ k : Nat, k ≤ n ∧ i = .int .i64 k ∧ q' = .int .i64 (q + 5 * (k : Int)) ∧ Kp w wr) (fun _ i _ => n - (intOf i).toNat)
  case atStart => exact ⟨0, by omega, rfl, by simp, Kp.refl _⟩
  case round =>
    obtain ⟨k, hk, rfl, rfl, hkp⟩ := hrel
    by_cases hlt : k < n
    · obtain ⟨b, off, rfl, hb, hc⟩ := (HR.out.kp hkp).cellOf HL.out (by omega)
      obtain ⟨c0, c1, c2, c3, c4⟩ := hc k hlt
      rw [HM.out k hlt] at c0 c1 c2 c3 c4
      dsimp only at c0 c1 c2 c3 c4
      have i0 : (0 : Int) ≤ (k : Int) := by omega
      have i1 : (k : Int) < (n : Int) := by omega
      have e1 : q + 5 * (k : Int) + 1 + 1 = q + 5 * (k : Int) + 2 := by omega
      have e2 : q + 5 * (k : Int) + 2 + 1 = q + 5 * (k : Int) + 3 := by omega
      have e3 : q + 5 * (k : Int) + 3 + 1 = q + 5 * (k : Int) + 4 := by omega
      clear hc
      go_wp2_with fail
      go_roundw
      case rel => exact ⟨k + 1, by omega, by go_num, by go_num, by (repeat (with_reducible first | exact Kp.refl _ | assumption | refine Kp.drew ?_ | refine Kp.drewN ?_ _ | refine Kp.alloc ?_ _ | refine Kp.setCell ?_ (by first | (simp; done) | (simp; omega) | (dsimp only; omega)) _ | refine Kp.trans ?_ (by assumption)))⟩
      case measure => simp [intOf]; omega
    · obtain rfl : k = n := by omega
      go_wp2_with fail
      go_ret
      exact ⟨rfl, hkp⟩
end Go.Proofs.Ytajdppfngnpklaa
