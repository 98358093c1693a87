/- DrawBeam: what is drawn is a beam. -/
import Derived.Test.YtnfajiokmjkebaaLevP
import Derived.Test.YtnfajiokmjkebaaMgS
import Derived.Test.YtnfajiokmjkebaaDrawMore
set_option linter.unusedVariables false
namespace Go.Proofs.Ytnfajiokmjkebaa
open Go.RowKit
def DrI (L : List (Int × Int)) : Prop := ∀ k, k < L.length → (-10 ≤ pA L k ∧ pA L k ≤ 10) ∧ 0 ≤ pB L k ∧ pB L k ≤ 39
theorem dri_nil : DrI [] := fun k hk => by simp at hk
theorem DrI.push {L : List (Int × Int)} (h : DrI L) {p x : Int} (hp : -10 ≤ p ∧ p ≤ 10) (hx : 0 ≤ x ∧ x ≤ 39) : DrI (L ++ [(p, x)]) := by
  intro k hk
  rw [List.length_append, List.length_singleton] at hk
  by_cases c : k < L.length
  · have e : (L ++ [(p, x)]).getD k (0, 0) = L.getD k (0, 0) := by
      rw [List.getD_eq_getElem?_getD, List.getElem?_append_left c, ← List.getD_eq_getElem?_getD]
    rw [pA, pB, e]; exact h k c
  · obtain rfl : k = L.length := by omega
    have e : (L ++ [(p, x)]).getD L.length (0, 0) = (p, x) := by
      rw [List.getD_eq_getElem?_getD, List.getElem?_append_right (Nat.le_refl _), Nat.sub_self]; rfl
    rw [pA, pB, e]; exact ⟨hp, hx⟩
set_option maxRecDepth 20000 in
set_option maxHeartbeats 3200000 in
theorem l13Beam_any (g : Nat) (A : Option Addr) (n c : Nat) (xs : List Int) (w : World) (hc : Cur w g A n c xs) :
    Calls Try.prog 44 #[.pointer (some ⟨g, 0, none⟩)] w fun e w' => ∃ v L, e = .returned v ∧ DrB L ∧ OwP w.heap.size w' v L ∧ w.grownBy w' (some g) := by
  have HC := Lib.hid hc
  have hgz : g < w.heap.size := hc.lt
  clear hc
  obtain ⟨i0, hi0, hz0, hz1, hz2⟩ := info_parts hang_info
  go_enter Try.func44, Try.ntmps44
  go_wp2_with fail
  refine (l01Below_any g A n c xs 7 _ (by omega) (HC.out.carry (row := none) (grown_alloc _ _) (by simp))).mono ?_
  rintro e w1 ⟨N, rfl, n0, n1, hc1, hg1⟩
  have HO1 := Lib.hid ((owp_nil w.heap.size w (Nat.le_refl _)).far hg1 (.inr (by simp [Value.ownBlock]; omega)))
  have HC1 := Lib.hid hc1
  have HG1 := Lib.hid (grown_trans (⟨rfl, rfl, rfl, by simp, fun k hk _ => Below.heap_alloc w _ k hk⟩ : w.grownBy (w.alloc (.cells #[] 46)) (some g)) hg1)
  clear hc1 hg1
  go_wp2_with fail
  go_loopw [3, 5] (fun o i wr => ∃ k : Nat, ∃ L : List (Int × Int), (k : Int) ≤ N ∧ i = .int .i64 k ∧ L.length = k ∧ DrI L ∧ OwP w.heap.size wr o L ∧ Cur wr g A n c xs ∧ w.grownBy wr (some g)) (fun _ i _ => 10 - (intOf i).toNat)
  case atStart => exact ⟨0, [], by omega, rfl, rfl, dri_nil, HO1.out, HC1.out, HG1.out⟩
  case round =>
    obtain ⟨k, L, hk, rfl, hLl, hri, ho, hcu, hgr⟩ := hrel
    have HRI := Lib.hid hri
    have HO := Lib.hid ho
    have HCU := Lib.hid hcu
    have HG := Lib.hid hgr
    have HLL := Lib.hid hLl
    obtain ⟨Av, cv, rfl, hrd⟩ := ho.rd
    rw [hLl]
    have HO := Lib.hid (show OwP w.heap.size wr (.slice Av k cv) L by have := HO.out; rw [HLL.out] at this; exact this)
    clear hri ho hcu hgr hLl hrd
    by_cases hlt : (k : Int) < N
    · go_wp2_with fail
      refine (l01Below_any g A n c xs 21 _ (by omega) HCU.out).mono ?_
      rintro e w2 ⟨P, rfl, P0, P1, hc2, hg2⟩
      have HO2 := Lib.hid (HO.out.far hg2 (by
        cases e : (Value.slice Av k cv).ownBlock with
        | none => exact .inl rfl
        | some b' => exact .inr (fun e' => by injection e' with e'; have := (OwP.lt HO.out _ e).1; omega)))
      have HC2 := Lib.hid hc2
      have HG2 := Lib.hid (grown_trans HG.out hg2)
      clear hc2 hg2
      go_wp2_with fail
      refine (l01Below_any g A n c xs 40 _ (by omega) HC2.out).mono ?_
      rintro e w3 ⟨Q, rfl, Q0, Q1, hc3, hg3⟩
      have HO3 := Lib.hid (HO2.out.far hg3 (by
        cases e : (Value.slice Av k cv).ownBlock with
        | none => exact .inl rfl
        | some b' => exact .inr (fun e' => by injection e' with e'; have := (OwP.lt HO2.out _ e).1; omega)))
      have HC3 := Lib.hid hc3
      have HG3 := Lib.hid (grown_trans HG2.out hg3)
      have hs3 := (grown_trans HG2.out hg3).size
      clear hc3 hg3
      have HOW := Lib.hid (show w3.ownsRow w.heap.size 46 2 (.slice Av k cv) k (pC L) by have := HO3.out; unfold OwP at this; rw [HLL.out] at this; exact this)
      go_wp2_with (at_builtin; refine wpList_append_any _ rfl (.tmp 18) (.tmp 23) _ rfl w.heap.size 46 i0 _ 2 16 Try.underlying25 hi0 hz0 hz1 hz2 rfl (by omega) (.slice Av k cv) k (pC L) rfl (HOW.out.alloc _) (w3.heap.size + 1) (some ⟨w3.heap.size, 0, none⟩) 1 1 (pC [(P - 10, Q)]) rfl (reads_pair _ _ _ _) (oneCell_pairs _) (by simp only [maxLen]; omega) (by omega) (by simp; omega) ?_; intro v5 w5 hown5 hg5 hat5; have HO5 := Lib.hid (owp_add HLL.out hown5); have HG5 := Lib.hid hg5; clear hown5 hg5 hat5)
      have hb5 : ∀ k', (Value.slice Av k cv).ownBlock = some k' → w.heap.size ≤ k' := fun k' e => (World.ownsRow.lt HOW.out k' e).1
      have HGW := Lib.hid (grown_over (grown_over HG3.out (grown_alloc w3 (.cells #[.int .i64 (P - 10), .int .i64 Q] 46)) (by simp)) HG5.out hb5)
      have HCW := Lib.hid ((HC3.out.carry (row := none) (grown_alloc w3 (.cells #[.int .i64 (P - 10), .int .i64 Q] 46)) (by simp)).carry HG5.out (fun k' e => Nat.lt_of_lt_of_le hgz (hb5 k' e)))
      go_roundw
      case rel => exact ⟨k + 1, _, by omega, by go_num, by rw [List.length_append, HLL.out]; rfl, HRI.out.push (p := P - 10) (x := Q) (by omega) (by omega), HO5.out, HCW.out, HGW.out⟩
      case measure => simp [intOf]; omega
    · go_wp2_with fail
      go_ret
      exact ⟨_, rfl, L, ⟨by rw [HLL.out]; omega, HRI.out⟩, HO.out, HG.out⟩
set_option maxHeartbeats 3200000 in
theorem drawBeam_any (A : Option Addr) (n c : Nat) (xs : List Int) (w : World) (hl : xs.length = n) (hn : n ≤ 1048576) (hr : Reads w w.heap.size 1 A n (xs.map (.int .u8))) (hx : ∀ x ∈ xs, 0 ≤ x ∧ x ≤ 255) :
    Calls Try.prog 32 #[.slice A n c] w fun e w' => ∃ v L, e = .returned v ∧ DrB L ∧ OwP w.heap.size w' v L ∧ Kp w w' := by
  have HR := Lib.hid hr
  have HX := Lib.hid hx
  clear hr hx
  go_enter Try.func32, Try.ntmps32
  go_wp2_with fail
  refine (l01New_any A n c xs _ hl hn HR.out HX.out).mono ?_
  rintro e w1 ⟨g, rfl, hg, hc, hk⟩
  have hz := hk.size
  have HC := Lib.hid hc
  have HK := Lib.hid hk
  clear hc hk
  go_wp2_with fail
  refine (l13Beam_any g A n c xs _ HC.out).mono ?_
  rintro e w2 ⟨v, L, rfl, hs, ho, hgr⟩
  have HO := Lib.hid (ho.weak hz)
  have HG := Lib.hid (HK.out.grown hgr (fun k e => by cases e; exact hg))
  clear ho hgr
  go_wp2_with fail
  go_ret
  exact ⟨_, L, rfl, hs, HO.out, HG.out⟩
end Go.Proofs.Ytnfajiokmjkebaa
