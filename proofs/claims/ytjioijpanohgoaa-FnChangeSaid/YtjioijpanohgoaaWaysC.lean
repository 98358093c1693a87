/- CountChange: the contract of the program's. -/
import Derived.Test.YtjioijpanohgoaaWays
set_option linter.unusedVariables false
namespace Go.Proofs.Ytjioijpanohgoaa
open Go.RowKit

/-- The table when the coin j has been worked in below a. -/
def CRow (xs : List Int) (j a M : Nat) (L : List Int) : Prop := L.length = M ∧ ∀ i, i < M → L.getD i 0 = if i < a then wF xs (j + 1) i else wF xs j i
theorem crow_start (xs : List Int) (M : Nat) (hM : 1 ≤ M) : (∀ i, i < M → ((List.replicate M (0 : Int)).set 0 1).getD i 0 = wF xs 0 i) ∧ ((List.replicate M (0 : Int)).set 0 1).length = M := by
  refine ⟨fun i hi => ?_, by simp⟩
  show _ = (if i = 0 then (1 : Int) else 0)
  rcases Nat.eq_zero_or_pos i with h | h
  · subst h; rw [set_getD_same (by rw [List.length_replicate]; omega)]; rfl
  · rw [set_getD_other (by omega), if_neg (by omega), List.getD_eq_getElem?_getD, List.getElem?_replicate]; split <;> rfl
theorem CRow.first {xs : List Int} {j M : Nat} {L : List Int} (hc : 1 ≤ (xs.getD j 0).toNat) (hl : L.length = M) (h : ∀ i, i < M → L.getD i 0 = wF xs j i) : CRow xs j (xs.getD j 0).toNat M L := by
  refine ⟨hl, fun i hi => ?_⟩
  rw [h i hi]
  split
  · rename_i h1; rw [wF_low hc h1]
  · rfl
theorem CRow.set {xs : List Int} {j a M : Nat} {L : List Int} (h : CRow xs j a M L) (hc : 1 ≤ (xs.getD j 0).toNat) (hca : (xs.getD j 0).toNat ≤ a) (ha : a < M) : CRow xs j (a + 1) M (L.set a (wF xs j a + wF xs (j + 1) (a - (xs.getD j 0).toNat))) := by
  refine ⟨by rw [List.length_set]; exact h.1, fun i hi => ?_⟩
  by_cases e : i = a
  · subst e
    rw [set_getD_same (by rw [h.1]; exact ha), if_pos (by omega), wF_step hc hca]
  · rw [set_getD_other e, h.2 i hi]
    by_cases h1 : i < a
    · rw [if_pos h1, if_pos (by omega)]
    · rw [if_neg h1, if_neg (by omega)]
theorem CRow.last {xs : List Int} {j a M : Nat} {L : List Int} (h : CRow xs j a M L) (ha : M ≤ a) : ∀ i, i < M → L.getD i 0 = wF xs (j + 1) i := fun i hi => by rw [h.2 i hi, if_pos (by omega)]
set_option maxHeartbeats 3200000 in
theorem iCount_any (A : Option Addr) (len c : Nat) (xs : List Int) (N : Nat) (w : World) (hl : xs.length = len) (hsys : sysB xs = true) (hN : N ≤ 200) (hr : Reads w w.heap.size 1 A len (xs.map (.int .i64))) :
    Calls Try.prog 23 #[.slice A len c, .int .i64 (N : Int)] w fun e w' => e = .returned (.int .i64 (wF xs len N)) ∧ Kp w w' := by
  have HR := Lib.hid hr
  obtain ⟨ha, hs, b2, hone⟩ := sysB_bd hsys
  have HA := Lib.hid ha
  rw [hl] at b2
  have HL := Lib.hid hl
  have HS := Lib.hid hsys
  have hn : len ≤ 1048576 := by omega
  have hNB : inB (N : Int) 0 200 = true := inB_true.2 (by omega)
  have HNB := Lib.hid hNB
  clear ha hs hone hl hr hsys hNB
  obtain ⟨i0, hi, hz0, hz1, hz2⟩ := info_parts int_info
  obtain ⟨M, hM⟩ : ∃ M, M = N + 1 := ⟨_, rfl⟩
  have hM1 : N + 1 ≤ M := by omega
  have hM2 : M ≤ N + 1 := by omega
  clear hM
  go_enter Try.func23, Try.ntmps23
  go_wp2_with (first | (go_at_call 27; refine (iSystemOk_any _ _ _ xs _ HL.out hn HR.out).mono ?_; rintro e w1 ⟨rfl, hm⟩; rw [HS.out]; have hk1 := Kp.of_drewN hm; clear hm) | (go_at_call 28; refine (in_any _ _ _ _).mono ?_; rintro e w' ⟨rfl, rfl⟩; rw [HNB.out]) | (at_make; refine wpList_make_full _ rfl _ _ 22 rfl w1.heap.size 3 i0 (.int .i64 0) 1 Try.underlying22 hi hz0 hz1 .i64 .i64 _ _ M rfl rfl (by omega) (by omega) (by rw [hz2]; omega) (by unfold maxLen; omega) (Nat.le_refl _) ?_; intro w2 hown2 hgrow2; have hk2 := (Kp.refl w1).grown hgrow2 (by simp); rw [show (Value.int .i64 0).cells = #[.int .i64 0] from rfl, toList_madeCells_one, Nat.mul_one] at hown2; have cg0 : w2.cell? ⟨w1.heap.size, 0, none⟩ = some (.int .i64 0) := (by rw [hown2.cellAt 0 (by omega), List.getElem?_replicate, if_pos (by omega)]); have fg0 := hown2.frozenAt 0; have ho0 := (hown2.stored 0 (.int .i64 1)).1; have HO0 := Lib.hid ho0; clear ho0 hown2 hgrow2))
  clear cg0 fg0
  have hst : (w2.setCell ⟨w1.heap.size, 0, none⟩ (.int .i64 1)).ownsRow w1.heap.size 3 1 (.slice (some ⟨w1.heap.size, 0, none⟩) M M) M (((List.replicate M (0 : Int)).set 0 1).map (Value.int .i64)) := by
    have := HO0.out
    rw [← map_set, List.map_replicate]
    exact this
  have HST := Lib.hid hst
  clear hst
  have hkw1 : Kp w1 (w2.setCell ⟨w1.heap.size, 0, none⟩ (.int .i64 1)) := hk2.setCell (by simp) _
  go_loopw [24] (fun i wr => ∃ k : Nat, k ≤ len ∧ i = .int .i64 k ∧ (∃ L : List Int, (∀ i, i < M → L.getD i 0 = wF xs k i) ∧ L.length = M ∧ wr.ownsRow w1.heap.size 3 1 (.slice (some ⟨w1.heap.size, 0, none⟩) M M) M (L.map (Value.int .i64))) ∧ Kp w1 wr)
    (fun i _ => len + 1 - (intOf i).toNat)
  case atStart => exact ⟨0, by omega, rfl, ⟨_, (crow_start xs M (by omega)).1, (crow_start xs M (by omega)).2, HST.out⟩, hkw1⟩
  case round =>
    obtain ⟨k, hk, rfl, ⟨L, hval, hLl, hown⟩, hkp⟩ := hrel
    by_cases hlt : k < len
    · have LL := HL.out
      obtain ⟨b', off', u', eA, hb', hu', hc'⟩ := HR.out.cellOf (k := k) (by omega)
      subst eA
      have cy := (hk1.trans hkp).at1 (hc' k _ (get_map (by omega)))
      rw [getD_of] at cy
      have y0 := allB_iff.1 HA.out k (by omega)
      have hf := CRow.first (xs := xs) (j := k) (by omega) hLl hval
      obtain ⟨C, hC⟩ : ∃ C : Nat, (C : Int) = xs.getD k 0 := ⟨(xs.getD k 0).toNat, by omega⟩
      have hCn : (xs.getD k 0).toNat = C := by omega
      rw [← hC] at cy y0
      rw [hCn] at hf
      have HC := Lib.hid hCn
      have HF := Lib.hid hf
      have HO := Lib.hid hown
      have i0 : (0 : Int) ≤ (k : Int) := by omega
      have i1 : (k : Int) < (len : Int) := by omega
      clear hu' hc' hf hown hval hLl hC hCn LL
      go_wp2
      obtain ⟨wo, rfl⟩ : ∃ wo : World, wo = wr := ⟨_, rfl⟩
      go_loopw [8] (fun j wr => ∃ a : Nat, C ≤ a ∧ (a ≤ M ∨ a = C) ∧ j = .int .i64 a ∧ (∃ L, CRow xs k a M L ∧ wr.ownsRow w1.heap.size 3 1 (.slice (some ⟨w1.heap.size, 0, none⟩) M M) M (L.map (Value.int .i64))) ∧ Kp w1 wr)
        (fun j _ => M + 1 - (intOf j).toNat)
      case atStart => exact ⟨C, by omega, .inr rfl, rfl, ⟨_, HF.out, HO.out⟩, hkp⟩
      case round =>
        obtain ⟨a, hCa, haM, rfl, ⟨L, hrow, hown⟩, hkq⟩ := hrel
        by_cases haN : a ≤ N
        · have ha : a < M := by omega
          have e1 := hrow.2 a ha
          rw [if_neg (by omega)] at e1
          have e2 := hrow.2 (a - C) (by omega)
          rw [if_pos (by omega)] at e2
          have B1 := wF_six xs (j := k) (a := a) (by omega) (by omega)
          have B2 := wF_six xs (j := k + 1) (a := a - C) (by omega) (by omega)
          have hset := hrow.set (a := a) (by rw [HC.out]; omega) (by rw [HC.out]; exact hCa) ha
          rw [HC.out] at hset
          obtain ⟨E, eE⟩ : ∃ E, E = wF xs k a := ⟨_, rfl⟩
          obtain ⟨F, eF⟩ : ∃ F, F = wF xs (k + 1) (a - C) := ⟨_, rfl⟩
          rw [← eE] at e1 B1 hset
          rw [← eF] at e2 B2 hset
          have ce : wr.cell? ⟨w1.heap.size, a, none⟩ = some (.int .i64 E) := by
            rw [hown.cellAt a (by omega), get_map (by rw [hrow.1]; omega), getD_of, e1]
          have cf : wr.cell? ⟨w1.heap.size, a - C, none⟩ = some (.int .i64 F) := by
            rw [hown.cellAt (a - C) (by omega), get_map (by rw [hrow.1]; omega), getD_of, e2]
          have fg := hown.frozenAt a
          have hsto := (hown.stored a (.int .i64 (E + F))).1
          rw [map_set] at hsto
          have HSO := Lib.hid hsto
          have HSET := Lib.hid hset
          clear hsto hset eE eF e1 e2 hrow hown
          have j1 : ((a : Int) - (C : Int)).toNat = a - C := by omega
          have j2 : (0 : Int) ≤ (a : Int) - (C : Int) := by omega
          have j3 : (a : Int) - (C : Int) < (M : Int) := by omega
          have j4 : (a : Int) ≤ (N : Int) := by omega
          have j5 : (a : Int) < (M : Int) := by omega
          go_upto_region 11 with fail
          have q1 : IntKind.i64.wrap ((a : Int) - (C : Int)) = (a : Int) - (C : Int) := IntWalk.i64_in _ (by omega)
          have q2 : IntKind.i64.wrap (E + F) = E + F := IntWalk.i64_in _ (by omega)
          go_region
          clear q1 q2
          go_wp2
          go_roundw
          case rel => exact ⟨a + 1, by omega, .inl (by omega), by go_num, ⟨_, HSET.out, HSO.out⟩, by (repeat (with_reducible first | exact Kp.refl _ | assumption | refine Kp.drew ?_ | refine Kp.drewN ?_ _ | refine Kp.alloc ?_ _ | refine Kp.setCell ?_ (by first | (simp; done) | (simp; omega) | (dsimp only; omega)) _ | refine Kp.trans ?_ (by assumption)))⟩
          case measure => simp [intOf]; omega
        · have j4 : (N : Int) < (a : Int) := by omega
          have hlast := hrow.last (by omega)
          have hLl := hrow.1
          have HLast := Lib.hid hlast
          have HLl := Lib.hid hLl
          have HO2 := Lib.hid hown
          clear hlast hLl hrow hown
          go_wp2
          go_roundw
          case rel => exact ⟨k + 1, by omega, by go_num, ⟨_, HLast.out, HLl.out, HO2.out⟩, hkq⟩
          case measure => simp [intOf]; omega
    · obtain rfl : k = len := by omega
      have cq : wr.cell? ⟨w1.heap.size, N, none⟩ = some (.int .i64 (wF xs k N)) := by
        rw [hown.cellAt N (by omega), get_map (by omega), getD_of, hval N (by omega)]
      have i1 : (N : Int) < (M : Int) := by omega
      obtain ⟨E, hE⟩ : ∃ E, E = wF xs k N := ⟨_, rfl⟩
      rw [← hE] at cq
      have HE := Lib.hid hE
      clear hown hval hLl hE
      go_wp2
      go_ret
      exact ⟨ret_int HE.out, hk1.trans hkp⟩
end Go.Proofs.Ytjioijpanohgoaa
