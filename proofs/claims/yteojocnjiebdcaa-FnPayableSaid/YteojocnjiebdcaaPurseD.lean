/- DrawPurse: what is drawn is a purse. -/
import Derived.Test.YteojocnjiebdcaaDrawMore
import Derived.Test.YteojocnjiebdcaaPayLaw
set_option linter.unusedVariables false
namespace Go.Proofs.Yteojocnjiebdcaa
open Go.RowKit
/-- What is drawn so far: coins that rise, all below X. -/
def Rise (L : List Int) (X : Int) : Prop := allB 2 20 L = true ∧ ascB L = true ∧ ∀ j, j < L.length → L.getD j 0 < X
theorem rise_nil (X : Int) : Rise [] X := ⟨by decide, by decide, fun j hj => by simp at hj⟩
theorem Rise.push {L : List Int} {X Y : Int} (h : Rise L X) (h2 : 2 ≤ X) (h20 : X ≤ 20) (hY : X < Y) : Rise (L ++ [X]) Y := by
  obtain ⟨ha, hs, hb⟩ := h
  have hg : ∀ j, j < L.length → (L ++ [X]).getD j 0 = L.getD j 0 := fun j hj => by
    rw [List.getD_eq_getElem?_getD, List.getElem?_append_left hj, ← List.getD_eq_getElem?_getD]
  have hx : (L ++ [X]).getD L.length 0 = X := by
    rw [List.getD_eq_getElem?_getD, List.getElem?_append_right (Nat.le_refl _), Nat.sub_self]; rfl
  have hlen : (L ++ [X]).length = L.length + 1 := by simp
  refine ⟨allB_iff.2 fun j hj => ?_, ascB_iff.2 fun j hj => ?_, fun j hj => ?_⟩
  · rw [hlen] at hj
    rcases Nat.lt_or_ge j L.length with h3 | h3
    · rw [hg j h3]; exact allB_iff.1 ha j h3
    · obtain rfl : j = L.length := by omega
      rw [hx]; omega
  · rw [hlen] at hj
    rcases Nat.lt_or_ge (j + 1) L.length with h3 | h3
    · rw [hg j (by omega), hg _ h3]; exact ascB_iff.1 hs j h3
    · have e : j + 1 = L.length := by omega
      rw [hg j (by omega), e, hx]; exact hb j (by omega)
  · rw [hlen] at hj
    rcases Nat.lt_or_ge j L.length with h3 | h3
    · rw [hg j h3]; have := hb j h3; omega
    · obtain rfl : j = L.length := by omega
      rw [hx]; exact hY
theorem Rise.purse {L : List Int} {X : Int} (h : Rise L X) (h1 : 1 ≤ L.length) (h3 : L.length ≤ 3) : purseB L = true := by
  rw [purseB, h.1, h.2.1, inB_true.2 (by omega)]; rfl
theorem owi_empty (w : World) : OwI w.heap.size (w.alloc (.cells #[] 3)) (.slice (some ⟨w.heap.size, 0, none⟩) 0 0) [] :=
  World.ownsRow_made w #[] 0 (Nat.le_refl _) (by unfold maxLen; omega) rfl
set_option maxHeartbeats 3200000 in
theorem l09Purse_any (g : Nat) (A : Option Addr) (n c : Nat) (xs : List Int) (w : World) (hc : Cur w g A n c xs) :
    Calls Try.prog 34 #[.pointer (some ⟨g, 0, none⟩)] w fun e w' => ∃ v L, e = .returned v ∧ purseB L = true ∧ OwI w.heap.size w' v L ∧ w.grownBy w' (some g) := by
  have HC := Lib.hid hc
  have hgz : g < w.heap.size := hc.lt
  clear hc
  obtain ⟨i0, hi0, hz0, hz1, hz2⟩ := info_parts int_info
  go_enter Try.func34, Try.ntmps34
  go_wp2_with fail
  refine (l01Below_any g A n c xs 7 _ (by omega) (HC.out.carry (row := none) (grown_alloc _ _) (by simp))).mono ?_
  rintro e w1 ⟨X0, rfl, x0, x1, hc1, hg1⟩
  have HO1 := Lib.hid ((owi_empty w).far hg1 (.inr (by simp [Value.ownBlock]; omega)))
  have HC1 := Lib.hid hc1
  have HG1 := Lib.hid (grown_trans (⟨rfl, rfl, rfl, by simp, fun k hk _ => Below.heap_alloc w _ k hk⟩ : w.grownBy (w.alloc (.cells #[] 3)) (some g)) hg1)
  clear hc1 hg1
  go_wp2_with fail
  refine (l01Below_any g A n c xs 3 _ (by omega) HC1.out).mono ?_
  rintro e w2 ⟨N0, rfl, n0, n1, hc2, hg2⟩
  have HO2 := Lib.hid (HO1.out.far hg2 (.inr (by simp [Value.ownBlock]; omega)))
  have HC2 := Lib.hid hc2
  have HG2 := Lib.hid (grown_trans HG1.out hg2)
  obtain ⟨N, hN⟩ : ∃ N, N = 1 + N0 := ⟨_, rfl⟩
  clear hc2 hg2
  go_wp2_with fail
  rw [← hN]
  have hN1 : 1 ≤ N ∧ N ≤ 3 := by omega
  clear hN n0 n1
  go_loopw [3, 4, 6] (fun o x i wr => ∃ k : Nat, ∃ L : List Int, ∃ X : Int, (k : Int) ≤ N ∧ i = .int .i64 k ∧ x = .int .i64 X ∧ L.length = k ∧ Rise L X ∧ 2 ≤ X ∧ X ≤ 26 ∧ (k = 0 → X ≤ 8) ∧ OwI w.heap.size wr o L ∧ Cur wr g A n c xs ∧ w.grownBy wr (some g)) (fun _ _ i _ => 10 - (intOf i).toNat)
  case atStart => exact ⟨0, [], _, by omega, rfl, rfl, rfl, rise_nil _, by omega, by omega, fun _ => by omega, HO2.out, HC2.out, HG2.out⟩
  case round =>
    obtain ⟨k, L, X, hk, rfl, rfl, hLl, hri, hX2, hX26, hX8, ho, hcu, hgr⟩ := hrel
    have HRI := Lib.hid hri
    have HO := Lib.hid ho
    have HCU := Lib.hid hcu
    have HG := Lib.hid hgr
    have HLL := Lib.hid hLl
    obtain ⟨Av, cv, rfl, hrd⟩ := ho.rd
    have hW : wr.ownsRow w.heap.size 3 1 (.slice Av k cv) k (L.map (.int .i64)) := by have := HO.out; unfold OwI at this; rw [HLL.out] at this; exact this
    have HOk := Lib.hid (show OwI w.heap.size wr (.slice Av k cv) L by have := HO.out; rw [HLL.out] at this; exact this)
    rw [hLl]
    have HOW := Lib.hid hW
    have hsz := hgr.size
    clear hri ho hcu hgr hLl hrd hW
    by_cases hlt : (k : Int) < N
    · by_cases h20 : X ≤ 20
      · go_wp2_with (at_builtin; refine wpList_append_any _ rfl (.tmp 23) (.tmp 25) _ rfl w.heap.size 3 i0 _ 1 8 Try.underlying22 hi0 hz0 hz1 hz2 rfl (by omega) (.slice Av k cv) k (L.map (.int .i64)) rfl (HOW.out.alloc _) (wr.heap.size + 1) (some ⟨wr.heap.size, 0, none⟩) 1 1 [.int .i64 X] rfl (reads_one _ _ _) (oneCell_one _) (by simp only [maxLen]; omega) (by omega) (by simp; omega) ?_; intro v2 w5 hown2 hg2 hat2; have HO5 := Lib.hid hown2; have HG5 := Lib.hid hg2; clear hown2 hg2 hat2)
        refine (l01Below_any g A n c xs 6 _ (by omega) ((HCU.out.carry (row := none) (grown_alloc _ _) (by simp)).carry HG5.out (fun k' e => (World.ownsRow.lt HOW.out k' e).1 |> Nat.lt_of_lt_of_le hgz))).mono ?_
        rintro e w6 ⟨D, rfl, D0, D1, hc6, hg6⟩
        have HG6 := Lib.hid (grown_trans (grown_over (grown_over HG.out (grown_alloc _ _) (by simp)) HG5.out (fun k' e => (World.ownsRow.lt HOW.out k' e).1)) hg6)
        have HC6 := Lib.hid hc6
        have HO6 := Lib.hid (show OwI w.heap.size w6 v2 (L ++ [X]) by
          refine OwI.far (w := w5) ?_ hg6 ?_
          · refine OwI.push (w := w) (w1 := w) (v := .bool true) ?_
            rw [HLL.out]; exact HO5.out
          · cases e : v2.ownBlock with
            | none => exact .inl rfl
            | some b' =>
              refine .inr fun e' => ?_
              injection e' with e'
              have := (World.ownsRow.lt HO5.out b' e).1
              omega)
        clear hc6 hg6
        go_wp2_with fail
        go_roundw
        case rel =>
          exact ⟨k + 1, L ++ [X], X + 1 + D, by omega, by go_num, rfl, by rw [List.length_append, HLL.out]; rfl, HRI.out.push hX2 h20 (by omega), by omega, by omega, fun h => by omega, HO6.out, HC6.out, HG6.out⟩
        case measure => simp [intOf]; omega
      · go_wp2_with fail
        go_ret
        exact ⟨_, rfl, L, HRI.out.purse (by rw [HLL.out]; omega) (by rw [HLL.out]; omega), HOk.out, HG.out⟩
    · go_wp2_with fail
      go_ret
      exact ⟨_, rfl, L, HRI.out.purse (by rw [HLL.out]; omega) (by rw [HLL.out]; omega), HOk.out, HG.out⟩
theorem drawPurse_any (A : Option Addr) (n c : Nat) (xs : List Int) (w : World) (hl : xs.length = n) (hn : n ≤ 1048576) (hr : Reads w w.heap.size 1 A n (xs.map (.int .u8))) (hx : ∀ x ∈ xs, 0 ≤ x ∧ x ≤ 255) :
    Calls Try.prog 25 #[.slice A n c] w fun e w' => ∃ v L, e = .returned v ∧ purseB L = true ∧ OwI w.heap.size w' v L ∧ Kp w w' := by
  have HR := Lib.hid hr
  have HX := Lib.hid hx
  clear hr hx
  go_enter Try.func25, Try.ntmps25
  go_wp2_with fail
  refine (l01New_any A n c xs _ hl hn HR.out HX.out).mono ?_
  rintro e w1 ⟨g, rfl, hg, hc, hk⟩
  have hz := hk.size
  have HC := Lib.hid hc
  have HK := Lib.hid hk
  clear hc hk
  go_wp2_with fail
  refine (l09Purse_any g A n c xs _ HC.out).mono ?_
  rintro e w2 ⟨v, L, rfl, hs, ho, hgr⟩
  have HO := Lib.hid (ho.weak hz)
  have HG := Lib.hid (HK.out.grown hgr (fun k e => by cases e; exact hg))
  clear ho hgr
  go_wp2_with fail
  go_ret
  exact ⟨_, L, rfl, hs, HO.out, HG.out⟩
end Go.Proofs.Yteojocnjiebdcaa
