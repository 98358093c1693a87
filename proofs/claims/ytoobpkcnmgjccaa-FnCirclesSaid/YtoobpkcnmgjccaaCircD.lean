/- DrawCircle: what is drawn is a circle with marks. -/
import Derived.Test.YtoobpkcnmgjccaaCircP3
import Derived.Test.YtoobpkcnmgjccaaDrawMore
set_option linter.unusedVariables false
namespace Go.Proofs.Ytoobpkcnmgjccaa
open Go.RowKit
/-- Marks that rise, all below X. -/
def Ris (L : List Int) (X : Int) : Prop := ascB L = true ∧ ∀ j, j < L.length → 0 ≤ L.getD j 0 ∧ L.getD j 0 < X
theorem ris_nil (X : Int) : Ris [] X := ⟨by decide, fun j hj => by simp at hj⟩
theorem Ris.more {L : List Int} {X Y : Int} (h : Ris L X) (hY : X ≤ Y) : Ris L Y := ⟨h.1, fun j hj => by have := h.2 j hj; omega⟩
theorem Ris.push {L : List Int} {X Y : Int} (h : Ris L X) (h0 : 0 ≤ X) (hY : X < Y) : Ris (L ++ [X]) Y := by
  obtain ⟨hs, hb⟩ := h
  have hg : ∀ j, j < L.length → (L ++ [X]).getD j 0 = L.getD j 0 := fun j hj => by
    rw [List.getD_eq_getElem?_getD, List.getElem?_append_left hj, ← List.getD_eq_getElem?_getD]
  have hx : (L ++ [X]).getD L.length 0 = X := by
    rw [List.getD_eq_getElem?_getD, List.getElem?_append_right (Nat.le_refl _), Nat.sub_self]; rfl
  have hlen : (L ++ [X]).length = L.length + 1 := by simp
  refine ⟨ascB_iff.2 fun j hj => ?_, fun j hj => ?_⟩
  · rw [hlen] at hj
    rcases Nat.lt_or_ge (j + 1) L.length with h3 | h3
    · rw [hg j (by omega), hg _ h3]; exact ascB_iff.1 hs j h3
    · have e : j + 1 = L.length := by omega
      rw [hg j (by omega), e, hx]; exact (hb j (by omega)).2
  · rw [hlen] at hj
    rcases Nat.lt_or_ge j L.length with h3 | h3
    · rw [hg j h3]; have := hb j h3; omega
    · obtain rfl : j = L.length := by omega
      rw [hx]; omega
theorem Ris.circ {L : List Int} {N : Int} (h : Ris L N) (hN : 1 ≤ N ∧ N ≤ 60) (hl : 1 ≤ L.length ∧ L.length ≤ 8) : circB N L = true := by
  simp only [circB, Bool.and_eq_true]
  refine ⟨⟨⟨inB_true.2 hN, inB_true.2 (by omega)⟩, h.1⟩, allB_iff.2 fun j hj => by have := h.2 j hj; omega⟩
set_option maxHeartbeats 6400000 in
theorem l10Circle_any (g : Nat) (A : Option Addr) (n c : Nat) (xs : List Int) (w : World) (hc : Cur w g A n c xs) (w0 : World) (hk0 : Kp w0 w) (hg0 : w0.heap.size ≤ g) :
    Calls Try.prog 39 #[.pointer (some ⟨g, 0, none⟩)] w fun e w' => ∃ (v : Value) (N : Nat) (L : List Int), e = .returned (.tuple #[.int .i64 (N : Int), v]) ∧ circB (N : Int) L = true ∧ OwI w0.heap.size w' v L ∧ Kp w0 w' := by
  have HC := Lib.hid hc
  have HK0 := Lib.hid hk0
  have hgz : g < w.heap.size := hc.lt
  have hz0 := hk0.size
  clear hc hk0
  obtain ⟨i0, hi0, hz0', hz1, hz2⟩ := info_parts int_info
  go_enter Try.func39, Try.ntmps39
  go_wp2_with fail
  refine (l01Once_any g A n c xs 2 _ (by omega) HC.out).mono ?_
  rintro e w1 ⟨B, rfl, hc1, hg1⟩
  have HC1 := Lib.hid hc1
  have K1 := Lib.hid (HK0.out.grown hg1 (fun k e => by cases e; exact hg0))
  clear hc1 hg1
  cases B with
  | true =>
    go_wp2_with fail
    refine (l01Below_any g A n c xs 5 _ (by omega) HC1.out).mono ?_
    rintro e w2 ⟨M0, rfl, m0, m1, hc2, hg2⟩
    have K2 := Lib.hid (K1.out.grown hg2 (fun k e => by cases e; exact hg0))
    clear hc2 hg2
    obtain ⟨m, hm⟩ : ∃ m : Nat, (m : Int) = 2 + M0 := ⟨(2 + M0).toNat, by omega⟩
    have hm2 : 2 ≤ m ∧ m ≤ 6 := by omega
    obtain ⟨f1, f2, f3⟩ := found_at hm2
    have hb := mul_bd (a := (m : Int)) (b := (m : Int) - 1) (A := 6) (B := 6) (by omega) (by omega)
    have hb0 := Int.mul_nonneg (show (0 : Int) ≤ (m : Int) by omega) (show (0 : Int) ≤ (m : Int) - 1 by omega)
    obtain ⟨M, hM⟩ : ∃ M, (m : Int) * ((m : Int) - 1) = M := ⟨_, rfl⟩
    rw [hM] at f3 hb hb0
    obtain ⟨N, hN⟩ : ∃ N : Nat, (N : Int) = M + 1 := ⟨(M + 1).toNat, by omega⟩
    rw [← hN] at f3
    have F3 := Lib.hid f3
    obtain ⟨y, hy⟩ : ∃ y, y = M0 := ⟨_, rfl⟩
    have hM0 : M0 = (m : Int) - 2 := by omega
    subst hM0
    have e1 : 2 + ((m : Int) - 2) = (m : Int) := by omega
    have e2 : M + 1 = (N : Int) := hN.symm
    clear hm f1 f2 f3 hN y hy
    go_wp2_with fail
    refine (sFind_any (m : Int) _).mono ?_
    rintro e w3 ⟨v, rfl, ho, hk3⟩
    have HO := Lib.hid (ho.weak K2.out.size)
    have K3 := Lib.hid (K2.out.trans hk3)
    clear ho hk3
    go_wp2_with fail
    exact bodyPost_ret (v := .tuple #[.int .i64 (N : Int), v]) (by simp [results, Try.results39, go_sem]) rfl ⟨v, N, _, rfl, F3.out, HO.out, K3.out⟩
  | false =>
    go_wp2_with fail
    refine (l01Below_any g A n c xs 30 _ (by omega) HC1.out).mono ?_
    rintro e w2 ⟨N0, rfl, n0, n1, hc2, hg2⟩
    have K2 := Lib.hid ((K1.out.grown hg2 (fun k e => by cases e; exact hg0)).alloc (.cells #[] 3))
    have HC2 := Lib.hid (hc2.carry (row := none) (grown_alloc w2 (.cells #[] 3)) (by simp))
    have HO2 := Lib.hid ((owi_empty w2).weak (show w0.heap.size ≤ w2.heap.size from (K1.out.grown hg2 (fun k e => by cases e; exact hg0)).size))
    have hg2' : g < w2.heap.size := hc2.lt
    clear hc2 hg2
    obtain ⟨N, hN⟩ : ∃ N : Nat, (N : Int) = 1 + N0 := ⟨(1 + N0).toNat, by omega⟩
    have hM0 : N0 = (N : Int) - 1 := by omega
    subst hM0
    have e1 : 1 + ((N : Int) - 1) = (N : Int) := by omega
    have hN30 : 1 ≤ N ∧ N ≤ 30 := by omega
    clear hN n0 n1
    go_wp2_with fail
    go_loopw [6, 7] (fun o i wr => ∃ k : Nat, ∃ L : List Int, k ≤ N ∧ i = .int .i64 k ∧ L.length ≤ 8 ∧ Ris L (k : Int) ∧ OwI (g + 1) wr o L ∧ Cur wr g A n c xs ∧ Kp w0 wr) (fun _ i _ => 60 - (intOf i).toNat)
    case atStart => exact ⟨0, [], by omega, rfl, by simp, ris_nil _, (owi_empty w2).weak (by omega), HC2.out, K2.out⟩
    case round =>
      obtain ⟨k, L, hk, rfl, hL8, hri, ho, hcu, hkp⟩ := hrel
      obtain ⟨Q, hQ⟩ : ∃ Q, Q = L.length := ⟨_, rfl⟩
      have HRI := Lib.hid hri
      have HO := Lib.hid ho
      have HCU := Lib.hid hcu
      have HKP := Lib.hid hkp
      obtain ⟨Av, cv, rfl, hrd⟩ := ho.rd
      have HOW := Lib.hid (show wr.ownsRow (g + 1) 3 1 (.slice Av Q cv) Q (L.map (.int .i64)) by have := HO.out; unfold OwI at this; rw [← hQ] at this; exact this)
      have HO0 := Lib.hid (show OwI w0.heap.size wr (.slice Av Q cv) L by have := HO.out.weak (show w0.heap.size ≤ g + 1 by omega); rw [← hQ] at this; exact this)
      rw [← hQ] at hL8 ⊢
      have HQ := Lib.hid hQ
      have hgr := hcu.lt
      clear hri ho hcu hkp hrd hQ
      have fin : 1 ≤ Q → ∃ (v2 : Value) (N2 : Nat) (L2 : List Int), (Ending.returned (.tuple #[.int .i64 (N : Int), .slice Av Q cv]) = .returned (.tuple #[.int .i64 (N2 : Int), v2])) ∧ circB (N2 : Int) L2 = true ∧ OwI w0.heap.size wr v2 L2 ∧ Kp w0 wr := fun h1 =>
        ⟨_, N, L, rfl, (HRI.out.more (by omega)).circ (by omega) (by rw [← HQ.out]; omega), HO0.out, HKP.out⟩
      have HFI := Lib.hid fin
      clear fin
      by_cases hlt : k < N
      · by_cases h8 : Q < 8
        · go_wp2_with fail
          refine (l01Once_any g A n c xs 4 _ (by omega) HCU.out).mono ?_
          rintro e w3 ⟨B, rfl, hc3, hg3⟩
          have HC3 := Lib.hid hc3
          have K3 := Lib.hid (HKP.out.grown hg3 (fun k e => by cases e; exact hg0))
          have HOW3 := Lib.hid (World.ownsRow.kept HOW.out hg3 (by
            cases e : (Value.slice Av Q cv).ownBlock with
            | none => exact .inl rfl
            | some b' =>
              refine .inr fun e' => ?_
              injection e' with e'
              have := (World.ownsRow.lt HOW.out b' e).1
              omega))
          have hg3' : g < w3.heap.size := hc3.lt
          clear hc3 hg3
          cases B with
          | true =>
            go_wp2_with (at_builtin; refine wpList_append_any _ rfl (.tmp 36) (.tmp 38) _ rfl (g + 1) 3 i0 _ 1 8 Try.underlying22 hi0 hz0' hz1 hz2 rfl (by omega) (.slice Av Q cv) Q (L.map (.int .i64)) rfl (HOW3.out.alloc _) (w3.heap.size + 1) (some ⟨w3.heap.size, 0, none⟩) 1 1 [.int .i64 (k : Int)] rfl (reads_one _ _ _) (oneCell_one _) (by simp only [maxLen]; omega) (by omega) (by simp; omega) ?_; intro v2 w5 hown2 hg2 hat2; have HO5 := Lib.hid hown2; have HG5 := Lib.hid hg2; clear hown2 hg2 hat2)
            go_roundw
            case rel =>
              refine ⟨k + 1, L ++ [(k : Int)], by omega, by go_num, by rw [List.length_append, ← HQ.out]; simp; omega, HRI.out.push (by omega) (by omega), ?_, ?_, ?_⟩
              · refine OwI.push (w := w) (w1 := w) (v := .bool true) ?_
                rw [← HQ.out]; exact HO5.out
              · exact (HC3.out.carry (row := none) (grown_alloc _ _) (by simp)).carry HG5.out (fun k' e => by have := (World.ownsRow.lt HOW3.out k' e).1; omega)
              · exact (K3.out.alloc _).grown HG5.out (fun k' e => by have := (World.ownsRow.lt HOW3.out k' e).1; omega)
            case measure => simp [intOf]; omega
          | false =>
            go_wp2_with fail
            go_roundw
            case rel => exact ⟨k + 1, L, by omega, by go_num, by rw [← HQ.out]; omega, HRI.out.more (by omega), by unfold OwI; rw [← HQ.out]; exact HOW3.out, HC3.out, K3.out⟩
            case measure => simp [intOf]; omega
        · have hq0 : ((Q : Int) == 0) = false := by simp; omega
          go_wp2_with fail
          exact bodyPost_ret (v := .tuple #[.int .i64 (N : Int), .slice Av Q cv]) (by simp [results, Try.results39, go_sem]) rfl (HFI.out (by omega))
      · by_cases hq : Q = 0
        · subst hq
          have hL : L = [] := List.eq_nil_of_length_eq_zero HQ.out.symm
          have HL := Lib.hid hL
          go_wp2_with (at_builtin; refine wpList_append_any _ rfl (.tmp 43) (.tmp 46) _ rfl (g + 1) 3 i0 _ 1 8 Try.underlying22 hi0 hz0' hz1 hz2 rfl (by omega) (.slice Av 0 cv) 0 (L.map (.int .i64)) rfl (HOW.out.alloc _) (wr.heap.size + 1) (some ⟨wr.heap.size, 0, none⟩) 1 1 [.int .i64 ((N : Int) - 1)] rfl (reads_one _ _ _) (oneCell_one _) (by simp only [maxLen]; omega) (by omega) (by simp; omega) ?_; intro v2 w5 hown2 hg2 hat2; have HO5 := Lib.hid hown2; have HG5 := Lib.hid hg2; clear hown2 hg2 hat2)
          refine bodyPost_ret (v := .tuple #[.int .i64 (N : Int), v2]) (by simp [results, Try.results39, go_sem]) rfl ⟨v2, N, [(N : Int) - 1], rfl, ?_, ?_, ?_⟩
          · exact ((ris_nil ((N : Int) - 1)).push (by omega) (show (N : Int) - 1 < N by omega)).circ (by omega) (by simp)
          · have h5 := HO5.out
            rw [HL.out] at h5
            exact (OwI.push (w := w) (w1 := w) (v := .bool true) (xs := []) (by simpa using h5) : OwI (g + 1) w5 v2 ([] ++ [(N : Int) - 1])).weak (by omega)
          · exact (HKP.out.alloc _).grown HG5.out (fun k' e => by have := (World.ownsRow.lt HOW.out k' e).1; omega)
        · have hq0 : ((Q : Int) == 0) = false := by simp; omega
          go_wp2_with fail
          exact bodyPost_ret (v := .tuple #[.int .i64 (N : Int), .slice Av Q cv]) (by simp [results, Try.results39, go_sem]) rfl (HFI.out (by omega))
theorem drawCircle_any (A : Option Addr) (n c : Nat) (xs : List Int) (w : World) (hl : xs.length = n) (hn : n ≤ 1048576) (hr : Reads w w.heap.size 1 A n (xs.map (.int .u8))) (hx : ∀ x ∈ xs, 0 ≤ x ∧ x ≤ 255) :
    Calls Try.prog 27 #[.slice A n c] w fun e w' => ∃ (v : Value) (N : Nat) (L : List Int), e = .returned (.tuple #[.int .i64 (N : Int), v]) ∧ circB (N : Int) L = true ∧ OwI w.heap.size w' v L ∧ Kp w w' := by
  have HR := Lib.hid hr
  have HX := Lib.hid hx
  clear hr hx
  go_enter Try.func27, Try.ntmps27
  go_wp2_with fail
  refine (l01New_any A n c xs _ hl hn HR.out HX.out).mono ?_
  rintro e w1 ⟨g, rfl, hg, hc, hk⟩
  have HC := Lib.hid hc
  have HK := Lib.hid hk
  clear hc hk
  go_wp2_with fail
  refine (l10Circle_any g A n c xs _ HC.out w HK.out hg).mono ?_
  rintro e w2 ⟨v, N, L, rfl, hcb, ho, hk2⟩
  have HCB := Lib.hid hcb
  have HO := Lib.hid ho
  have HK2 := Lib.hid hk2
  clear hcb ho hk2
  go_wp2_with fail
  exact bodyPost_ret (v := .tuple #[.int .i64 (N : Int), v]) (by simp [results, Try.results27, go_sem]) rfl ⟨v, N, L, rfl, HCB.out, HO.out, HK2.out⟩
end Go.Proofs.Ytoobpkcnmgjccaa
