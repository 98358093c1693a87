/- moved, TurnMarks, StretchMarks: the program's contracts. -/
import Derived.Test.YtoobpkcnmgjccaaStretchS
import Derived.Test.YtoobpkcnmgjccaaShelfCi
import Derived.Sort.OwnSortedInts
set_option linter.unusedVariables false
namespace Go.Proofs.Ytoobpkcnmgjccaa
open Go.RowKit Go.Sort
theorem Any_sort (w : World) (B g cap : Nat) (L : List Int) (h : OwI B w (.slice (some ⟨g, 0, none⟩) L.length cap) L) (hs : L.length ≤ 1048576) :
    Calls Try.prog 43 #[.slice (some ⟨g, 0, none⟩) L.length cap] w fun e w' => e = .returned (.tuple #[]) ∧ OwI B w' (.slice (some ⟨g, 0, none⟩) L.length cap) (srt L) ∧ w.grownBy w' (some g) := by
  rcases h.2 with ⟨h1, _⟩ | ⟨g', cap', cur, hv, hg, hb, h1, h2, h3, h4⟩
  · cases h1
  cases hv
  have hlt : g < w.heap.size := (Array.getElem?_eq_some_iff.1 hb).1
  have hH : Holds (Value.int .i64) w g 0 L.toArray := Go.holds_of_blockI hb (by simpa using h4)
  refine (Try.sort_Ints g 0 cap L w hH hlt (by omega)).mono ?_
  rintro e w' ⟨rfl, n, os, rfl⟩
  refine ⟨rfl, ?_, Go.grownBy_sortedI _⟩
  have := Go.ownsRow_sortedI (n := n) (os := os) (ts := srt L) (ss := L) (base := B) (e := 3) (srt_length L) hg hb h1 h2 (by simpa using h3)
  unfold OwI
  rw [srt_length]
  exact this
def mvF (N t d : Int) (m : Int) : Int := (m * t + d) % N
set_option maxHeartbeats 6400000 in
theorem moved_any (A : Option Addr) (n c : Nat) (xs : List Int) (N t d : Int) (w : World) (hl : xs.length = n) (hn : 1 ≤ n ∧ n ≤ 8) (hN : 1 ≤ N ∧ N ≤ 60) (ht : 0 ≤ t ∧ t ≤ 60) (hd : 0 ≤ d ∧ d ≤ 60) (ha : allB 0 (N - 1) xs = true) (hr : Reads w w.heap.size 1 A n (xs.map (.int .i64))) :
    Calls Try.prog 36 #[.int .i64 N, .slice A n c, .int .i64 t, .int .i64 d] w fun e w' => ∃ v, e = .returned v ∧ OwI w.heap.size w' v (srt (xs.map (mvF N t d))) ∧ Kp w w' := by
  obtain ⟨i0, hi0, hz0, hz1, hz2⟩ := info_parts int_info
  have HR := Lib.hid hr
  have HL := Lib.hid hl
  have HA := Lib.hid ha
  clear hr hl ha
  go_enter Try.func36, Try.ntmps36
  go_wp2_with fail
  go_loopw [9, 14] (fun o i wr => ∃ k : Nat, k ≤ n ∧ i = .int .i64 k ∧ OwI w.heap.size wr o ((xs.take k).map (mvF N t d)) ∧ Kp w wr) (fun _ i _ => n - (intOf i).toNat)
  case atStart => exact ⟨0, by omega, rfl, (show OwI _ _ _ [] from World.ownsRow_nil _ _ _ _), Kp.refl _⟩
  case round =>
    obtain ⟨k, hk, rfl, ho, hkp⟩ := hrel
    obtain ⟨Av, cv, rfl, hrd⟩ := ho.rd
    have hlen : ((xs.take k).map (mvF N t d)).length = k := by rw [List.length_map, List.length_take, HL.out]; omega
    have HO := Lib.hid ho
    rw [hlen]
    have HOW := Lib.hid (show wr.ownsRow w.heap.size 3 1 (.slice Av k cv) k (((xs.take k).map (mvF N t d)).map (.int .i64)) by have := ho; unfold OwI at this; rw [hlen] at this; exact this)
    have HKP := Lib.hid hkp
    have HLE := Lib.hid hlen
    have hz := hkp.size
    clear ho hrd hkp hlen
    by_cases hlt : k < n
    · obtain ⟨b', off, u', rfl, hb', hu', hc'⟩ := (HR.out.kp HKP.out).cellOf (k := k) (by omega)
      have cx := hc' k _ (get_map (by rw [HL.out]; exact hlt))
      have hxx : xs[k]'(by rw [HL.out]; exact hlt) = xs.getD k 0 := by rw [List.getD_eq_getElem?_getD, List.getElem?_eq_getElem (by rw [HL.out]; exact hlt)]; rfl
      rw [hxx] at cx
      have hX := allB_iff.1 HA.out k (by rw [HL.out]; exact hlt)
      have hnx := map_take_succ (mvF N t d) (show k < xs.length by rw [HL.out]; exact hlt)
      rw [show mvF N t d (xs.getD k 0) = (xs.getD k 0 * t + d) % N from rfl] at hnx
      obtain ⟨X, eX⟩ : ∃ X, X = xs.getD k 0 := ⟨_, rfl⟩
      rw [← eX] at cx hX hnx
      have hM := mul_bd (a := X) (b := t) (A := 60) (B := 60) (by omega) (by omega)
      have hM0 := Int.mul_nonneg (show 0 ≤ X by omega) (show 0 ≤ t by omega)
      obtain ⟨M, eM⟩ : ∃ M, X * t = M := ⟨_, rfl⟩
      rw [eM] at hM hM0 hnx
      have t1 : (M + d).tmod N = (M + d) % N := Int.tmod_eq_emod_of_nonneg (by omega)
      have t2 : (N == 0) = false := by simp; omega
      obtain ⟨R, eR⟩ : ∃ R, R = (M + d) % N := ⟨_, rfl⟩
      rw [← eR] at t1 hnx
      have HNX := Lib.hid hnx
      have i0' : (0 : Int) ≤ (k : Int) := by omega
      have i1 : (k : Int) < (n : Int) := by omega
      clear hc' hu' hxx eX eR hnx
      go_wp2_with (at_builtin; refine wpList_append_any _ rfl (.tmp 18) (.tmp 26) _ rfl w.heap.size 3 i0 _ 1 8 Try.underlying22 hi0 hz0 hz1 hz2 rfl (by omega) (.slice Av k cv) k (((xs.take k).map (mvF N t d)).map (.int .i64)) rfl (HOW.out.alloc _) (wr.heap.size + 1) (some ⟨wr.heap.size, 0, none⟩) 1 1 [.int .i64 R] rfl (reads_one _ _ _) (oneCell_one _) (by simp only [maxLen]; omega) (by omega) (by simp; omega) ?_; intro v2 w5 hown2 hg2 hat2; have HO5 := Lib.hid hown2; have HG5 := Lib.hid hg2; clear hown2 hg2 hat2)
      go_roundw
      case rel =>
        refine ⟨k + 1, by omega, by go_num, ?_, (HKP.out.alloc _).grown HG5.out (fun k' e => (World.ownsRow.lt HOW.out k' e).1)⟩
        rw [HNX.out]
        refine OwI.push (w := w) (w1 := w) (v := .bool true) ?_
        rw [HLE.out]
        exact HO5.out
      case measure => simp [intOf]; omega
    · obtain rfl : k = n := by omega
      have etk : xs.take k = xs := List.take_of_length_le (by rw [HL.out]; omega)
      have ho := HO.out
      rw [etk] at ho
      obtain ⟨g, cap, e, hb, hg⟩ := ho.form (by rw [List.length_map, HL.out]; omega)
      have hlm : (xs.map (mvF N t d)).length = k := by rw [List.length_map, HL.out]
      rw [← etk, HLE.out] at e
      cases e
      have ho2 : OwI w.heap.size wr (.slice (some ⟨g, 0, none⟩) (xs.map (mvF N t d)).length cv) (xs.map (mvF N t d)) := by
        rw [hlm]
        have := ho
        rw [← etk, HLE.out, etk] at this
        exact this
      have HO2 := Lib.hid ho2
      have HLM := Lib.hid hlm
      clear ho ho2 hlm etk
      go_wp2_with fail
      have hS := Any_sort wr w.heap.size g cv (xs.map (mvF N t d)) HO2.out (by rw [HLM.out]; omega)
      rw [HLM.out] at hS
      refine hS.mono ?_
      rintro e w3 ⟨rfl, ho3, hg3⟩
      have HO3 := Lib.hid ho3
      have HK3 := Lib.hid (HKP.out.grown hg3 (fun k' e => by cases e; exact hb))
      clear ho3 hg3 hS
      go_wp2_with fail
      go_ret
      exact ⟨_, rfl, HO3.out, HK3.out⟩
end Go.Proofs.Ytoobpkcnmgjccaa
