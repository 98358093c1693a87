/- The reference's insertion sort (l10Sorted) gives the sorted list. -/
import Derived.Test.YtoobpkcnmgjccaaCircle
import Derived.Test.YtoobpkcnmgjccaaApp
set_option linter.unusedVariables false
namespace Go.Proofs.Ytoobpkcnmgjccaa
open Go.RowKit
def leI (a b : Int) : Bool := decide (a ≤ b)
def srt (l : List Int) : List Int := l.mergeSort leI
theorem leI_tr : ∀ a b c : Int, leI a b = true → leI b c = true → leI a c = true := by intro a b c; simp [leI]; omega
theorem leI_to : ∀ a b : Int, (leI a b || leI b a) = true := by intro a b; simp [leI]; omega
theorem srt_of {l s : List Int} (hp : s.Perm l) (hs : s.Pairwise (fun a b => a ≤ b)) : s = srt l := by
  refine List.Perm.eq_of_pairwise (le := fun a b => leI a b = true) (fun a b _ _ h1 h2 => ?_) (hs.imp (fun h => by simpa [leI] using h)) (List.pairwise_mergeSort leI_tr leI_to l) (hp.trans (List.mergeSort_perm l leI).symm)
  simp [leI] at h1 h2; omega
theorem srt_length (l : List Int) : (srt l).length = l.length := (List.mergeSort_perm l leI).length_eq
theorem srt_nil : srt [] = [] := by simp [srt]
/-- Where the inner loop stands: x is to come to place k. -/
def Hole (M : List Int) (S D : List Int) (x : Int) (k : Nat) : Prop := ∃ S1 S2 : List Int, S = S1 ++ S2 ∧ S1.length = k ∧ M.length = S.length + 1 + D.length ∧ M.set k x = S1 ++ x :: (S2 ++ D) ∧ ∀ y ∈ S2, x < y
theorem Hole.start {M S D : List Int} {x : Int} (h : M = S ++ x :: D) : Hole M S D x S.length := by
  subst h
  refine ⟨S, [], by simp, rfl, by simp; omega, ?_, by simp⟩
  rw [List.set_append_right _ _ (Nat.le_refl _), Nat.sub_self]; rfl
theorem Hole.below {M S D : List Int} {x : Int} {k : Nat} (h : Hole M S D x (k + 1)) : ∃ S1 y S2, S = S1 ++ y :: S2 ∧ S1.length = k ∧ M.getD k 0 = y ∧ (x < y → Hole (M.set (k + 1) y) S D x k) := by
  obtain ⟨S1, S2, hS, hl, hml, hset, hgt⟩ := h
  obtain ⟨S0, y, rfl⟩ : ∃ S0 y, S1 = S0 ++ [y] := ⟨S1.dropLast, S1.getLast (by intro e; subst e; simp at hl), (List.dropLast_concat_getLast _).symm⟩
  have hl0 : S0.length = k := by simpa using hl
  refine ⟨S0, y, S2, by rw [hS]; simp, hl0, ?_, fun hxy => ?_⟩
  · have h1 : (M.set (k + 1) x)[k]? = some y := by
      rw [hset, List.append_assoc, List.getElem?_append_right (by omega), hl0, Nat.sub_self]; rfl
    rw [List.getElem?_set, if_neg (by omega)] at h1
    rw [List.getD_eq_getElem?_getD, h1]; rfl
  · refine ⟨S0, y :: S2, by rw [hS]; simp, hl0, by rw [List.length_set, hml], ?_, fun z hz => ?_⟩
    · have e1 : (M.set (k + 1) y).set k x = (((M.set (k + 1) x).set (k + 1) y).set k x) := by rw [List.set_set]
      rw [e1, hset, List.append_assoc, List.set_append_right _ _ (by omega), List.set_append_right _ _ (by omega), hl0, Nat.sub_self, show k + 1 - k = 1 by omega]
      rfl
    · rcases List.mem_cons.1 hz with rfl | hz
      · exact hxy
      · exact hgt z hz
theorem Hole.done {M S D : List Int} {x : Int} {k : Nat} (h : Hole M S D x k) (hs : S.Pairwise (fun a b => a ≤ b)) (hstop : k = 0 ∨ M.getD (k - 1) 0 ≤ x) :
    ∃ T, M.set k x = T ++ D ∧ T.length = S.length + 1 ∧ T.Pairwise (fun a b => a ≤ b) ∧ (T ++ D).Perm (S ++ x :: D) := by
  have hb : ∀ j, k = j + 1 → ∃ S1 y S2, S = S1 ++ y :: S2 ∧ S1.length = j ∧ M.getD j 0 = y := fun j e => by
    subst e
    obtain ⟨S1, y, S2, a, b, c, _⟩ := h.below
    exact ⟨S1, y, S2, a, b, c⟩
  obtain ⟨S1, S2, hS, hl, hml, hset, hgt⟩ := h
  refine ⟨S1 ++ x :: S2, by rw [hset]; simp, by rw [hS]; simp; omega, ?_, ?_⟩
  · rw [hS] at hs
    have hp := List.pairwise_append.1 hs
    refine List.pairwise_append.2 ⟨hp.1, List.pairwise_cons.2 ⟨fun y hy => by have := hgt y hy; omega, hp.2.1⟩, fun a ha b hb' => ?_⟩
    rcases List.mem_cons.1 hb' with rfl | hb'
    · rcases Nat.eq_zero_or_pos k with h0 | h0
      · have : S1 = [] := List.eq_nil_of_length_eq_zero (by omega)
        subst this; simp at ha
      · obtain ⟨j, hj⟩ : ∃ j, k = j + 1 := ⟨k - 1, by omega⟩
        obtain ⟨R1, y, R2, e1, e2, e3⟩ := hb j hj
        have hy : y ≤ b := by
          rcases hstop with h | h
          · omega
          · rw [hj, Nat.add_sub_cancel, e3] at h; exact h
        have hcut : S1 = R1 ++ [y] := by
          have e4 : S1 ++ S2 = (R1 ++ [y]) ++ R2 := by rw [← hS, e1]; simp
          exact (List.append_inj e4 (by simp; omega)).1
        rw [hcut] at ha hp
        rcases List.mem_append.1 ha with ha | ha
        · have := (List.pairwise_append.1 hp.1).2.2 a ha y (by simp); omega
        · have : a = y := by simpa using ha
          omega
    · exact hp.2.2 a ha b hb'
  · rw [hS, List.append_assoc, List.append_assoc]
    refine List.Perm.append_left S1 ?_
    rw [List.cons_append]
    exact (List.perm_middle (l₁ := S2) (a := x) (l₂ := D)).symm
theorem row_cell {B : Nat} {w : World} {g n cap : Nat} {L : List Int} (hl : L.length = n) {j : Nat} (hj : j < n) (h : OwI B w (.slice (some ⟨g, 0, none⟩) n cap) L) :
    w.cell? ⟨g, j, none⟩ = some (.int .i64 (L.getD j 0)) ∧ w.frozen? ⟨g, j, none⟩ = false ∧ ∀ e : Int, OwI B (w.setCell ⟨g, j, none⟩ (.int .i64 e)) (.slice (some ⟨g, 0, none⟩) n cap) (L.set j e) := by
  unfold OwI at h ⊢
  rw [hl] at h
  refine ⟨?_, World.ownsRow.frozenAt h _, fun e => ?_⟩
  · rw [World.ownsRow.cellAt h _ (by omega), List.getElem?_map, List.getElem?_eq_getElem (by omega), List.getD_eq_getElem?_getD, List.getElem?_eq_getElem (by omega)]; rfl
  · rw [List.length_set, hl]
    have := (World.ownsRow.stored h j (.int .i64 e)).1
    rw [← List.map_set] at this
    exact this
set_option maxHeartbeats 6400000 in
theorem l10Sorted_any (A : Option Addr) (n c : Nat) (xs : List Int) (w : World) (hl : xs.length = n) (hn : n ≤ 1048576) (hr : Reads w w.heap.size 1 A n (xs.map (.int .i64))) :
    Calls Try.prog 35 #[.slice A n c] w fun e w' => ∃ v, e = .returned v ∧ OwI w.heap.size w' v (srt xs) ∧ Kp w w' := by
  obtain ⟨i0, hi0, hz0, hz1, hz2⟩ := info_parts int_info
  have h1c := oneCell_ints xs
  have HR := Lib.hid hr
  have HL := Lib.hid hl
  clear hr hl
  go_enter Try.func35, Try.ntmps35
  go_wp2_with (at_builtin; refine wpList_append_any _ rfl (.tmp 7) (.tmp 8) _ rfl w.heap.size 3 i0 _ 1 8 Try.underlying22 hi0 hz0 hz1 hz2 rfl (by omega) (.slice (some ⟨w.heap.size, 0, none⟩) 0 0) 0 [] rfl (World.ownsRow_made w #[] 0 (Nat.le_refl _) (by unfold maxLen; omega) rfl) w.heap.size A n c (xs.map (.int .i64)) rfl (HR.out.alloc (Nat.le_refl _) _) h1c (by simp only [maxLen]; omega) (by omega) (by simp) ?_; intro v1 w1 hown1 hg1 hat1)
  have ho1 : OwI w.heap.size w1 v1 xs := by unfold OwI; rw [HL.out]; simpa using hown1
  have hk1 : Kp w w1 := ((Kp.refl w).alloc _).grown hg1 (by intro k e; simp [Value.ownBlock] at e; omega)
  clear hown1 hg1 hat1
  rcases Nat.eq_zero_or_pos n with h0 | h0
  · subst h0
    have hx : xs = [] := List.eq_nil_of_length_eq_zero HL.out
    obtain ⟨A1, c1, rfl, hr1⟩ := ho1.rd
    have HO := Lib.hid (show OwI w.heap.size w1 (.slice A1 xs.length c1) (srt xs) by rw [hx, srt_nil]; rw [hx] at ho1; exact ho1)
    rw [HL.out] at HO ⊢
    have HK := Lib.hid hk1
    clear hx ho1 hr1 hk1
    go_wp2_with fail
    refine wp_loop_rounds 1 ?_
    rw [rounds_succ]
    go_wp2_with fail
    go_ret
    exact ⟨_, rfl, HO.out, HK.out⟩
  · obtain ⟨g, cap, rfl, hb, hg⟩ := ho1.form (by rw [HL.out]; exact h0)
    rw [HL.out] at ho1 ⊢
    have HO := Lib.hid ho1
    have HK := Lib.hid hk1
    clear ho1 hk1
    go_wp2_with fail
    go_loopw [4] (fun i wr => ∃ k : Nat, ∃ S D : List Int, i = .int .i64 k ∧ S.length = k ∧ S.length + D.length = n ∧ 1 ≤ k ∧ S.Pairwise (fun a b => a ≤ b) ∧ (S ++ D).Perm xs ∧ OwI w.heap.size wr (.slice (some ⟨g, 0, none⟩) n cap) (S ++ D) ∧ Kp w wr) (fun i _ => n - (intOf i).toNat)
    case atStart =>
      have hne : ∃ x D, xs = x :: D := by
        have h2 := HL.out
        cases hx : xs with
        | nil => rw [hx] at h2; simp at h2; omega
        | cons x D => exact ⟨x, D, rfl⟩
      obtain ⟨x, D, hx⟩ := hne
      exact ⟨1, [x], D, rfl, rfl, by have := HL.out; rw [hx] at this; simp at this ⊢; omega, by omega, by simp, by rw [hx]; exact List.Perm.refl _, by have := HO.out; rw [hx] at this; exact this, HK.out⟩
    case round =>
      obtain ⟨k, S, D, rfl, hSl, hSD, hk1, hsort, hperm, ho, hkp⟩ := hrel
      have HS := Lib.hid hsort
      have HP := Lib.hid hperm
      have HKP := Lib.hid hkp
      have HSL := Lib.hid hSl
      by_cases hlt : k < n
      · obtain ⟨x, D', rfl⟩ : ∃ x D', D = x :: D' := by
          cases D with
          | nil => simp at hSD; omega
          | cons x D' => exact ⟨x, D', rfl⟩
        have hlen : (S ++ x :: D').length = n := by simp at hSD ⊢; omega
        obtain ⟨cx, fx, _⟩ := row_cell hlen hlt ho
        have hxk : (S ++ x :: D').getD k 0 = x := by rw [List.getD_eq_getElem?_getD, List.getElem?_append_right (by omega), hSl, Nat.sub_self]; rfl
        rw [hxk] at cx
        have HH := Lib.hid (by have := Hole.start (M := S ++ x :: D') (S := S) (D := D') (x := x) rfl; rw [hSl] at this; exact this : Hole (S ++ x :: D') S D' x k)
        have HLEN := Lib.hid hlen
        have HO2 := Lib.hid ho
        have i0 : (0 : Int) ≤ (k : Int) := by omega
        have i1 : (k : Int) < (n : Int) := by omega
        clear hxk hlen ho hsort hperm hkp hSl
        go_wp2_with fail
        go_loopw [6] (fun i wx => ∃ j : Nat, ∃ M : List Int, j ≤ k ∧ i = .int .i64 j ∧ Hole M S D' x j ∧ M.length = n ∧ OwI w.heap.size wx (.slice (some ⟨g, 0, none⟩) n cap) M ∧ Kp w wx) (fun i _ => (intOf i).toNat)
        case atStart => exact ⟨k, _, by omega, rfl, HH.out, HLEN.out, HO2.out, HKP.out⟩
        case round =>
          obtain ⟨j, M, hjk, rfl, hh, hml, hom, hkm⟩ := hrel
          obtain ⟨cj, fj, sj⟩ := row_cell hml (show j < n by omega) hom
          have hj0 : (0 : Int) ≤ (j : Int) := by omega
          have hj1 : (j : Int) < (n : Int) := by omega
          have fin : (j = 0 ∨ M.getD (j - 1) 0 ≤ x) → ∃ T : List Int, OwI w.heap.size (World.setCell _ ⟨g, j, none⟩ (.int .i64 x)) (.slice (some ⟨g, 0, none⟩) n cap) (T ++ D') ∧ T.length = k + 1 ∧ T.length + D'.length = n ∧ T.Pairwise (fun a b => a ≤ b) ∧ (T ++ D').Perm xs := fun hst => by
            obtain ⟨T, e1, e2, e3, e4⟩ := hh.done HS.out hst
            refine ⟨T, by rw [← e1]; exact sj x, by rw [e2, HSL.out], ?_, e3, e4.trans HP.out⟩
            rw [e2]; simp at hSD; omega
          have HF := Lib.hid fin
          have HKM := Lib.hid (hkm.setCell (p := ⟨g, j, none⟩) hb (.int .i64 x))
          rcases Nat.eq_zero_or_pos j with hz | hz
          · subst hz
            obtain ⟨T, t1, t2, t3, t4, t5⟩ := fin (.inl rfl)
            have T1 := Lib.hid t1
            have T4 := Lib.hid t4
            have T5 := Lib.hid t5
            clear fin hh hom hkm sj t1 t4 t5
            go_wp2_with fail
            go_roundw
            case rel => exact ⟨k + 1, T, D', by go_num, t2, t3, by omega, T4.out, T5.out, T1.out, HKM.out⟩
            case measure => simp [intOf]; omega
          · obtain ⟨j', rfl⟩ : ∃ j', j = j' + 1 := ⟨j - 1, by omega⟩
            obtain ⟨S1, y, S2, e1, e2, e3, hnext⟩ := hh.below
            obtain ⟨cy, fy, _⟩ := row_cell hml (show j' < n by omega) hom
            rw [e3] at cy
            by_cases hgt : x < y
            · have HN := Lib.hid (hnext hgt)
              have HST := Lib.hid (sj y)
              have HKS := Lib.hid (hkm.setCell (p := ⟨g, j' + 1, none⟩) hb (.int .i64 y))
              have HML := Lib.hid (show (M.set (j' + 1) y).length = n by rw [List.length_set, hml])
              clear fin hh hom hkm sj hnext e1 e2 e3 hml
              go_wp2_with fail
              go_roundw
              case rel => exact ⟨j', _, by omega, by go_num, HN.out, HML.out, HST.out, HKS.out⟩
              case measure => simp [intOf]
            · obtain ⟨T, t1, t2, t3, t4, t5⟩ := fin (.inr (by rw [Nat.add_sub_cancel, e3]; omega))
              have T1 := Lib.hid t1
              have T4 := Lib.hid t4
              have T5 := Lib.hid t5
              clear fin hh hom hkm sj hnext e1 e2 e3 t1 t4 t5 hml
              go_wp2_with fail
              go_roundw
              case rel => exact ⟨k + 1, T, D', by go_num, t2, t3, by omega, T4.out, T5.out, T1.out, HKM.out⟩
              case measure => simp [intOf]; omega
      · have hD : D = [] := List.eq_nil_of_length_eq_zero (by omega)
        subst hD
        have HT := Lib.hid (show OwI w.heap.size wr (.slice (some ⟨g, 0, none⟩) n cap) (srt xs) by
          rw [List.append_nil] at ho hperm
          rw [← srt_of hperm hsort]; exact ho)
        obtain rfl : k = n := by simp at hSD; omega
        clear hsort hperm ho hkp
        go_wp2_with fail
        go_ret
        exact ⟨_, rfl, HT.out, HKP.out⟩
end Go.Proofs.Ytoobpkcnmgjccaa
