/- MarksOf: the plain word and the contracts. -/
import Derived.Test.YtamhdjbhoafbhaaFracS
set_option linter.unusedVariables false
namespace Go.Proofs.Ytamhdjbhoafbhaa
open Go.RowKit
def mkRow (p s e u : Int) (k : Nat) : List (Int × Int) := (List.range k).map fun i : Nat => (markT p s e ((i : Int) * u), markU p s e ((i : Int) * u))
theorem mkRow_length (p s e u : Int) (k : Nat) : (mkRow p s e u k).length = k := by simp [mkRow]
theorem mkRow_succ (p s e u : Int) (k : Nat) : mkRow p s e u (k + 1) = mkRow p s e u k ++ [(markT p s e ((k : Int) * u), markU p s e ((k : Int) * u))] := by simp [mkRow, List.range_succ]
theorem pC_append (xs ys : List (Int × Int)) : pC (xs ++ ys) = pC xs ++ pC ys := by
  induction xs with
  | nil => rfl
  | cons x l ih => simp [pC, ih]
def okMk (p s e u n : Int) : Bool := steelB p s e && inB u 1 100 && inB n 0 20 && (List.range (n.toNat + 1)).all fun i : Nat => markB p s e ((i : Int) * u)
def mksL (p s e u n : Int) : List (Int × Int) := if okMk p s e u n = true then mkRow p s e u (n.toNat + 1) else []
theorem mksL_length (p s e u n : Int) : (mksL p s e u n).length ≤ 1048576 := by
  rw [mksL]; split
  · rename_i h
    rw [mkRow_length]
    simp only [okMk, Bool.and_eq_true] at h
    have := inB_true.1 h.1.2
    omega
  · simp
theorem okMk_not {p s e u : Int} {N k : Nat} (hk : k ≤ N) (h : markB p s e ((k : Int) * u) = false) : okMk p s e u (N : Int) = false := by
  rw [Bool.eq_false_iff]
  intro hp
  simp only [okMk, Bool.and_eq_true, List.all_eq_true, List.mem_range, Int.toNat_natCast] at hp
  rw [hp.2 k (by omega)] at h; cases h
theorem okMk_yes {p s e u : Int} {N : Nat} (h1 : steelB p s e = true) (h2 : inB u 1 100 = true) (h3 : inB (N : Int) 0 20 = true) (h : ∀ k, k < N + 1 → markB p s e ((k : Int) * u) = true) : okMk p s e u (N : Int) = true := by
  simp only [okMk, Bool.and_eq_true, List.all_eq_true, List.mem_range, Int.toNat_natCast]
  exact ⟨⟨⟨h1, h2⟩, h3⟩, h⟩
theorem reads_pair (w : World) (a b : Int) (t : TypeId) : Reads (w.alloc (.cells #[.int .i64 a, .int .i64 b] t)) (w.heap.size + 1) 2 (some ⟨w.heap.size, 0, none⟩) 1 [.int .i64 a, .int .i64 b] := by
  refine ⟨rfl, fun _ => ⟨_, rfl, by simp, fun j u hu => ?_⟩⟩
  match j, hu with
  | 0, hu => simp at hu; subst hu; simp [Addr.add, go_sem]
  | 1, hu => simp at hu; subst hu; simp [Addr.add, go_sem]
theorem oneCell_two (a b : Int) : ∀ u ∈ [Value.int .i64 a, .int .i64 b], u.oneCell' = true := by
  intro u hu
  simp at hu
  rcases hu with rfl | rfl <;> rfl
theorem size_alloc (w : World) (o : Obj) : (w.alloc o).heap.size = w.heap.size + 1 := by simp
theorem cell_grown {w W : World} {row : Option Nat} {p : Addr} {v : Value} (h : w.grownBy W row) (hne : ∀ k, row = some k → p.block ≠ k) (hc : w.cell? p = some v) : W.cell? p = some v :=
  (World.cell?_of_block (h.block p.block (cell_lt hc) (fun e => hne _ e.symm rfl))).trans hc
theorem OwP.nil (B : Nat) (w : World) : OwP B w (.slice none 0 0) [] := World.ownsRow_nil _ _ _ _
theorem OwP.empty (w : World) : OwP w.heap.size (w.alloc (.cells #[] 33)) (.slice (some ⟨w.heap.size, 0, none⟩) 0 0) [] := World.ownsRow_made w #[] 0 (Nat.le_refl _) (by unfold maxLen; omega) rfl
set_option maxRecDepth 20000 in
set_option maxHeartbeats 6400000 in
theorem iMarksOf_any (p s e u n : Int) (w : World) :
    Calls Try.prog 27 #[.agg #[.int .i64 p, .int .i64 s, .int .i64 e], .int .i64 u, .int .i64 n] w fun x w' => ∃ v, x = .returned v ∧ OwP w.heap.size w' v (mksL p s e u n) ∧ Kp w w' := by
  obtain ⟨i0, hi0, hz0, hz1, hz2⟩ := info_parts frac_info
  by_cases hgo : steelB p s e = true ∧ inB u 1 100 = true ∧ inB n 0 20 = true
  · obtain ⟨h1, h2, h3⟩ := hgo
    have bu := inB_true.1 h2
    have bn := inB_true.1 h3
    obtain ⟨N, rfl⟩ : ∃ N : Nat, n = (N : Int) := ⟨n.toNat, by omega⟩
    have H1 := Lib.hid h1
    have H2 := Lib.hid h2
    have H3 := Lib.hid h3
    clear h1 h2 h3
    go_enter Try.func27, Try.ntmps27
    go_wp2_with (first | (go_at_call 15; refine (iSteelyardOk_any _ _ _ _).mono ?_; rintro e' w1 ⟨rfl, hk⟩; rw [H1.out]; have hkw : Kp w w1 := Kp.trans ((Kp.refl w).alloc _) hk; have c0_0 : w1.cell? ⟨w.heap.size, 0, none⟩ = some (.int .i64 p) := hk.at1 (by first | with_reducible assumption | simp [go_sem]); have c0_1 : w1.cell? ⟨w.heap.size, 1, none⟩ = some (.int .i64 s) := hk.at1 (by first | with_reducible assumption | simp [go_sem]); have c0_2 : w1.cell? ⟨w.heap.size, 2, none⟩ = some (.int .i64 e) := hk.at1 (by first | with_reducible assumption | simp [go_sem])) | (go_at_call 36; refine (in_any _ _ _ _).mono ?_; rintro e w' ⟨rfl, rfl⟩; first | rw [H2.out] | rw [H3.out]))
    go_loopw [7, 8] (fun o i wr => ∃ k : Nat, k ≤ N + 1 ∧ i = .int .i64 k ∧ (∀ j, j < k → markB p s e ((j : Int) * u) = true) ∧ OwP (w.heap.size + 1) wr o (mkRow p s e u k) ∧ wr.cell? ⟨w.heap.size, 0, none⟩ = some (.int .i64 p) ∧ wr.cell? ⟨w.heap.size, 1, none⟩ = some (.int .i64 s) ∧ wr.cell? ⟨w.heap.size, 2, none⟩ = some (.int .i64 e) ∧ Kp w wr) (fun _ i _ => N + 1 - (intOf i).toNat)
    case atStart => exact ⟨0, by omega, rfl, fun j hj => by omega, (show OwP _ _ _ [] from OwP.nil _ _), by assumption, by assumption, by assumption, by assumption⟩
    case round =>
      obtain ⟨k, hk, rfl, hok, ho, c0, c1, c2, hkp⟩ := hrel
      have HOK := Lib.hid hok
      have HKP := Lib.hid hkp
      have hz := hkp.size
      have hz0' := cell_lt c0
      simp only at hz0'
      obtain ⟨Av, cv, rfl, hrd⟩ := ho.rd
      have HO := Lib.hid ho
      rw [mkRow_length]
      clear hok ho hrd hkp
      by_cases hlt : k ≤ N
      · have hm := mul_bd (a := (k : Int)) (b := u) (A := 20) (B := 100) (by omega) (by omega)
        obtain ⟨M, hM⟩ : ∃ M, (k : Int) * u = M := ⟨_, rfl⟩
        have hs := mkRow_succ p s e u k
        have hn := okMk_not (p := p) (s := s) (e := e) (u := u) hlt
        rw [hM] at hm hs hn
        have HM := Lib.hid hM
        have HS := Lib.hid hs
        have HN := Lib.hid hn
        clear hs hn
        go_wp2_with fail
        refine (implMarkFor_any _ _ _ _ _).mono ?_
        obtain ⟨T, hT⟩ : ∃ T, T = markT p s e M := ⟨_, rfl⟩
        obtain ⟨U, hU⟩ : ∃ U, U = markU p s e M := ⟨_, rfl⟩
        obtain ⟨b, hb⟩ : ∃ b, b = markB p s e M := ⟨_, rfl⟩
        rw [← hT, ← hU, ← hb]
        have HT := Lib.hid hT
        have HU := Lib.hid hU
        have HB := Lib.hid hb
        clear hT hU hb hM
        rintro e' w2 ⟨rfl, hk2⟩
        have c0 := hk2.at1 c0
        have c1 := hk2.at1 c1
        have c2 := hk2.at1 c2
        have HO2 := Lib.hid (HO.out.kp hk2)
        have HK2 := Lib.hid (HKP.out.trans hk2)
        have hz2' := hk2.size
        cases b with
        | false =>
          have HF := Lib.hid (show mksL p s e u (N : Int) = [] by rw [mksL, if_neg (by rw [HN.out HB.out.symm]; simp)])
          go_wp2_with fail
          go_ret
          exact ⟨_, rfl, by rw [HF.out]; exact OwP.nil _ _, by have := HK2.out; (repeat (with_reducible first | exact Kp.refl _ | assumption | refine Kp.drew ?_ | refine Kp.drewN ?_ _ | refine Kp.alloc ?_ _ | refine Kp.setCell ?_ (by first | (simp; done) | (simp; omega) | (dsimp only; omega)) _ | refine Kp.trans ?_ (by assumption)))⟩
        | true =>
          have HOW := Lib.hid (show w2.ownsRow (w.heap.size + 1) 33 2 (.slice Av k cv) k (pC (mkRow p s e u k)) by have := HO2.out; unfold OwP at this; rw [mkRow_length] at this; exact this)
          go_wp2_with (at_builtin; refine wpList_append_any _ rfl (.tmp 39) (.tmp 41) _ rfl (w.heap.size + 1) 33 i0 _ 2 16 Try.underlying43 hi0 hz0 hz1 hz2 rfl (by omega) (.slice Av k cv) k (pC (mkRow p s e u k)) rfl ((HOW.out.alloc _).alloc _) (w2.heap.size + 2) (some ⟨w2.heap.size + 1, 0, none⟩) 1 1 [.int .i64 T, .int .i64 U] rfl (by have := reads_pair (w2.alloc (.cells #[.int .i64 T, .int .i64 U] 33)) T U 33; simpa using this) (oneCell_two _ _) (by simp only [maxLen]; omega) (by omega) (by simp; omega) ?_; intro v2 w5 hown2 hg2 hat2; have HO5 := Lib.hid hown2; have HG5 := Lib.hid hg2; clear hown2 hg2 hat2)
          have hne : ∀ k', (Value.slice Av k cv).ownBlock = some k' → w.heap.size + 1 ≤ k' := fun k' e => (World.ownsRow.lt HOW.out k' e).1
          have d0 := cell_grown HG5.out (fun k' e => by have := hne k' e; simp; omega) (cell_alloc (cell_alloc c0 _) _)
          have d1 := cell_grown HG5.out (fun k' e => by have := hne k' e; simp; omega) (cell_alloc (cell_alloc c1 _) _)
          have d2 := cell_grown HG5.out (fun k' e => by have := hne k' e; simp; omega) (cell_alloc (cell_alloc c2 _) _)
          go_roundw
          case rel =>
            refine ⟨k + 1, by omega, by go_num, fun j hj => ?_, ?_, d0, d1, d2, ?_⟩
            · rcases Nat.lt_or_ge j k with h | h
              · exact HOK.out j h
              · obtain rfl : j = k := by omega
                rw [HM.out]; exact HB.out.symm
            · rw [HS.out]
              unfold OwP
              rw [pC_append, List.length_append, mkRow_length, ← HT.out, ← HU.out]
              exact HO5.out
            · exact ((HK2.out.alloc _).alloc _).grown HG5.out (fun k' e => by have := hne k' e; omega)
          case measure => simp [intOf]; omega
      · obtain rfl : k = N + 1 := by omega
        have HT := Lib.hid (show mksL p s e u (N : Int) = mkRow p s e u (N + 1) by rw [mksL, if_pos (okMk_yes H1.out H2.out H3.out HOK.out)]; rfl)
        go_wp2_with fail
        go_ret
        exact ⟨_, rfl, by rw [HT.out]; have := HO.out; rw [mkRow_length] at this; exact this.weak (by omega), HKP.out⟩
  · have HF := Lib.hid (show mksL p s e u n = [] by
      rw [mksL, if_neg]
      intro h
      simp only [okMk, Bool.and_eq_true] at h
      exact hgo ⟨h.1.1.1, h.1.1.2, h.1.2⟩)
    generalize h1 : steelB p s e = b1 at hgo
    have H1 := Lib.hid h1
    generalize h2 : inB u 1 100 = b2 at hgo
    have H2 := Lib.hid h2
    generalize h3 : inB n 0 20 = b3 at hgo
    have H3 := Lib.hid h3
    clear h1 h2 h3
    cases b1 with
    | false => clear hgo; (go_enter Try.func27, Try.ntmps27; go_wp2_with (first | (go_at_call 15; refine (iSteelyardOk_any _ _ _ _).mono ?_; rintro e' w1 ⟨rfl, hk⟩; rw [H1.out]; have hkw : Kp w w1 := Kp.trans ((Kp.refl w).alloc _) hk) | (go_at_call 36; refine (in_any _ _ _ _).mono ?_; rintro e w' ⟨rfl, rfl⟩; first | rw [H2.out] | rw [H3.out])); go_ret; exact ⟨_, rfl, by rw [HF.out]; exact OwP.nil _ _, hkw⟩)
    | true =>
      cases b2 with
      | false => clear hgo; (go_enter Try.func27, Try.ntmps27; go_wp2_with (first | (go_at_call 15; refine (iSteelyardOk_any _ _ _ _).mono ?_; rintro e' w1 ⟨rfl, hk⟩; rw [H1.out]; have hkw : Kp w w1 := Kp.trans ((Kp.refl w).alloc _) hk) | (go_at_call 36; refine (in_any _ _ _ _).mono ?_; rintro e w' ⟨rfl, rfl⟩; first | rw [H2.out] | rw [H3.out])); go_ret; exact ⟨_, rfl, by rw [HF.out]; exact OwP.nil _ _, hkw⟩)
      | true =>
        cases b3 with
        | false => clear hgo; (go_enter Try.func27, Try.ntmps27; go_wp2_with (first | (go_at_call 15; refine (iSteelyardOk_any _ _ _ _).mono ?_; rintro e' w1 ⟨rfl, hk⟩; rw [H1.out]; have hkw : Kp w w1 := Kp.trans ((Kp.refl w).alloc _) hk) | (go_at_call 36; refine (in_any _ _ _ _).mono ?_; rintro e w' ⟨rfl, rfl⟩; first | rw [H2.out] | rw [H3.out])); go_ret; exact ⟨_, rfl, by rw [HF.out]; exact OwP.nil _ _, hkw⟩)
        | true => exact absurd ⟨rfl, rfl, rfl⟩ hgo
theorem mark_steel {p s e l : Int} (h : markB p s e l = true) : steelB p s e = true := by
  simp only [markB, Bool.and_eq_true] at h; exact h.1.1
set_option maxRecDepth 20000 in
set_option maxHeartbeats 6400000 in
theorem sMarksOf_any (p s e u n : Int) (w : World) :
    Calls Try.prog 26 #[.agg #[.int .i64 p, .int .i64 s, .int .i64 e], .int .i64 u, .int .i64 n] w fun x w' => ∃ v, x = .returned v ∧ OwP w.heap.size w' v (mksL p s e u n) ∧ Kp w w' := by
  obtain ⟨i0, hi0, hz0, hz1, hz2⟩ := info_parts frac_info
  have hoe := OwP.empty (w.alloc (.cells #[.int .i64 p, .int .i64 s, .int .i64 e] 26))
  have hkE : Kp w ((w.alloc (.cells #[.int .i64 p, .int .i64 s, .int .i64 e] 26)).alloc (.cells #[] 33)) := by (repeat (with_reducible first | exact Kp.refl _ | assumption | refine Kp.drew ?_ | refine Kp.drewN ?_ _ | refine Kp.alloc ?_ _ | refine Kp.setCell ?_ (by first | (simp; done) | (simp; omega) | (dsimp only; omega)) _ | refine Kp.trans ?_ (by assumption)))
  have a0 : ((w.alloc (.cells #[.int .i64 p, .int .i64 s, .int .i64 e] 26)).alloc (.cells #[] 33)).cell? ⟨w.heap.size, 0, none⟩ = some (.int .i64 p) := by simp [go_sem]
  have a1 : ((w.alloc (.cells #[.int .i64 p, .int .i64 s, .int .i64 e] 26)).alloc (.cells #[] 33)).cell? ⟨w.heap.size, 1, none⟩ = some (.int .i64 s) := by simp [go_sem]
  have a2 : ((w.alloc (.cells #[.int .i64 p, .int .i64 s, .int .i64 e] 26)).alloc (.cells #[] 33)).cell? ⟨w.heap.size, 2, none⟩ = some (.int .i64 e) := by simp [go_sem]
  rw [size_alloc] at hoe
  have HOE := Lib.hid hoe
  have HKE := Lib.hid hkE
  clear hoe hkE
  by_cases hgo : inB u 1 100 = true ∧ inB n 0 20 = true
  · obtain ⟨h2, h3⟩ := hgo
    have bu := inB_true.1 h2
    have bn := inB_true.1 h3
    obtain ⟨N, rfl⟩ : ∃ N : Nat, n = (N : Int) := ⟨n.toNat, by omega⟩
    have H2 := Lib.hid h2
    have H3 := Lib.hid h3
    clear h2 h3
    go_enter Try.func26, Try.ntmps26
    go_wp2_with fail
    go_loopw [7, 8] (fun o i wr => ∃ k : Nat, k ≤ N + 1 ∧ i = .int .i64 k ∧ (∀ j, j < k → markB p s e ((j : Int) * u) = true) ∧ OwP (w.heap.size + 1) wr o (mkRow p s e u k) ∧ wr.cell? ⟨w.heap.size, 0, none⟩ = some (.int .i64 p) ∧ wr.cell? ⟨w.heap.size, 1, none⟩ = some (.int .i64 s) ∧ wr.cell? ⟨w.heap.size, 2, none⟩ = some (.int .i64 e) ∧ Kp w wr) (fun _ i _ => N + 1 - (intOf i).toNat)
    case atStart => exact ⟨0, by omega, rfl, fun j hj => by omega, HOE.out, a0, a1, a2, HKE.out⟩
    case round =>
      obtain ⟨k, hk, rfl, hok, ho, c0, c1, c2, hkp⟩ := hrel
      have HOK := Lib.hid hok
      have HKP := Lib.hid hkp
      have hz := hkp.size
      have hz0' := cell_lt c0
      simp only at hz0'
      obtain ⟨Av, cv, rfl, hrd⟩ := ho.rd
      have HO := Lib.hid ho
      rw [mkRow_length]
      clear hok ho hrd hkp
      by_cases hlt : k ≤ N
      · have hm := mul_bd (a := (k : Int)) (b := u) (A := 20) (B := 100) (by omega) (by omega)
        obtain ⟨M, hM⟩ : ∃ M, (k : Int) * u = M := ⟨_, rfl⟩
        have hs := mkRow_succ p s e u k
        have hn := okMk_not (p := p) (s := s) (e := e) (u := u) hlt
        rw [hM] at hm hs hn
        have HM := Lib.hid hM
        have HS := Lib.hid hs
        have HN := Lib.hid hn
        clear hs hn
        go_wp2_with (go_at_call 35; refine (l01In_any _ _ _ _).mono ?_; rintro e w' ⟨rfl, rfl⟩; first | rw [H2.out] | rw [H3.out])
        refine (specMarkFor_any _ _ _ _ _).mono ?_
        obtain ⟨T, hT⟩ : ∃ T, T = markT p s e M := ⟨_, rfl⟩
        obtain ⟨U, hU⟩ : ∃ U, U = markU p s e M := ⟨_, rfl⟩
        obtain ⟨b, hb⟩ : ∃ b, b = markB p s e M := ⟨_, rfl⟩
        rw [← hT, ← hU, ← hb]
        have HT := Lib.hid hT
        have HU := Lib.hid hU
        have HB := Lib.hid hb
        clear hT hU hb hM
        rintro e' w2 ⟨rfl, hk2⟩
        have c0 := hk2.at1 c0
        have c1 := hk2.at1 c1
        have c2 := hk2.at1 c2
        have HO2 := Lib.hid (HO.out.kp hk2)
        have HK2 := Lib.hid (HKP.out.trans hk2)
        have hz2' := hk2.size
        cases b with
        | false =>
          have HF := Lib.hid (show mksL p s e u (N : Int) = [] by rw [mksL, if_neg (by rw [HN.out HB.out.symm]; simp)])
          go_wp2_with fail
          go_ret
          refine ⟨_, rfl, ?_, by have := HK2.out; (repeat (with_reducible first | exact Kp.refl _ | assumption | refine Kp.drew ?_ | refine Kp.drewN ?_ _ | refine Kp.alloc ?_ _ | refine Kp.setCell ?_ (by first | (simp; done) | (simp; omega) | (dsimp only; omega)) _ | refine Kp.trans ?_ (by assumption)))⟩
          rw [HF.out]
          have := OwP.empty (w2.alloc (.cells #[.int .i64 T, .int .i64 U] 33))
          rw [size_alloc] at this
          exact this.weak (by omega)
        | true =>
          have HOW := Lib.hid (show w2.ownsRow (w.heap.size + 1) 33 2 (.slice Av k cv) k (pC (mkRow p s e u k)) by have := HO2.out; unfold OwP at this; rw [mkRow_length] at this; exact this)
          go_wp2_with (at_builtin; refine wpList_append_any _ rfl (.tmp 36) (.tmp 38) _ rfl (w.heap.size + 1) 33 i0 _ 2 16 Try.underlying43 hi0 hz0 hz1 hz2 rfl (by omega) (.slice Av k cv) k (pC (mkRow p s e u k)) rfl ((HOW.out.alloc _).alloc _) (w2.heap.size + 2) (some ⟨w2.heap.size + 1, 0, none⟩) 1 1 [.int .i64 T, .int .i64 U] rfl (by have := reads_pair (w2.alloc (.cells #[.int .i64 T, .int .i64 U] 33)) T U 33; simpa using this) (oneCell_two _ _) (by simp only [maxLen]; omega) (by omega) (by simp; omega) ?_; intro v2 w5 hown2 hg2 hat2; have HO5 := Lib.hid hown2; have HG5 := Lib.hid hg2; clear hown2 hg2 hat2)
          have hne : ∀ k', (Value.slice Av k cv).ownBlock = some k' → w.heap.size + 1 ≤ k' := fun k' e => (World.ownsRow.lt HOW.out k' e).1
          have d0 := cell_grown HG5.out (fun k' e => by have := hne k' e; simp; omega) (cell_alloc (cell_alloc c0 _) _)
          have d1 := cell_grown HG5.out (fun k' e => by have := hne k' e; simp; omega) (cell_alloc (cell_alloc c1 _) _)
          have d2 := cell_grown HG5.out (fun k' e => by have := hne k' e; simp; omega) (cell_alloc (cell_alloc c2 _) _)
          go_roundw
          case rel =>
            refine ⟨k + 1, by omega, by go_num, fun j hj => ?_, ?_, d0, d1, d2, ?_⟩
            · rcases Nat.lt_or_ge j k with h | h
              · exact HOK.out j h
              · obtain rfl : j = k := by omega
                rw [HM.out]; exact HB.out.symm
            · rw [HS.out]
              unfold OwP
              rw [pC_append, List.length_append, mkRow_length, ← HT.out, ← HU.out]
              exact HO5.out
            · exact ((HK2.out.alloc _).alloc _).grown HG5.out (fun k' e => by have := hne k' e; omega)
          case measure => simp [intOf]; omega
      · obtain rfl : k = N + 1 := by omega
        have HT := Lib.hid (show mksL p s e u (N : Int) = mkRow p s e u (N + 1) by rw [mksL, if_pos (okMk_yes (mark_steel (HOK.out 0 (by omega))) H2.out H3.out HOK.out)]; rfl)
        go_wp2_with fail
        go_ret
        exact ⟨_, rfl, by rw [HT.out]; have := HO.out; rw [mkRow_length] at this; exact this.weak (by omega), HKP.out⟩
  · have HF := Lib.hid (show mksL p s e u n = [] by
      rw [mksL, if_neg]
      intro h
      simp only [okMk, Bool.and_eq_true] at h
      exact hgo ⟨h.1.1.2, h.1.2⟩)
    go_enter Try.func26, Try.ntmps26
    go_wp2_with fail
    refine wp_loop_rounds 1 ?_
    rw [rounds_succ]
    by_cases hn : 0 ≤ n
    · generalize h2 : inB u 1 100 = b2 at hgo
      have H2 := Lib.hid h2
      generalize h3 : inB n 0 20 = b3 at hgo
      have H3 := Lib.hid h3
      clear h2 h3
      cases b2 with
      | false => clear hgo; (go_wp2_with (go_at_call 35; refine (l01In_any _ _ _ _).mono ?_; rintro e w' ⟨rfl, rfl⟩; first | rw [H2.out] | rw [H3.out]); go_ret; exact ⟨_, rfl, by rw [HF.out]; exact HOE.out.weak (by omega), HKE.out⟩)
      | true =>
        cases b3 with
        | false => clear hgo; (go_wp2_with (go_at_call 35; refine (l01In_any _ _ _ _).mono ?_; rintro e w' ⟨rfl, rfl⟩; first | rw [H2.out] | rw [H3.out]); go_ret; exact ⟨_, rfl, by rw [HF.out]; exact HOE.out.weak (by omega), HKE.out⟩)
        | true => exact absurd ⟨rfl, rfl⟩ hgo
    · clear hgo
      go_wp2_with fail
      go_ret
      exact ⟨_, rfl, by rw [HF.out]; exact HOE.out.weak (by omega), HKE.out⟩
end Go.Proofs.Ytamhdjbhoafbhaa
