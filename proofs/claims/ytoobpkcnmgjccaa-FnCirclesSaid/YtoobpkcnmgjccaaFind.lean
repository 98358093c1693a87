/- differenceSet: the plain word, and the contract. -/
import Derived.Test.YtoobpkcnmgjccaaDiffSet
import Derived.Test.YtoobpkcnmgjccaaApp
set_option linter.unusedVariables false
namespace Go.Proofs.Ytoobpkcnmgjccaa
open Go.RowKit

/-- Try the places N - m .. N - 1 behind the list. -/
def tryF (N : Nat) (rec : List Int → Option (List Int)) (xs : List Int) : Nat → Option (List Int)
  | 0 => none
  | m + 1 => if apartB N (xs ++ [(N : Int) - (m + 1)]) = true then
      (match rec (xs ++ [(N : Int) - (m + 1)]) with
        | some l => some l
        | none => tryF N rec xs m)
      else tryF N rec xs m
/-- The first extension of the list by f marks that keeps all arcs apart. -/
def dsF (N : Nat) : Nat → List Int → Option (List Int)
  | 0, xs => some xs
  | f + 1, xs => tryF N (dsF N f) xs (N - ((xs.getD (xs.length - 1) 0).toNat + 1))
def DsPost (B : Nat) (r : Option (List Int)) (v : Value) (w : World) : Prop :=
  match r with
  | none => v = .slice none 0 0
  | some l => OwI B w v l ∧ 0 < l.length
set_option maxHeartbeats 1600000 in
theorem ds_any (N : Nat) (hN : N ≤ 60) : ∀ (f : Nat) (xs : List Int) (v : Value) (B K : Nat) (w : World), xs.length + f = K → OwI B w v xs → B ≤ w.heap.size → 0 < xs.length → xs.length + f ≤ 8 → 0 ≤ xs.getD (xs.length - 1) 0 → xs.getD (xs.length - 1) 0 < N →
    Calls Try.prog 34 #[.int .i64 (N : Int), v, .int .i64 (K : Int)] w fun e w' => ∃ v', e = .returned v' ∧ DsPost B (dsF N f xs) v' w' ∧ Kp w w' := by
  intro f
  induction f with
  | zero =>
    intro xs v B K w hK ho hB h0 h8 hlo hhi
    obtain rfl : K = xs.length := by omega
    obtain ⟨g, cap, rfl, hc1, hc2, hb, hg, hcell⟩ := ho.cells h0
    have HO := Lib.hid ho
    have H0 := Lib.hid h0
    obtain ⟨n, hn⟩ : ∃ n, n = xs.length := ⟨_, rfl⟩
    rw [← hn] at HO H0 ⊢
    have t0 : ((n : Int) == (n : Int)) = true := by simp
    have HNN := Lib.hid hn
    clear ho hcell h0 hc1 hlo hhi hn hK
    go_enter Try.func34, Try.ntmps34
    go_wp2_with fail
    go_ret
    exact ⟨_, rfl, ⟨HO.out, by have := H0.out; have := HNN.out; omega⟩, Kp.refl _⟩
  | succ f ih =>
    intro xs v B K w hK ho hB h0 h8 hlo hhi
    have IH := Lib.hid ih
    clear ih
    obtain ⟨i0, hi0, hz0, hz1, hz2⟩ := info_parts int_info
    obtain ⟨g, cap, rfl, hc1, hc2, hb, hg, hcell⟩ := ho.cells h0
    have HO := Lib.hid ho
    have cl := hcell (xs.length - 1) (by omega)
    obtain ⟨n, hn⟩ : ∃ n, n = xs.length := ⟨_, rfl⟩
    have HX := Lib.hid (show dsF N (f + 1) xs = tryF N (dsF N f) xs (N - ((xs.getD (n - 1) 0).toNat + 1)) by rw [dsF, hn])
    rw [← hn] at h0 h8 hlo hhi cl hc1 hK ⊢
    obtain ⟨l, hl⟩ : ∃ l, l = xs.getD (n - 1) 0 := ⟨_, rfl⟩
    rw [← hl] at hlo hhi cl HX
    have HN := Lib.hid hn
    have t0 : ((n : Int) == (K : Int)) = false := by simp; omega
    have t1 : (n == K) = false := by simp; omega
    have HK := Lib.hid hK
    have i1 : ((n : Int) - 1).toNat = n - 1 := by omega
    obtain ⟨L, rfl⟩ : ∃ L : Nat, l = (L : Int) := ⟨l.toNat, by omega⟩
    have hnn := fun (w : World) (a : Option Addr) (n c : Nat) => run_neq_slice_nil_any (P := Try.prog) w 22 3 a n c 0 0 Try.underlying22
    clear hcell hl hn ho hK
    go_enter Try.func34, Try.ntmps34
    go_wp2_with fail
    go_loopw [7] (fun x wr => ∃ m : Nat, m ≤ N ∧ x = .int .i64 ((N : Int) - m) ∧ dsF N (f + 1) xs = tryF N (dsF N f) xs m ∧ (L : Int) + 1 ≤ (N : Int) - m ∧ Kp w wr) (fun x _ => N + 1 - (intOf x).toNat)
    case atStart => exact ⟨N - (L + 1), by omega, by rw [show (N : Int) - ((N - (L + 1) : Nat) : Int) = (L : Int) + 1 by omega], by rw [HX.out, Int.toNat_natCast], by omega, Kp.refl _⟩
    case round =>
      obtain ⟨m, hm, rfl, hds, hLx, hkp⟩ := hrel
      have HDS := Lib.hid hds
      clear hds
      cases m with
      | zero =>
        go_wp2_with fail
        go_ret
        exact ⟨_, rfl, by rw [HDS.out, tryF]; rfl, hkp⟩
      | succ m =>
        obtain ⟨X, hX⟩ : ∃ X : Int, X = (N : Int) - ((m + 1 : Nat) : Int) := ⟨_, rfl⟩
        have HDT : Hid (tryF N (dsF N f) xs (m + 1) = if apartB N (xs ++ [X]) = true then (match dsF N f (xs ++ [X]) with | some l => some l | none => tryF N (dsF N f) xs m) else tryF N (dsF N f) xs m) := by
          rw [tryF, hX]; rfl
        have hXN : X < (N : Int) := by omega
        have hX0 : (L : Int) + 1 ≤ X := by omega
        have HXE := Lib.hid hX
        rw [← hX]
        clear hX
        have HO1 := HO.out
        have rd := (HO1.kp hkp).rd
        obtain ⟨A0, c0, e0, hr0⟩ := rd
        rw [← HN.out] at e0 hr0
        cases e0
        have HR0 := Lib.hid hr0
        clear hr0 HO1
        go_wp2_with fail
        refine (copyInts_any _ _ _ xs _ HN.out.symm (by omega) HR0.out).mono ?_
        rintro e w1 ⟨v1, rfl, ho1, hk1⟩
        have HO1 := Lib.hid ho1
        obtain ⟨A1, c1, rfl, _⟩ := ho1.rd
        have how : w1.ownsRow wr.heap.size 3 1 (.slice A1 n c1) n (xs.map (.int .i64)) := by have := ho1; unfold OwI at this; rw [← HN.out] at this; exact this
        have HOW := Lib.hid how
        rw [← HN.out]
        clear ho1 how
        go_wp2_with (at_builtin; refine wpList_append_any _ rfl (.tmp 28) (.tmp 30) _ rfl wr.heap.size 3 i0 _ 1 8 Try.underlying22 hi0 hz0 hz1 hz2 rfl (by omega) (.slice A1 n c1) n (xs.map (.int .i64)) rfl (HOW.out.alloc _) (w1.heap.size + 1) (some ⟨w1.heap.size, 0, none⟩) 1 1 [.int .i64 X] rfl (reads_one _ _ _) (oneCell_one _) (by simp only [maxLen]; omega) (by omega) (by have := hk1.size; simp; omega) ?_; intro v2 w2 hown2 hg2 hat2)
        have k2 : Kp wr w2 := (hk1.alloc _).grown hg2 (fun k e => (World.ownsRow.lt HOW.out k e).1)
        have hlen : (xs ++ [X]).length = n + 1 := by rw [List.length_append, ← HN.out]; rfl
        have ho2 : OwI wr.heap.size w2 v2 (xs ++ [X]) := by
          unfold OwI
          rw [hlen]
          simpa using hown2
        have hlast : (xs ++ [X]).getD ((xs ++ [X]).length - 1) 0 = X := by
          rw [hlen, Nat.add_sub_cancel, List.getD_eq_getElem?_getD, List.getElem?_append_right (by rw [← HN.out]; omega), ← HN.out, Nat.sub_self]
          rfl
        obtain ⟨Y, hY⟩ : ∃ Y, Y = xs ++ [X] := ⟨_, rfl⟩
        rw [← hY] at hlen ho2 hlast HDT
        clear hY hown2 hg2 hat2
        have HO2 := Lib.hid ho2
        obtain ⟨A2, c2, rfl, hr2⟩ := ho2.rd
        have HLAST := Lib.hid hlast
        have HLEN := Lib.hid hlen
        clear ho2 hlast
        refine (apart_any _ _ _ Y _ _ rfl (by omega) hr2).mono ?_
        clear hr2 hlen
        rintro e w3 ⟨rfl, hk3⟩
        by_cases hap : apartB N Y = true
        · have HD2 : Hid (dsF N (f + 1) xs = (match dsF N f Y with | some l => some l | none => tryF N (dsF N f) xs m)) := by show _ = _; rw [HDS.out, HDT.out, if_pos hap]
          clear HDT HDS
          go_wp2_with fail
          refine (IH.out Y _ wr.heap.size K w3 (by rw [HLEN.out]; have := HK.out; omega) (HO2.out.kp hk3) (k2.trans hk3).size (by rw [HLEN.out]; omega) (by rw [HLEN.out]; omega) (by rw [HLAST.out]; omega) (by rw [HLAST.out]; omega)).mono ?_
          rintro e w4 ⟨v4, rfl, hp4, hk4⟩
          obtain ⟨r, hr⟩ : ∃ r, r = dsF N f Y := ⟨_, rfl⟩
          rw [← hr] at hp4 HD2
          clear hr
          cases r with
          | none =>
            cases (show v4 = .slice none 0 0 from hp4)
            have HD3 : Hid (dsF N (f + 1) xs = tryF N (dsF N f) xs m) := HD2.out
            clear HD2 hp4
            go_wp2_with fail
            go_roundw
            case rel => exact ⟨m, by omega, congrArg (Value.int .i64) (by have := HXE.out; omega), HD3.out, by have := HXE.out; omega, (((hkp.trans k2).trans hk3).trans hk4)⟩
            case measure => have := HXE.out; simp [intOf]; omega
          | some l =>
            obtain ⟨ho4, hl4⟩ := (show OwI wr.heap.size w4 v4 l ∧ 0 < l.length from hp4)
            obtain ⟨g4, cap4, rfl, _, _⟩ := ho4.form hl4
            have HO4 := Lib.hid ho4
            have HL4 := Lib.hid hl4
            have HD3 : Hid (dsF N (f + 1) xs = some l) := HD2.out
            obtain ⟨nl, hnl⟩ : ∃ nl, nl = l.length := ⟨_, rfl⟩
            rw [← hnl] at HO4 ⊢
            clear HD2 hp4 ho4 hl4 hnl
            go_wp2_with fail
            go_ret
            refine ⟨_, rfl, ?_, (((hkp.trans k2).trans hk3).trans hk4)⟩
            rw [HD3.out]
            exact ⟨HO4.out.weak (by have := hkp.size; omega), HL4.out⟩
        · have HD3 : Hid (dsF N (f + 1) xs = tryF N (dsF N f) xs m) := by show _ = _; rw [HDS.out, HDT.out, if_neg hap]
          clear HDT HDS
          go_wp2_with fail
          go_roundw
          case rel => exact ⟨m, by omega, congrArg (Value.int .i64) (by have := HXE.out; omega), HD3.out, by have := HXE.out; omega, (hkp.trans k2).trans hk3⟩
          case measure => have := HXE.out; simp [intOf]; omega
end Go.Proofs.Ytoobpkcnmgjccaa
