/- l10Find: the plain word, and the contract; FindDifferenceSet of the program and of the reference. -/
import Derived.Test.YtoobpkcnmgjccaaFind
set_option linter.unusedVariables false
namespace Go.Proofs.Ytoobpkcnmgjccaa
open Go.RowKit

def tryS (N : Nat) (rec : List Int → Option (List Int)) (xs : List Int) : Nat → Option (List Int)
  | 0 => none
  | m + 1 => match rec (xs ++ [(N : Int) - (m + 1)]) with
    | some l => some l
    | none => tryS N rec xs m
def spF (N : Nat) : Nat → List Int → Option (List Int)
  | 0, xs => if apartB N xs = true then some xs else none
  | f + 1, xs => if apartB N xs = true then tryS N (spF N f) xs (N - ((xs.getD (xs.length - 1) 0).toNat + 1)) else none
def SpPost (B : Nat) (r : Option (List Int)) (v : Value) (w : World) : Prop :=
  match r with
  | none => OwI B w v []
  | some l => OwI B w v l
theorem getD_push_lt {xs : List Int} {X : Int} {j : Nat} (h : j < xs.length) : (xs ++ [X]).getD j 0 = xs.getD j 0 := by
  rw [List.getD_eq_getElem?_getD, List.getElem?_append_left h, ← List.getD_eq_getElem?_getD]
theorem getD_push_last {xs : List Int} {X : Int} : (xs ++ [X]).getD xs.length 0 = X := by
  rw [List.getD_eq_getElem?_getD, List.getElem?_append_right (Nat.le_refl _), Nat.sub_self]; rfl
theorem circB_push {N : Nat} {xs : List Int} {X : Int} (h : circB N xs = true) (h0 : xs.getD (xs.length - 1) 0 < X) (hX : X < N) (h8 : xs.length + 1 ≤ 8) : circB N (xs ++ [X]) = true := by
  obtain ⟨b1, b2, hs, ha⟩ := circB_bd h
  have hl : (xs ++ [X]).length = xs.length + 1 := by simp
  have ha' := allB_iff.1 ha
  have hs' := ascB_iff.1 hs
  simp only [circB, Bool.and_eq_true]
  refine ⟨⟨⟨inB_true.2 b1, inB_true.2 (by rw [hl]; omega)⟩, ascB_iff.2 fun j hj => ?_⟩, allB_iff.2 fun j hj => ?_⟩
  · rw [hl] at hj
    rcases Nat.lt_or_ge (j + 1) xs.length with h1 | h1
    · rw [getD_push_lt (by omega), getD_push_lt h1]; exact hs' j h1
    · obtain e : j + 1 = xs.length := by omega
      rw [getD_push_lt (by omega), e, getD_push_last, show j = xs.length - 1 by omega]; exact h0
  · rw [hl] at hj
    have := ha' (xs.length - 1) (by omega)
    rcases Nat.lt_or_ge j xs.length with h1 | h1
    · rw [getD_push_lt h1]; exact ha' j h1
    · obtain rfl : j = xs.length := by omega
      rw [getD_push_last]; omega
set_option maxHeartbeats 3200000 in
theorem sp_any (N : Nat) (hN : N ≤ 60) : ∀ (f : Nat) (xs : List Int) (v : Value) (B K : Nat) (w : World), xs.length + f = K → OwI B w v xs → B ≤ w.heap.size → circB N xs = true → K ≤ 8 →
    Calls Try.prog 33 #[.int .i64 (N : Int), v, .int .i64 (K : Int)] w fun e w' => ∃ v', e = .returned (.tuple #[v', .bool (spF N f xs).isSome]) ∧ SpPost B (spF N f xs) v' w' ∧ Kp w w' := by
  intro f
  induction f with
  | zero =>
    intro xs v B K w hK ho hB hcb h8
    obtain ⟨i0, hi0, hz0, hz1, hz2⟩ := info_parts int_info
    obtain ⟨b1, b2, hs, ha⟩ := circB_bd hcb
    have hlo := allB_iff.1 ha (xs.length - 1) (by omega)
    have AL := arcs_length hcb
    have HCB := Lib.hid hcb
    have hAP : apartB N xs = restB (fun k => decide (k ≤ 1)) (arcs N xs) := rfl
    have hSP : spF N 0 xs = if apartB N xs = true then some xs else none := rfl
    obtain ⟨R, hR⟩ : ∃ R, R = arcs N xs := ⟨_, rfl⟩
    have hArc := fun A c (W : World) hr => sArcsOf_any A xs.length c xs (N : Int) W rfl (by omega) hr
    rw [← hR] at AL hAP
    simp only [← hR] at hArc
    obtain ⟨g, cap, rfl, hc1, hc2, hb, hg, hcell⟩ := ho.cells (by omega)
    have HO := Lib.hid ho
    have cl := hcell (xs.length - 1) (by omega)
    obtain ⟨n, hn⟩ : ∃ n, n = xs.length := ⟨_, rfl⟩
    rw [← hn] at hlo cl hc1 hK b2 hArc ⊢
    obtain ⟨l, hl⟩ : ∃ l, l = xs.getD (n - 1) 0 := ⟨_, rfl⟩
    rw [← hl] at hlo cl
    have HN := Lib.hid hn
    have HLL := Lib.hid hl
    have t0 : ((n : Int) == (K : Int)) = true := by simp; omega
    have t1 : (n == K) = true := by simp; omega
    have HK := Lib.hid hK
    have i1 : ((n : Int) - 1).toNat = n - 1 := by omega
    obtain ⟨L, rfl⟩ : ∃ L : Nat, l = (L : Int) := ⟨l.toNat, by omega⟩
    have HAP := Lib.hid hAP
    have HSP := Lib.hid hSP
    have HAL := Lib.hid AL
    have HARC := Lib.hid hArc
    have rd := ho.rd
    obtain ⟨A0, c0, e0, hr0⟩ := rd
    rw [← hn] at e0 hr0
    cases e0
    have HR0 := Lib.hid hr0
    clear hcell hl hn ho hK hAP hSP AL hArc hR hs ha hcb hr0
    have hN1 : 1 ≤ N := by omega
    go_enter Try.func33, Try.ntmps33
    go_wp2_with fail
    refine (HARC.out _ _ _ HR0.out).mono ?_
    rintro e w1 ⟨va, rfl, hoa, hk1⟩
    obtain ⟨ga, capa, rfl, hca1, hca2, hba, hga, hcella⟩ := hoa.cells (by rw [HAL.out]; omega)
    rw [HAL.out] at hca1 hcella ⊢
    have HCA := Lib.hid hcella
    have cl := hk1.at1 cl
    clear hcella hoa hba
    go_wp2_with fail
    go_loop [9] (fun i => ∃ k : Nat, k + 1 ≤ N ∧ i = .int .i64 ((k : Int) + 1) ∧ (∀ j, j < k → R.getD (j + 1) 0 ≤ 1)) (fun i => N + 1 - (intOf i).toNat)
    case atStart => exact ⟨0, by omega, rfl, fun j hj => by omega⟩
    case round =>
      obtain ⟨k, hk, rfl, hok⟩ := hrel
      have HOK := Lib.hid hok
      clear hok
      by_cases hlt : k + 1 < N
      · have cq := HCA.out (k + 1) hlt
        obtain ⟨d, hd⟩ : ∃ d, d = R.getD (k + 1) 0 := ⟨_, rfl⟩
        rw [← hd] at cq
        have HDD := Lib.hid hd
        clear hd
        have j1 : (k : Int) + 1 < (N : Int) := by omega
        by_cases h : d ≤ 1
        · go_wp2_with fail
          go_round
          case rel =>
            refine ⟨k + 1, by omega, by go_num, fun j hj => ?_⟩
            rcases Nat.lt_or_ge j k with h | h
            · exact HOK.out j h
            · obtain rfl : j = k := by omega
              rw [← HDD.out]; assumption
          case measure => simp [intOf]; omega
        · have h' : 1 < d := by omega
          have HH := Lib.hid (show apartB N xs = false by
            rw [HAP.out, Bool.eq_false_iff]
            intro h
            have := restB_iff.1 h k (by rw [HAL.out]; exact hlt)
            rw [← HDD.out] at this
            simp at this
            omega)
          go_wp2_with fail
          go_ret2
          rw [HSP.out, HH.out]
          exact ⟨_, rfl, (owi_lit w1 _ (by have := hk1.size; omega)), hk1.alloc _⟩
      · have j1 : (N : Int) ≤ (k : Int) + 1 := by omega
        have HAT := Lib.hid (show apartB N xs = true by
          rw [HAP.out]
          exact restB_iff.2 (fun j hj => by have := HOK.out j (by rw [HAL.out] at hj; omega); simpa using this))
        clear HCA
        go_wp2_with fail
        go_ret2
        rw [HSP.out, HAT.out]
        exact ⟨_, rfl, (by show OwI _ _ _ _; have := HO.out.kp hk1; rw [← HN.out] at this; exact this), hk1⟩
  | succ f ih =>
    intro xs v B K w hK ho hB hcb h8
    have IH := Lib.hid ih
    clear ih
    obtain ⟨i0, hi0, hz0, hz1, hz2⟩ := info_parts int_info
    obtain ⟨b1, b2, hs, ha⟩ := circB_bd hcb
    have hlo := allB_iff.1 ha (xs.length - 1) (by omega)
    have AL := arcs_length hcb
    have HCB := Lib.hid hcb
    have hAP : apartB N xs = restB (fun k => decide (k ≤ 1)) (arcs N xs) := rfl
    have hSP : spF N (f + 1) xs = if apartB N xs = true then tryS N (spF N f) xs (N - ((xs.getD (xs.length - 1) 0).toNat + 1)) else none := rfl
    obtain ⟨R, hR⟩ : ∃ R, R = arcs N xs := ⟨_, rfl⟩
    have hArc := fun A c (W : World) hr => sArcsOf_any A xs.length c xs (N : Int) W rfl (by omega) hr
    rw [← hR] at AL hAP
    simp only [← hR] at hArc
    obtain ⟨g, cap, rfl, hc1, hc2, hb, hg, hcell⟩ := ho.cells (by omega)
    have HO := Lib.hid ho
    have cl := hcell (xs.length - 1) (by omega)
    obtain ⟨n, hn⟩ : ∃ n, n = xs.length := ⟨_, rfl⟩
    rw [← hn] at hlo cl hc1 hK b2 hSP hArc ⊢
    obtain ⟨l, hl⟩ : ∃ l, l = xs.getD (n - 1) 0 := ⟨_, rfl⟩
    rw [← hl] at hlo cl hSP
    have HN := Lib.hid hn
    have HLL := Lib.hid hl
    have t0 : ((n : Int) == (K : Int)) = false := by simp; omega
    have t1 : (n == K) = false := by simp; omega
    have HK := Lib.hid hK
    have i1 : ((n : Int) - 1).toNat = n - 1 := by omega
    obtain ⟨L, rfl⟩ : ∃ L : Nat, l = (L : Int) := ⟨l.toNat, by omega⟩
    have HAP := Lib.hid hAP
    have HSP := Lib.hid hSP
    have HAL := Lib.hid AL
    have HARC := Lib.hid hArc
    have rd := ho.rd
    obtain ⟨A0, c0, e0, hr0⟩ := rd
    rw [← hn] at e0 hr0
    cases e0
    have HR0 := Lib.hid hr0
    clear hcell hl hn ho hK hAP hSP AL hArc hR hs ha hcb hr0
    have hN1 : 1 ≤ N := by omega
    go_enter Try.func33, Try.ntmps33
    go_wp2_with fail
    refine (HARC.out _ _ _ HR0.out).mono ?_
    rintro e w1 ⟨va, rfl, hoa, hk1⟩
    obtain ⟨ga, capa, rfl, hca1, hca2, hba, hga, hcella⟩ := hoa.cells (by rw [HAL.out]; omega)
    rw [HAL.out] at hca1 hcella ⊢
    have HCA := Lib.hid hcella
    have cl := hk1.at1 cl
    clear hcella hoa hba
    go_wp2_with fail
    go_loop [9] (fun i => ∃ k : Nat, k + 1 ≤ N ∧ i = .int .i64 ((k : Int) + 1) ∧ (∀ j, j < k → R.getD (j + 1) 0 ≤ 1)) (fun i => N + 1 - (intOf i).toNat)
    case atStart => exact ⟨0, by omega, rfl, fun j hj => by omega⟩
    case round =>
      obtain ⟨k, hk, rfl, hok⟩ := hrel
      have HOK := Lib.hid hok
      clear hok
      by_cases hlt : k + 1 < N
      · have cq := HCA.out (k + 1) hlt
        obtain ⟨d, hd⟩ : ∃ d, d = R.getD (k + 1) 0 := ⟨_, rfl⟩
        rw [← hd] at cq
        have HDD := Lib.hid hd
        clear hd
        have j1 : (k : Int) + 1 < (N : Int) := by omega
        by_cases h : d ≤ 1
        · go_wp2_with fail
          go_round
          case rel =>
            refine ⟨k + 1, by omega, by go_num, fun j hj => ?_⟩
            rcases Nat.lt_or_ge j k with h | h
            · exact HOK.out j h
            · obtain rfl : j = k := by omega
              rw [← HDD.out]; assumption
          case measure => simp [intOf]; omega
        · have h' : 1 < d := by omega
          have HH := Lib.hid (show apartB N xs = false by
            rw [HAP.out, Bool.eq_false_iff]
            intro h
            have := restB_iff.1 h k (by rw [HAL.out]; exact hlt)
            rw [← HDD.out] at this
            simp at this
            omega)
          go_wp2_with fail
          go_ret2
          rw [HSP.out, HH.out]
          exact ⟨_, rfl, (owi_lit w1 _ (by have := hk1.size; omega)), hk1.alloc _⟩
      · have j1 : (N : Int) ≤ (k : Int) + 1 := by omega
        have HAT := Lib.hid (show apartB N xs = true by
          rw [HAP.out]
          exact restB_iff.2 (fun j hj => by have := HOK.out j (by rw [HAL.out] at hj; omega); simpa using this))
        clear HCA
        go_wp2_with fail
        have HSQ := Lib.hid (show spF N (f + 1) xs = tryS N (spF N f) xs (N - ((L : Int).toNat + 1)) by rw [HSP.out, if_pos HAT.out])
        clear HSP HAT HAP
        go_loopw [10] (fun x wr => ∃ m : Nat, m ≤ N ∧ x = .int .i64 ((N : Int) - m) ∧ spF N (f + 1) xs = tryS N (spF N f) xs m ∧ (L : Int) + 1 ≤ (N : Int) - m ∧ Kp w wr) (fun x _ => N + 1 - (intOf x).toNat)
        case atStart => exact ⟨N - (L + 1), by omega, by rw [show (N : Int) - ((N - (L + 1) : Nat) : Int) = (L : Int) + 1 by omega], by rw [HSQ.out, Int.toNat_natCast], by omega, hk1⟩
        case round =>
          obtain ⟨m, hm, rfl, hds, hLx, hkp⟩ := hrel
          have HDS := Lib.hid hds
          clear hds
          cases m with
          | zero =>
            go_wp2_with fail
            go_ret2
            rw [HDS.out, tryS]
            exact ⟨_, rfl, (owi_lit wr _ (by have := hkp.size; omega)), hkp.alloc _⟩
          | succ m =>
            obtain ⟨X, hX⟩ : ∃ X : Int, X = (N : Int) - ((m + 1 : Nat) : Int) := ⟨_, rfl⟩
            have HDT : Hid (tryS N (spF N f) xs (m + 1) = (match spF N f (xs ++ [X]) with | some l => some l | none => tryS N (spF N f) xs m)) := by
              show _ = _; rw [tryS, hX]; rfl
            have hXN : X < (N : Int) := by omega
            have hX0 : (L : Int) + 1 ≤ X := by omega
            have HXE := Lib.hid hX
            have HCP := Lib.hid (show circB N (xs ++ [X]) = true from circB_push HCB.out (by rw [← HN.out, ← HLL.out]; omega) hXN (by rw [← HN.out]; have := HK.out; omega))
            rw [← hX]
            clear hX
            have HRR := Lib.hid (HR0.out.kp hkp)
            go_wp2_with (first
              | (at_builtin; refine wpList_append_any _ rfl (.tmp 46) (.tmp 47) _ rfl wr.heap.size 3 i0 _ 1 8 Try.underlying22 hi0 hz0 hz1 hz2 rfl (by omega) (.slice (some ⟨wr.heap.size, 0, none⟩) 0 0) 0 [] rfl (World.ownsRow_made wr #[] 0 (Nat.le_refl _) (by unfold maxLen; omega) rfl) wr.heap.size (some ⟨g, 0, none⟩) n cap (xs.map (.int .i64)) rfl (HRR.out.alloc (Nat.le_refl _) _) (oneCell_ints xs) (by simp only [maxLen]; omega) (by omega) (by simp) ?_; intro v1 w2 hown1 hg1 hat1; simp only [Nat.zero_add, List.nil_append] at hown1; have kq2 := ((Kp.refl wr).alloc (.cells #[] 3)).grown hg1 (by intro k e; simp [Value.ownBlock] at e; omega); have HOW := Lib.hid hown1; clear hown1 hat1 hg1)
              | (at_builtin; refine wpList_append_any _ rfl (.tmp 48) (.tmp 50) _ rfl wr.heap.size 3 i0 _ 1 8 Try.underlying22 hi0 hz0 hz1 hz2 rfl (by omega) v1 n (xs.map (.int .i64)) rfl (HOW.out.alloc _) (w2.heap.size + 1) (some ⟨w2.heap.size, 0, none⟩) 1 1 [.int .i64 X] rfl (reads_one _ _ _) (oneCell_one _) (by simp only [maxLen]; omega) (by omega) (by have := kq2.size; simp; omega) ?_; intro v2 w3 hown2 hg2 hat2))
            have k2 : Kp wr w3 := (kq2.alloc _).grown hg2 (fun k e => (World.ownsRow.lt HOW.out k e).1)
            have hlen : (xs ++ [X]).length = n + 1 := by rw [List.length_append, ← HN.out]; rfl
            have ho2 : OwI wr.heap.size w3 v2 (xs ++ [X]) := by
              unfold OwI
              rw [hlen]
              simpa using hown2
            obtain ⟨Y, hY⟩ : ∃ Y, Y = xs ++ [X] := ⟨_, rfl⟩
            rw [← hY] at hlen ho2 HDT HCP
            clear hY hown2 hg2 hat2
            have HO2 := Lib.hid ho2
            have HLEN := Lib.hid hlen
            clear ho2 hlen
            refine (IH.out Y _ wr.heap.size K w3 (by rw [HLEN.out]; have := HK.out; omega) HO2.out k2.size HCP.out h8).mono ?_
            rintro e w4 ⟨v4, rfl, hp4, hk4⟩
            obtain ⟨r, hr⟩ : ∃ r, r = spF N f Y := ⟨_, rfl⟩
            have HD2 : Hid (spF N (f + 1) xs = (match spF N f Y with | some l => some l | none => tryS N (spF N f) xs m)) := by show _ = _; rw [HDS.out, HDT.out]
            rw [← hr] at hp4 HD2 ⊢
            clear hr HDT HDS
            cases r with
            | none =>
              have HD3 : Hid (spF N (f + 1) xs = tryS N (spF N f) xs m) := HD2.out
              clear HD2 hp4
              go_wp2_with fail
              go_roundw
              case rel => exact ⟨m, by omega, congrArg (Value.int .i64) (by have := HXE.out; omega), HD3.out, by have := HXE.out; omega, (hkp.trans k2).trans hk4⟩
              case measure => have := HXE.out; simp [intOf]; omega
            | some l =>
              have HD3 : Hid (spF N (f + 1) xs = some l) := HD2.out
              have HO4 := Lib.hid (show OwI wr.heap.size w4 v4 l from hp4)
              clear HD2 hp4
              go_wp2_with fail
              go_ret2
              rw [HD3.out]
              exact ⟨_, rfl, HO4.out.weak (by have := hkp.size; omega), (hkp.trans k2).trans hk4⟩

def isDec (o : Option (List Int)) (l : List Int) : Bool := match o with | some x => x == l | none => false
theorem isDec_eq {o : Option (List Int)} {l : List Int} (h : isDec o l = true) : o = some l := by
  cases o with
  | none => cases h
  | some x => rw [isDec, beq_iff_eq] at h; rw [h]
theorem ds2 : dsF 3 0 [0, 1] = some [0, 1] := rfl
theorem ds3 : dsF 7 1 [0, 1] = some [0, 1, 3] := isDec_eq (by decide +kernel)
theorem ds4 : dsF 13 2 [0, 1] = some [0, 1, 3, 9] := isDec_eq (by decide +kernel)
theorem ds5 : dsF 21 3 [0, 1] = some [0, 1, 4, 14, 16] := isDec_eq (by decide +kernel)
theorem ds6 : dsF 31 4 [0, 1] = some [0, 1, 3, 8, 12, 18] := isDec_eq (by decide +kernel)
theorem sp2 : spF 3 0 [0, 1] = some [0, 1] := isDec_eq (by decide +kernel)
theorem sp3 : spF 7 1 [0, 1] = some [0, 1, 3] := isDec_eq (by decide +kernel)
theorem sp4 : spF 13 2 [0, 1] = some [0, 1, 3, 9] := isDec_eq (by decide +kernel)
theorem sp5 : spF 21 3 [0, 1] = some [0, 1, 4, 14, 16] := isDec_eq (by decide +kernel)
theorem sp6 : spF 31 4 [0, 1] = some [0, 1, 3, 8, 12, 18] := isDec_eq (by decide +kernel)
def findS (k : Int) : List Int := if k = 2 then [0, 1] else if k = 3 then [0, 1, 3] else if k = 4 then [0, 1, 3, 9] else if k = 5 then [0, 1, 4, 14, 16] else if k = 6 then [0, 1, 3, 8, 12, 18] else []
theorem owi_lit2 (w : World) (B : Nat) (hB : B ≤ w.heap.size) : OwI B (w.alloc (.cells #[.int .i64 0, .int .i64 1] 3)) (.slice (some ⟨w.heap.size, 0, none⟩) 2 2) [0, 1] :=
  World.ownsRow_lit w #[.int .i64 0, .int .i64 1] 2 hB (by unfold maxLen; omega) rfl
theorem iFind_any (k : Int) (w : World) : Calls Try.prog 21 #[.int .i64 k] w fun e w' => ∃ v, e = .returned v ∧ OwI w.heap.size w' v (findS k) ∧ Kp w w' := by
  by_cases hk : inB k 2 6 = true
  · have b := inB_true.1 hk
    rcases (show k = 2 ∨ k = 3 ∨ k = 4 ∨ k = 5 ∨ k = 6 by omega) with rfl | rfl | rfl | rfl | rfl
    · go_enter Try.func21, Try.ntmps21
      go_wp2_with (go_at_call 31; refine (in_any _ _ _ _).mono ?_; rintro e w' ⟨rfl, rfl⟩)
      refine (ds_any 3 (by omega) 0 [0, 1] _ w.heap.size 2 _ rfl (owi_lit2 w _ (Nat.le_refl _)) (by simp) (by simp) (by simp) (by simp) (by simp)).mono ?_
      rintro e w2 ⟨v, rfl, hp, hk2⟩
      rw [ds2] at hp
      obtain ⟨ho, hl⟩ := (show OwI _ _ _ _ ∧ _ from hp)
      obtain ⟨g, cap, rfl, _, _⟩ := ho.form hl
      have HO := Lib.hid ho
      clear hp ho hl
      go_wp2_with fail
      go_ret
      exact ⟨_, rfl, HO.out, ((Kp.refl w).alloc _).trans hk2⟩
    · go_enter Try.func21, Try.ntmps21
      go_wp2_with (go_at_call 31; refine (in_any _ _ _ _).mono ?_; rintro e w' ⟨rfl, rfl⟩)
      refine (ds_any 7 (by omega) 1 [0, 1] _ w.heap.size 3 _ rfl (owi_lit2 w _ (Nat.le_refl _)) (by simp) (by simp) (by simp) (by simp) (by simp)).mono ?_
      rintro e w2 ⟨v, rfl, hp, hk2⟩
      rw [ds3] at hp
      obtain ⟨ho, hl⟩ := (show OwI _ _ _ _ ∧ _ from hp)
      obtain ⟨g, cap, rfl, _, _⟩ := ho.form hl
      have HO := Lib.hid ho
      clear hp ho hl
      go_wp2_with fail
      go_ret
      exact ⟨_, rfl, HO.out, ((Kp.refl w).alloc _).trans hk2⟩
    · go_enter Try.func21, Try.ntmps21
      go_wp2_with (go_at_call 31; refine (in_any _ _ _ _).mono ?_; rintro e w' ⟨rfl, rfl⟩)
      refine (ds_any 13 (by omega) 2 [0, 1] _ w.heap.size 4 _ rfl (owi_lit2 w _ (Nat.le_refl _)) (by simp) (by simp) (by simp) (by simp) (by simp)).mono ?_
      rintro e w2 ⟨v, rfl, hp, hk2⟩
      rw [ds4] at hp
      obtain ⟨ho, hl⟩ := (show OwI _ _ _ _ ∧ _ from hp)
      obtain ⟨g, cap, rfl, _, _⟩ := ho.form hl
      have HO := Lib.hid ho
      clear hp ho hl
      go_wp2_with fail
      go_ret
      exact ⟨_, rfl, HO.out, ((Kp.refl w).alloc _).trans hk2⟩
    · go_enter Try.func21, Try.ntmps21
      go_wp2_with (go_at_call 31; refine (in_any _ _ _ _).mono ?_; rintro e w' ⟨rfl, rfl⟩)
      refine (ds_any 21 (by omega) 3 [0, 1] _ w.heap.size 5 _ rfl (owi_lit2 w _ (Nat.le_refl _)) (by simp) (by simp) (by simp) (by simp) (by simp)).mono ?_
      rintro e w2 ⟨v, rfl, hp, hk2⟩
      rw [ds5] at hp
      obtain ⟨ho, hl⟩ := (show OwI _ _ _ _ ∧ _ from hp)
      obtain ⟨g, cap, rfl, _, _⟩ := ho.form hl
      have HO := Lib.hid ho
      clear hp ho hl
      go_wp2_with fail
      go_ret
      exact ⟨_, rfl, HO.out, ((Kp.refl w).alloc _).trans hk2⟩
    · go_enter Try.func21, Try.ntmps21
      go_wp2_with (go_at_call 31; refine (in_any _ _ _ _).mono ?_; rintro e w' ⟨rfl, rfl⟩)
      refine (ds_any 31 (by omega) 4 [0, 1] _ w.heap.size 6 _ rfl (owi_lit2 w _ (Nat.le_refl _)) (by simp) (by simp) (by simp) (by simp) (by simp)).mono ?_
      rintro e w2 ⟨v, rfl, hp, hk2⟩
      rw [ds6] at hp
      obtain ⟨ho, hl⟩ := (show OwI _ _ _ _ ∧ _ from hp)
      obtain ⟨g, cap, rfl, _, _⟩ := ho.form hl
      have HO := Lib.hid ho
      clear hp ho hl
      go_wp2_with fail
      go_ret
      exact ⟨_, rfl, HO.out, ((Kp.refl w).alloc _).trans hk2⟩
  · have e : findS k = [] := by
      have := inB_false.1 (by simpa using hk)
      simp only [findS]
      rw [if_neg (by omega), if_neg (by omega), if_neg (by omega), if_neg (by omega), if_neg (by omega)]
    rw [e]
    clear e
    go_enter Try.func21, Try.ntmps21
    go_wp2_with (go_at_call 31; refine (in_any _ _ _ _).mono ?_; rintro e w' ⟨rfl, rfl⟩)
    go_ret
    exact ⟨_, rfl, World.ownsRow_nil _ _ _ _, Kp.refl _⟩
theorem sFind_any (k : Int) (w : World) : Calls Try.prog 20 #[.int .i64 k] w fun e w' => ∃ v, e = .returned v ∧ OwI w.heap.size w' v (findS k) ∧ Kp w w' := by
  by_cases hk : inB k 2 6 = true
  · have b := inB_true.1 hk
    rcases (show k = 2 ∨ k = 3 ∨ k = 4 ∨ k = 5 ∨ k = 6 by omega) with rfl | rfl | rfl | rfl | rfl
    · go_enter Try.func20, Try.ntmps20
      go_wp2_with (go_at_call 30; refine (l01In_any _ _ _ _).mono ?_; rintro e w' ⟨rfl, rfl⟩)
      refine (sp_any 3 (by omega) 0 [0, 1] _ w.heap.size 2 _ rfl (owi_lit2 w _ (Nat.le_refl _)) (by simp) (by decide +kernel) (by omega)).mono ?_
      rintro e w2 ⟨v, rfl, hp, hk2⟩
      rw [sp2] at hp ⊢
      have HO := Lib.hid (show OwI w.heap.size w2 v _ from hp)
      clear hp
      go_wp2_with fail
      go_ret
      exact ⟨_, rfl, HO.out, ((Kp.refl w).alloc _).trans hk2⟩
    · go_enter Try.func20, Try.ntmps20
      go_wp2_with (go_at_call 30; refine (l01In_any _ _ _ _).mono ?_; rintro e w' ⟨rfl, rfl⟩)
      refine (sp_any 7 (by omega) 1 [0, 1] _ w.heap.size 3 _ rfl (owi_lit2 w _ (Nat.le_refl _)) (by simp) (by decide +kernel) (by omega)).mono ?_
      rintro e w2 ⟨v, rfl, hp, hk2⟩
      rw [sp3] at hp ⊢
      have HO := Lib.hid (show OwI w.heap.size w2 v _ from hp)
      clear hp
      go_wp2_with fail
      go_ret
      exact ⟨_, rfl, HO.out, ((Kp.refl w).alloc _).trans hk2⟩
    · go_enter Try.func20, Try.ntmps20
      go_wp2_with (go_at_call 30; refine (l01In_any _ _ _ _).mono ?_; rintro e w' ⟨rfl, rfl⟩)
      refine (sp_any 13 (by omega) 2 [0, 1] _ w.heap.size 4 _ rfl (owi_lit2 w _ (Nat.le_refl _)) (by simp) (by decide +kernel) (by omega)).mono ?_
      rintro e w2 ⟨v, rfl, hp, hk2⟩
      rw [sp4] at hp ⊢
      have HO := Lib.hid (show OwI w.heap.size w2 v _ from hp)
      clear hp
      go_wp2_with fail
      go_ret
      exact ⟨_, rfl, HO.out, ((Kp.refl w).alloc _).trans hk2⟩
    · go_enter Try.func20, Try.ntmps20
      go_wp2_with (go_at_call 30; refine (l01In_any _ _ _ _).mono ?_; rintro e w' ⟨rfl, rfl⟩)
      refine (sp_any 21 (by omega) 3 [0, 1] _ w.heap.size 5 _ rfl (owi_lit2 w _ (Nat.le_refl _)) (by simp) (by decide +kernel) (by omega)).mono ?_
      rintro e w2 ⟨v, rfl, hp, hk2⟩
      rw [sp5] at hp ⊢
      have HO := Lib.hid (show OwI w.heap.size w2 v _ from hp)
      clear hp
      go_wp2_with fail
      go_ret
      exact ⟨_, rfl, HO.out, ((Kp.refl w).alloc _).trans hk2⟩
    · go_enter Try.func20, Try.ntmps20
      go_wp2_with (go_at_call 30; refine (l01In_any _ _ _ _).mono ?_; rintro e w' ⟨rfl, rfl⟩)
      refine (sp_any 31 (by omega) 4 [0, 1] _ w.heap.size 6 _ rfl (owi_lit2 w _ (Nat.le_refl _)) (by simp) (by decide +kernel) (by omega)).mono ?_
      rintro e w2 ⟨v, rfl, hp, hk2⟩
      rw [sp6] at hp ⊢
      have HO := Lib.hid (show OwI w.heap.size w2 v _ from hp)
      clear hp
      go_wp2_with fail
      go_ret
      exact ⟨_, rfl, HO.out, ((Kp.refl w).alloc _).trans hk2⟩
  · have e : findS k = [] := by
      have := inB_false.1 (by simpa using hk)
      simp only [findS]
      rw [if_neg (by omega), if_neg (by omega), if_neg (by omega), if_neg (by omega), if_neg (by omega)]
    rw [e]
    clear e
    go_enter Try.func20, Try.ntmps20
    go_wp2_with (go_at_call 30; refine (l01In_any _ _ _ _).mono ?_; rintro e w' ⟨rfl, rfl⟩)
    go_ret
    exact ⟨_, rfl, owi_lit _ _ (Nat.le_refl _), (Kp.refl _).alloc _⟩
theorem findS_len (k : Int) : (findS k).length ≤ 6 := by
  unfold findS
  repeat (split; simp)
  simp
end Go.Proofs.Ytoobpkcnmgjccaa
