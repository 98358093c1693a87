/- Words for slices of pairs of ints (Hang), and the contracts of szHangS, toHangS, eqHangS. -/
import Derived.Test.YtnfajiokmjkebaaInts
import Derived.Test.YtnfajiokmjkebaaKeep
import Derived.Deep.SlicePairs
import Derived.Deep.RegionHeld3
import Derived.Deep.DeepCutAuto
set_option linter.unusedVariables false
namespace Go.Proofs.Ytnfajiokmjkebaa
open Go.ChangeShapes Go.WideShapes Go.ChangeAt Go.RowKit Go.Joins Go.Deep

def pA (xs : List (Int × Int)) (k : Nat) : Int := (xs.getD k (0, 0)).1
def pB (xs : List (Int × Int)) (k : Nat) : Int := (xs.getD k (0, 0)).2
/-- The cells of a row of pairs. -/
def pC : List (Int × Int) → List Value
  | [] => []
  | p :: l => .int .i64 p.1 :: .int .i64 p.2 :: pC l
theorem pC_length (xs : List (Int × Int)) : (pC xs).length = xs.length * 2 := by
  induction xs with
  | nil => rfl
  | cons p l ih => simp only [pC, List.length_cons, ih]; omega
theorem pC_get (xs : List (Int × Int)) : ∀ k, k < xs.length → (pC xs)[k * 2]? = some (.int .i64 (pA xs k)) ∧ (pC xs)[k * 2 + 1]? = some (.int .i64 (pB xs k)) := by
  induction xs with
  | nil => intro k hk; simp at hk
  | cons p l ih =>
    intro k hk
    cases k with
    | zero => exact ⟨rfl, rfl⟩
    | succ k =>
      have := ih k (by simpa using hk)
      rw [show (k + 1) * 2 = k * 2 + 1 + 1 by omega]
      exact this
def RdP (w : World) (A : Option Addr) (n : Nat) (xs : List (Int × Int)) : Prop := Reads w w.heap.size 2 A n (pC xs)
theorem RdP.cellOf {w : World} {A : Option Addr} {n : Nat} {xs : List (Int × Int)} (h : RdP w A n xs) (hl : xs.length = n) (hn : 0 < n) :
    ∃ b off, A = some ⟨b, off, none⟩ ∧ b < w.heap.size ∧ ∀ k, k < n → w.cell? ⟨b, off + k * 2, none⟩ = some (.int .i64 (pA xs k)) ∧ w.cell? ⟨b, off + k * 2 + 1, none⟩ = some (.int .i64 (pB xs k)) := by
  obtain ⟨b, off, u, e, hb, hu, hc⟩ := Reads.cellOf (k := 0) h (by omega)
  exact ⟨b, off, e, hb, fun k hk => by
    have := pC_get xs k (by omega)
    exact ⟨hc _ _ this.1, by rw [Nat.add_assoc]; exact hc _ _ this.2⟩⟩
theorem RdP.kp {w w' : World} {A : Option Addr} {n : Nat} {xs : List (Int × Int)} (h : RdP w A n xs) (hk : Kp w w') : RdP w' A n xs := Reads.kp h hk
theorem szHangS_any (A : Option Addr) (n c : Nat) (l : Int) (w : World) (hn : n ≤ 9223372036854775807) (hl : 0 ≤ l ∧ l ≤ 1048576) :
    Calls Try.prog 11 #[.slice A n c, .int .i64 l] w fun e w' => e = .returned (.int .i64 (if l < n then -1 else l - n)) ∧ Kp w w' := by
  by_cases h : l < n
  · rw [if_pos h]
    have q : l - (n : Int) < 0 := by omega
    go_enter Try.func11, Try.ntmps11
    go_wp2
    go_ret
    exact ⟨rfl, Kp.refl w⟩
  · rw [if_neg h]
    have q : 0 ≤ l - (n : Int) := by omega
    go_enter Try.func11, Try.ntmps11
    go_wp2
    go_ret
    exact ⟨rfl, Kp.refl w⟩
theorem hang_info : (Try.prog.info? 46).map (fun i => (i.zero, i.size, i.bytes)) = some (some (.agg #[.int .i64 0, .int .i64 0]), 2, 16) := by kernel_rfl
theorem toHang_any (a b : Int) (w : World) : Calls Try.prog 35 #[.agg #[.int .i64 a, .int .i64 b]] w fun e w' => e = .returned (.agg #[.int .i64 a, .int .i64 b]) ∧ Kp w w' := by
  go_enter Try.func35, Try.ntmps35
  go_wp2
  exact bodyPost_ret (v := .agg #[.int .i64 a, .int .i64 b]) (by simp [results, Try.results35, go_sem]) rfl ⟨rfl, by (repeat (with_reducible first | exact Kp.refl _ | assumption | refine Kp.drew ?_ | refine Kp.drewN ?_ _ | refine Kp.alloc ?_ _ | refine Kp.setCell ?_ (by first | (simp; done) | (simp; omega) | (dsimp only; omega)) _ | refine Kp.trans ?_ (by assumption)))⟩
theorem eqHang_same (a b : Int) (w : World) : Calls Try.prog 37 #[.agg #[.int .i64 a, .int .i64 b], .agg #[.int .i64 a, .int .i64 b]] w fun e w' => e = .returned (.bool true) ∧ Kp w w' := by
  go_enter Try.func37, Try.ntmps37
  go_wp2
  go_ret
  exact ⟨rfl, by (repeat (with_reducible first | exact Kp.refl _ | assumption | refine Kp.drew ?_ | refine Kp.drewN ?_ _ | refine Kp.alloc ?_ _ | refine Kp.setCell ?_ (by first | (simp; done) | (simp; omega) | (dsimp only; omega)) _ | refine Kp.trans ?_ (by assumption)))⟩
/-- A slice of pairs of the call's own. -/
def OwP (B : Nat) (w : World) (v : Value) (xs : List (Int × Int)) : Prop := w.ownsRow B 46 2 v xs.length (pC xs)
theorem OwP.rd {B : Nat} {w : World} {v : Value} {xs : List (Int × Int)} (h : OwP B w v xs) : ∃ A c, v = .slice A xs.length c ∧ RdP w A xs.length xs := by
  rcases h.2 with ⟨rfl, h0⟩ | ⟨g, cap, cur, rfl, _⟩
  · have : xs = [] := List.eq_nil_of_length_eq_zero h0
    subst this
    exact ⟨none, 0, rfl, Reads.none_⟩
  · exact ⟨_, cap, rfl, Reads.of_own h⟩
set_option maxHeartbeats 1600000 in
theorem toHangS_any (A : Option Addr) (n c : Nat) (xs : List (Int × Int)) (w : World) (hl : xs.length = n) (hn : n ≤ 1048576) (hr : RdP w A n xs) :
    Calls Try.prog 13 #[.slice A n c] w fun e w' => ∃ v, e = .returned v ∧ OwP w.heap.size w' v xs ∧ Kp w w' := by
  obtain ⟨i0, hi, hz0, hz1, hz2⟩ := info_parts hang_info
  have HR := Lib.hid hr
  have HL := Lib.hid hl
  clear hr hl
  go_enter Try.func13, Try.ntmps13
  go_wp2_with (at_make; refine wpList_make_full _ rfl _ _ 25 rfl w.heap.size 46 i0 (.agg #[.int .i64 0, .int .i64 0]) 2 Try.underlying25 hi hz0 hz1 .i64 .i64 _ _ n rfl rfl rfl rfl (by rw [hz2]; omega) (by unfold maxLen; omega) (Nat.le_refl _) ?_; intro w1 hown1 hgrow1)
  have hk1 : Kp w w1 := (Kp.refl w).grown hgrow1 (by simp)
  have HO1 := Lib.hid hown1
  clear hgrow1 hown1
  go_loopw [4] (fun i wr => ∃ k : Nat, k ≤ n ∧ i = .int .i64 k ∧ (∃ L, (∀ j, j < k * 2 → L[j]? = (pC xs)[j]?) ∧ wr.ownsRow w.heap.size 46 2 (.slice (some ⟨w.heap.size, 0, none⟩) n n) n L) ∧ Kp w wr)
    (fun i _ => n - (intOf i).toNat)
  case atStart => exact ⟨0, by omega, rfl, ⟨_, fun j hj => by omega, HO1.out⟩, hk1⟩
  case round =>
    obtain ⟨k, hk, rfl, ⟨L, hL, hown⟩, hkp⟩ := hrel
    by_cases hlt : k < n
    · obtain ⟨b, off, rfl, hb, hc⟩ := (HR.out.kp hkp).cellOf HL.out (by omega)
      obtain ⟨cx, cy⟩ := hc k hlt
      have hLl := hown.1
      obtain ⟨u0, hu0⟩ : ∃ u, L[k * 2]? = some u := ⟨_, List.getElem?_eq_getElem (by omega)⟩
      obtain ⟨u1, hu1⟩ : ∃ u, L[k * 2 + 1]? = some u := ⟨_, List.getElem?_eq_getElem (by omega)⟩
      have cg0 : wr.cell? ⟨w.heap.size, k * 2, none⟩ = some u0 := by rw [hown.cellAt _ (by omega), hu0]
      have cg1 : wr.cell? ⟨w.heap.size, k * 2 + 1, none⟩ = some u1 := by rw [hown.cellAt _ (by omega), hu1]
      have fg0 := hown.frozenAt (k * 2)
      have fg1 := hown.frozenAt (k * 2 + 1)
      have HO := Lib.hid hown
      have hg := pC_get xs k (by rw [HL.out]; exact hlt)
      have hL2 : ∀ j, j < (k + 1) * 2 → ((L.set (k * 2) (.int .i64 (pA xs k))).set (k * 2 + 1) (.int .i64 (pB xs k)))[j]? = (pC xs)[j]? := by
        intro j hj
        rw [List.getElem?_set, List.getElem?_set]
        by_cases h1 : k * 2 + 1 = j
        · subst h1; simp [hg.2]; omega
        · by_cases h2 : k * 2 = j
          · subst h2; simp [hg.1]; omega
          · rw [if_neg h1, if_neg h2]; exact hL j (by omega)
      have HL2 := Lib.hid hL2
      obtain ⟨X, hX⟩ : ∃ X, X = pA xs k := ⟨_, rfl⟩
      obtain ⟨Y, hY⟩ : ∃ Y, Y = pB xs k := ⟨_, rfl⟩
      rw [← hX] at cx HL2
      rw [← hY] at cy HL2
      clear hL2 hX hY hc hL hown hu0 hu1 hg hLl
      go_wp2_with fail
      refine (toHang_any _ _ _).mono ?_
      rintro e w2 ⟨rfl, hk2⟩
      have hst := (((owns_kp HO.out hk2).stored (k * 2) (.int .i64 X)).1.stored (k * 2 + 1) (.int .i64 Y)).1
      have HS := Lib.hid hst
      obtain ⟨cg0, fg0⟩ := hk2.at2 cg0 fg0
      obtain ⟨cg1, fg1⟩ := hk2.at2 cg1 fg1
      clear hst
      go_wp2_with fail
      go_roundw
      case rel => exact ⟨k + 1, by omega, by go_num, ⟨_, HL2.out, HS.out⟩, by (repeat (with_reducible first | exact Kp.refl _ | assumption | refine Kp.drew ?_ | refine Kp.drewN ?_ _ | refine Kp.alloc ?_ _ | refine Kp.setCell ?_ (by first | (simp; done) | (simp; omega) | (dsimp only; omega)) _ | refine Kp.trans ?_ (by assumption)))⟩
      case measure => simp [intOf]; omega
    · obtain rfl : k = n := by omega
      go_wp2
      go_ret
      refine ⟨_, rfl, ?_, hkp⟩
      unfold OwP
      have e : L = pC xs := by
        refine List.ext_getElem? fun j => ?_
        rcases Nat.lt_or_ge j (k * 2) with h | h
        · exact hL j h
        · rw [List.getElem?_eq_none (by rw [hown.1]; exact h), List.getElem?_eq_none (by rw [pC_length, HL.out]; exact h)]
      rw [HL.out, ← e]
      exact hown
theorem eqHangS_same (A A' : Option Addr) (n c c' : Nat) (xs : List (Int × Int)) (w : World) (hl : xs.length = n) (hn : n ≤ 1048576) (hr : RdP w A n xs) (hr' : RdP w A' n xs) :
    Calls Try.prog 15 #[.slice A n c, .slice A' n c'] w fun e w' => e = .returned (.bool true) ∧ Kp w w' := by
  have HR := Lib.hid hr
  have HR' := Lib.hid hr'
  have HL := Lib.hid hl
  clear hr hr' hl
  go_enter Try.func15, Try.ntmps15
  go_wp2
  go_loopw [5] (fun i wr => ∃ k : Nat, k ≤ n ∧ i = .int .i64 k ∧ Kp w wr) (fun i _ => n - (intOf i).toNat)
  case atStart => exact ⟨0, by omega, rfl, Kp.refl _⟩
  case round =>
    obtain ⟨k, hk, rfl, hkp⟩ := hrel
    by_cases hlt : k < n
    · obtain ⟨b, off, rfl, hb, hc⟩ := (HR.out.kp hkp).cellOf HL.out (by omega)
      obtain ⟨b', off', rfl, hb', hc'⟩ := (HR'.out.kp hkp).cellOf HL.out (by omega)
      obtain ⟨cx, cy⟩ := hc k hlt
      obtain ⟨dx, dy⟩ := hc' k hlt
      obtain ⟨X, hX⟩ : ∃ X, X = pA xs k := ⟨_, rfl⟩
      obtain ⟨Y, hY⟩ : ∃ Y, Y = pB xs k := ⟨_, rfl⟩
      rw [← hX] at cx dx
      rw [← hY] at cy dy
      have i0 : (0 : Int) ≤ (k : Int) := by omega
      have i1 : (k : Int) < (n : Int) := by omega
      clear hX hY hc hc'
      go_upto_region 6 with fail
      go_region_held3 (fun w' => w'.cell? ⟨b, off + k * 2, none⟩ = some (.int .i64 X) ∧ w'.cell? ⟨b, off + k * 2 + 1, none⟩ = some (.int .i64 Y) ∧ w'.cell? ⟨b', off' + k * 2, none⟩ = some (.int .i64 X) ∧ w'.cell? ⟨b', off' + k * 2 + 1, none⟩ = some (.int .i64 Y))
        (((try go_split_ands); (repeat' apply And.intro) <;> (first | with_reducible assumption | (with_reducible apply cell_drew; with_reducible assumption) | (with_reducible refine Kp.drew ?_; with_reducible assumption) | (with_reducible apply hk.at1; with_reducible assumption) | (with_reducible apply hk.at1; with_reducible apply cell_drew; with_reducible assumption) | (refine Kp.trans ?_ hk; with_reducible assumption) | (refine Kp.trans (Kp.drew ?_) hk; with_reducible assumption))))
        (first | (go_at_call 37; refine (eqHang_same _ _ _).mono ?_; rintro e w3 ⟨rfl, hk⟩))
      go_wp2_with fail
      go_roundw
      case rel => exact ⟨k + 1, by omega, by go_num, by (repeat (with_reducible first | exact Kp.refl _ | assumption | refine Kp.drew ?_ | refine Kp.drewN ?_ _ | refine Kp.alloc ?_ _ | refine Kp.setCell ?_ (by first | (simp; done) | (simp; omega) | (dsimp only; omega)) _ | refine Kp.trans ?_ (by assumption)))⟩
      case measure => simp [intOf]; omega
    · obtain rfl : k = n := by omega
      go_wp2
      go_ret
      exact ⟨rfl, hkp⟩
section
variable {H : Type} {enc : TypeId × Value → H} {P : Program} {w : World}
theorem open_hanglist {t e : TypeId} {f0 f1 : Field} {r : Reach} {b0 : Nat} {v : Value} {d : DataW H} {p : List MemPlace}
    (ht : P.underlying t = some (.slice e)) (he : P.underlying e = some (.struct #[f0, f1])) (ce : P.cellsOf e = 2) (o0 : f0.offset = 0) (o1 : f1.offset = 1) (c0 : P.cellsOf f0.type = 1) (c1 : P.cellsOf f1.type = 1)
    (h0 : P.underlying f0.type = some (.int .i64)) (h1 : P.underlying f1.type = some (.int .i64))
    (hv : Value.okWide P w r b0 t v) (h : DataW.Trod enc P w 0 (fun _ => true) true t v d p) :
    ∃ (A : Option Addr) (n c : Nat) (xs : List (Int × Int)), v = .slice A n c ∧ xs.length = n ∧ n ≤ 9223372036854775807 ∧ RdP w A n xs := by
  obtain ⟨a0, len, cap, rfl⟩ := okWide_slice ht hv
  obtain ⟨fuel, hf⟩ := h
  rcases open_slice_pairs ht he ce o0 o1 c0 c1 hf with ⟨hcs, hx⟩ | ⟨a, len', cap', m, n, V0, V1, D0, D1, P0, P1, hcs, _, hl, hm, hmm, hx, hi⟩
  · simp [Value.cells] at hcs
    obtain ⟨rfl, rfl, rfl⟩ := hcs
    exact ⟨none, 0, 0, [], rfl, rfl, by omega, Reads.none_⟩
  · simp [Value.cells] at hcs
    obtain ⟨rfl, rfl, rfl⟩ := hcs
    simp only [if_true] at hmm
    have hex : ∀ i, ∃ q : Int × Int, i < len → w.cell? (a.add (i * 2)) = some (.int .i64 q.1) ∧ w.cell? (a.add (i * 2 + 1)) = some (.int .i64 q.2) := by
      intro i
      by_cases hil : i < len
      · obtain ⟨k0, k1, t0, t1⟩ := hi i (by omega)
        obtain ⟨q0, e0, _, _⟩ := DataW.trod_int h0 t0
        obtain ⟨q1, e1, _, _⟩ := DataW.trod_int h1 t1
        have e0' : V0 i = .int .i64 q0 := by simpa using e0
        have e1' : V1 i = .int .i64 q1 := by simpa using e1
        exact ⟨(q0, q1), fun _ => ⟨by rw [k0, e0'], by rw [k1, e1']⟩⟩
      · exact ⟨(0, 0), fun h => absurd h hil⟩
    obtain ⟨q, hq⟩ := Classical.skolem.1 hex
    have hlen : ((List.range len).map q).length = len := by simp
    refine ⟨some a, len, cap, (List.range len).map q, rfl, hlen, by unfold maxLen at hm; omega, ⟨by rw [pC_length, hlen], fun hn => ⟨a, rfl, ?_, ?_⟩⟩⟩
    · have := lt_of_cell (hq 0 (by omega)).1
      rwa [block_of_add] at this
    · intro j u hu
      have hj : j < len * 2 := by
        rcases Nat.lt_or_ge j (len * 2) with h1 | h1
        · exact h1
        · rw [List.getElem?_eq_none (by rw [pC_length, hlen]; exact h1)] at hu; cases hu
      obtain ⟨k, hk⟩ : ∃ k, j = k * 2 ∨ j = k * 2 + 1 := ⟨j / 2, by omega⟩
      have hkl : k < len := by omega
      have hg := pC_get ((List.range len).map q) k (by rw [hlen]; exact hkl)
      have hqq := hq k hkl
      have ea : pA ((List.range len).map q) k = (q k).1 := by
        rw [pA, List.getD_eq_getElem?_getD, List.getElem?_eq_getElem (by rw [hlen]; exact hkl)]; simp
      have eb : pB ((List.range len).map q) k = (q k).2 := by
        rw [pB, List.getD_eq_getElem?_getD, List.getElem?_eq_getElem (by rw [hlen]; exact hkl)]; simp
      rcases hk with rfl | rfl
      · rw [hg.1] at hu
        cases hu
        rw [ea]; exact hqq.1
      · rw [hg.2] at hu
        cases hu
        rw [eb]; exact hqq.2
end
end Go.Proofs.Ytnfajiokmjkebaa
