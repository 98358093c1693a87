/- Words for slices of fractions, and the contracts of eqFractionS, markFractionS, heldFractionS (made of Hangs, Shift, MarksH by a program). -/
import Derived.Test.YtamhdjbhoafbhaaSteel
import Derived.Test.YtamhdjbhoafbhaaWords
import Derived.Test.YtamhdjbhoafbhaaApp
import Derived.Test.YtamhdjbhoafbhaaKeep
import Derived.Deep.RegionHeld3
import Derived.Deep.DeepCutAuto
set_option linter.unusedVariables false
namespace Go.Proofs.Ytamhdjbhoafbhaa
open Go.ChangeShapes Go.WideShapes Go.ChangeAt Go.RowKit Go.Joins Go.Deep
def pA (xs : List (Int × Int)) (k : Nat) : Int := (xs.getD k (0, 0)).1
def pB (xs : List (Int × Int)) (k : Nat) : Int := (xs.getD k (0, 0)).2
/-- The cells of a row of pairs. -/
def pC : List (Int × Int) → List Value
  | [] => []
  | p :: l => .int .i64 p.1 :: .int .i64 p.2 :: pC l
theorem pC_length (xs : List (Int × Int)) : (pC xs).length = xs.length * 2 := by
  induction xs with
  | nil => rfl
  | cons p l ih => simp only [pC, List.length_cons, ih]; omega
theorem pC_get (xs : List (Int × Int)) : ∀ k, k < xs.length → (pC xs)[k * 2]? = some (.int .i64 (pA xs k)) ∧ (pC xs)[k * 2 + 1]? = some (.int .i64 (pB xs k)) := by
  induction xs with
  | nil => intro k hk; simp at hk
  | cons p l ih =>
    intro k hk
    cases k with
    | zero => exact ⟨rfl, rfl⟩
    | succ k =>
      have := ih k (by simpa using hk)
      rw [show (k + 1) * 2 = k * 2 + 1 + 1 by omega]
      exact this
def RdP (w : World) (A : Option Addr) (n : Nat) (xs : List (Int × Int)) : Prop := Reads w w.heap.size 2 A n (pC xs)
theorem RdP.cellOf {w : World} {A : Option Addr} {n : Nat} {xs : List (Int × Int)} (h : RdP w A n xs) (hl : xs.length = n) (hn : 0 < n) :
    ∃ b off, A = some ⟨b, off, none⟩ ∧ b < w.heap.size ∧ ∀ k, k < n → w.cell? ⟨b, off + k * 2, none⟩ = some (.int .i64 (pA xs k)) ∧ w.cell? ⟨b, off + k * 2 + 1, none⟩ = some (.int .i64 (pB xs k)) := by
  obtain ⟨b, off, u, e, hb, hu, hc⟩ := Reads.cellOf (k := 0) h (by omega)
  exact ⟨b, off, e, hb, fun k hk => by
    have := pC_get xs k (by omega)
    exact ⟨hc _ _ this.1, by rw [Nat.add_assoc]; exact hc _ _ this.2⟩⟩
theorem RdP.kp {w w' : World} {A : Option Addr} {n : Nat} {xs : List (Int × Int)} (h : RdP w A n xs) (hk : Kp w w') : RdP w' A n xs := Reads.kp h hk
theorem frac_info : (Try.prog.info? 33).map (fun i => (i.zero, i.size, i.bytes)) = some (some (.agg #[.int .i64 0, .int .i64 0]), 2, 16) := by kernel_rfl
/-- A slice of pairs of the call's own. -/
def OwP (B : Nat) (w : World) (v : Value) (xs : List (Int × Int)) : Prop := w.ownsRow B 33 2 v xs.length (pC xs)
theorem OwP.rd {B : Nat} {w : World} {v : Value} {xs : List (Int × Int)} (h : OwP B w v xs) : ∃ A c, v = .slice A xs.length c ∧ RdP w A xs.length xs := by
  rcases h.2 with ⟨rfl, h0⟩ | ⟨g, cap, cur, rfl, _⟩
  · have : xs = [] := List.eq_nil_of_length_eq_zero h0
    subst this
    exact ⟨none, 0, rfl, Reads.none_⟩
  · exact ⟨_, cap, rfl, Reads.of_own h⟩
theorem eqFractionS_same (A A' : Option Addr) (n c c' : Nat) (xs : List (Int × Int)) (w : World) (hl : xs.length = n) (hn : n ≤ 1048576) (hr : RdP w A n xs) (hr' : RdP w A' n xs) :
    Calls Try.prog 28 #[.slice A n c, .slice A' n c'] w fun e w' => e = .returned (.bool true) ∧ Kp w w' := by
  have HR := Lib.hid hr
  have HR' := Lib.hid hr'
  have HL := Lib.hid hl
  clear hr hr' hl
  go_enter Try.func28, Try.ntmps28
  go_wp2
  go_loopw [5] (fun i wr => ∃ k : Nat, k ≤ n ∧ i = .int .i64 k ∧ Kp w wr) (fun i _ => n - (intOf i).toNat)
  case atStart => exact ⟨0, by omega, rfl, Kp.refl _⟩
  case round =>
    obtain ⟨k, hk, rfl, hkp⟩ := hrel
    by_cases hlt : k < n
    · obtain ⟨b, off, rfl, hb, hc⟩ := (HR.out.kp hkp).cellOf HL.out (by omega)
      obtain ⟨b', off', rfl, hb', hc'⟩ := (HR'.out.kp hkp).cellOf HL.out (by omega)
      obtain ⟨cx, cy⟩ := hc k hlt
      obtain ⟨dx, dy⟩ := hc' k hlt
      obtain ⟨X, hX⟩ : ∃ X, X = pA xs k := ⟨_, rfl⟩
      obtain ⟨Y, hY⟩ : ∃ Y, Y = pB xs k := ⟨_, rfl⟩
      rw [← hX] at cx dx
      rw [← hY] at cy dy
      have i0 : (0 : Int) ≤ (k : Int) := by omega
      have i1 : (k : Int) < (n : Int) := by omega
      clear hX hY hc hc'
      go_upto_region 6 with fail
      go_region_held3 (fun w' => w'.cell? ⟨b, off + k * 2, none⟩ = some (.int .i64 X) ∧ w'.cell? ⟨b, off + k * 2 + 1, none⟩ = some (.int .i64 Y) ∧ w'.cell? ⟨b', off' + k * 2, none⟩ = some (.int .i64 X) ∧ w'.cell? ⟨b', off' + k * 2 + 1, none⟩ = some (.int .i64 Y))
        (((try go_split_ands); (repeat' apply And.intro) <;> (first | with_reducible assumption | (with_reducible apply cell_drew; with_reducible assumption) | (with_reducible refine Kp.drew ?_; with_reducible assumption) | (with_reducible apply hk.at1; with_reducible assumption) | (with_reducible apply hk.at1; with_reducible apply cell_drew; with_reducible assumption) | (refine Kp.trans ?_ hk; with_reducible assumption) | (refine Kp.trans (Kp.drew ?_) hk; with_reducible assumption))))
        (first | (go_at_call 21; refine (eqFraction_same _ _ _).mono ?_; rintro e w3 ⟨rfl, hk⟩))
      go_wp2_with fail
      go_roundw
      case rel => exact ⟨k + 1, by omega, by go_num, by (repeat (with_reducible first | exact Kp.refl _ | assumption | refine Kp.drew ?_ | refine Kp.drewN ?_ _ | refine Kp.alloc ?_ _ | refine Kp.setCell ?_ (by first | (simp; done) | (simp; omega) | (dsimp only; omega)) _ | refine Kp.trans ?_ (by assumption)))⟩
      case measure => simp [intOf]; omega
    · obtain rfl : k = n := by omega
      go_wp2
      go_ret
      exact ⟨rfl, hkp⟩
theorem pC_set (xs : List (Int × Int)) : ∀ k, k < xs.length → ∀ a b : Int, ((pC xs).set (k * 2) (.int .i64 a)).set (k * 2 + 1) (.int .i64 b) = pC (xs.set k (a, b)) := by
  induction xs with
  | nil => intro k hk; simp at hk
  | cons p l ih =>
    intro k hk a b
    cases k with
    | zero => rfl
    | succ k =>
      have := ih k (by simpa using hk) a b
      rw [show (k + 1) * 2 = k * 2 + 1 + 1 by omega]
      simp only [pC, List.set_cons_succ]
      rw [this]
theorem oneCell_pairs (xs : List (Int × Int)) : ∀ u ∈ pC xs, u.oneCell' = true := by
  induction xs with
  | nil => intro u hu; simp [pC] at hu
  | cons p l ih =>
    intro u hu
    simp only [pC, List.mem_cons] at hu
    rcases hu with rfl | rfl | hu
    · rfl
    · rfl
    · exact ih u hu
theorem OwP.kp {B : Nat} {w w' : World} {v : Value} {xs : List (Int × Int)} (h : OwP B w v xs) (hk : Kp w w') : OwP B w' v xs := owns_kp h hk
theorem OwP.weak {B B' : Nat} {w : World} {v : Value} {xs : List (Int × Int)} (h : OwP B w v xs) (hB : B' ≤ B) : OwP B' w v xs := by
  refine ⟨h.1, ?_⟩
  rcases h.2 with h0 | ⟨g, cap, cur, e, hb, r⟩
  · exact .inl h0
  · exact .inr ⟨g, cap, cur, e, by omega, r⟩
theorem OwP.lt {B : Nat} {w : World} {v : Value} {xs : List (Int × Int)} (h : OwP B w v xs) : ∀ k, v.ownBlock = some k → B ≤ k ∧ k < w.heap.size := World.ownsRow.lt h
theorem OwP.far {B : Nat} {w w' : World} {v : Value} {xs : List (Int × Int)} (h : OwP B w v xs) {row : Option Nat} (hg : w.grownBy w' row) (hne : v.ownBlock = none ∨ v.ownBlock ≠ row) : OwP B w' v xs := World.ownsRow.kept h hg hne
theorem OwP.form {B : Nat} {w : World} {v : Value} {xs : List (Int × Int)} (h : OwP B w v xs) (hn : 0 < xs.length) : ∃ g cap, v = .slice (some ⟨g, 0, none⟩) xs.length cap ∧ B ≤ g ∧ g < w.heap.size := World.ownsRow.form h hn
theorem OwP.apart {B B' : Nat} {w w1 w2 : World} {v v' : Value} {xs ys : List (Int × Int)} (h : OwP B w v xs) (h' : OwP B' w1 v' ys) (hB : w.heap.size ≤ B') : v.ownBlock = none ∨ v.ownBlock ≠ v'.ownBlock := by
  cases e : v.ownBlock with
  | none => exact .inl rfl
  | some k =>
    refine .inr fun e' => ?_
    have h1 := h.lt k e
    have h2 := h'.lt k e'.symm
    omega
theorem OwP.apart' {B B' : Nat} {w w1 w2 : World} {v v' : Value} {xs ys : List (Int × Int)} (h : OwP B w v xs) (h' : OwP B' w1 v' ys) (hB : w.heap.size ≤ B') : v'.ownBlock = none ∨ v'.ownBlock ≠ v.ownBlock := by
  cases e : v'.ownBlock with
  | none => exact .inl rfl
  | some k =>
    refine .inr fun e' => ?_
    have h1 := h.lt k e'.symm
    have h2 := h'.lt k e
    omega
def MkdTo (L : List (Int × Int)) (q : Int) (k : Nat) : Prop := ∀ j, j < k → pA L j = q + 2 * (j : Int) ∧ pB L j = q + 2 * (j : Int) + 1
theorem MkdTo.next {L : List (Int × Int)} {q : Int} {k : Nat} (h : MkdTo L q k) (hk : k < L.length) : MkdTo (L.set k (q + 2 * (k : Int), q + 2 * (k : Int) + 1)) q (k + 1) := by
  intro j hj
  rw [pA, pB, List.getD_eq_getElem?_getD, List.getElem?_set]
  by_cases e : k = j
  · subst e; simp [hk]
  · rw [if_neg e, ← List.getD_eq_getElem?_getD]; exact h j (by omega)
theorem two_store {B : Nat} {w : World} {g n cap : Nat} {L : List (Int × Int)} {k : Nat} (a b : Int) (hl : L.length = n) (hk : k < n) (h : OwP B w (.slice (some ⟨g, 0, none⟩) n cap) L) :
    (∃ u, w.cell? ⟨g, k * 2, none⟩ = some u) ∧ (∃ u, w.cell? ⟨g, k * 2 + 1, none⟩ = some u) ∧ w.frozen? ⟨g, k * 2, none⟩ = false ∧ w.frozen? ⟨g, k * 2 + 1, none⟩ = false ∧
    OwP B ((w.setCell ⟨g, k * 2, none⟩ (.int .i64 a)).setCell ⟨g, k * 2 + 1, none⟩ (.int .i64 b)) (.slice (some ⟨g, 0, none⟩) n cap) (L.set k (a, b)) ∧
    w.grownBy ((w.setCell ⟨g, k * 2, none⟩ (.int .i64 a)).setCell ⟨g, k * 2 + 1, none⟩ (.int .i64 b)) (some g) := by
  unfold OwP at h ⊢
  rw [hl] at h
  rw [List.length_set, hl]
  have hg := pC_get L k (by omega)
  have h1 := World.ownsRow.stored h (k * 2) (.int .i64 a)
  have h2 := World.ownsRow.stored h1.1 (k * 2 + 1) (.int .i64 b)
  rw [pC_set _ _ (by omega)] at h2
  exact ⟨⟨_, by rw [World.ownsRow.cellAt h _ (by omega), hg.1]⟩, ⟨_, by rw [World.ownsRow.cellAt h _ (by omega), hg.2]⟩, World.ownsRow.frozenAt h _, World.ownsRow.frozenAt h _, h2.1, h1.2.trans h2.2⟩
theorem markFractionS_any (v : Value) (xs : List (Int × Int)) (q : Int) (B : Nat) (w : World) (h : OwP B w v xs) (hn : xs.length ≤ 1048576) (hq : 0 ≤ q ∧ q ≤ 1000000000) :
    Calls Try.prog 29 #[v, .int .i64 q] w fun e w' => ∃ L, e = .returned (.int .i64 (q + 2 * (xs.length : Int))) ∧ L.length = xs.length ∧ MkdTo L q xs.length ∧ OwP B w' v L ∧ w.grownBy w' v.ownBlock := by
  rcases Nat.eq_zero_or_pos xs.length with h0 | h0
  · have hxs : xs = [] := List.eq_nil_of_length_eq_zero h0
    subst hxs
    obtain ⟨A, c, rfl, hr⟩ := h.rd
    have HH := Lib.hid h
    clear h
    go_enter Try.func29, Try.ntmps29
    go_wp2
    refine wp_loop_rounds 1 ?_
    rw [rounds_succ]
    go_wp2
    go_ret
    exact ⟨[], by simp, rfl, fun j hj => by simp at hj, HH.out, ⟨rfl, rfl, rfl, Nat.le_refl _, fun _ _ _ => rfl⟩⟩
  · obtain ⟨n, hlen⟩ : ∃ n, n = xs.length := ⟨_, rfl⟩
    obtain ⟨g, cap, rfl, hg, hgl⟩ := h.form h0
    rw [← hlen] at h hn h0 ⊢
    have HL := Lib.hid hlen
    clear hlen
    go_enter Try.func29, Try.ntmps29
    go_wp2
    go_loopw [1, 5] (fun q' i wr => ∃ k : Nat, ∃ L, k ≤ n ∧ i = .int .i64 k ∧ q' = .int .i64 (q + 2 * (k : Int)) ∧ L.length = n ∧ MkdTo L q k ∧ OwP B wr (.slice (some ⟨g, 0, none⟩) n cap) L ∧ w.grownBy wr (some g))
      (fun _ i _ => n - (intOf i).toNat)
    case atStart => exact ⟨0, xs, by omega, rfl, by simp, HL.out.symm, fun j hj => by omega, h, ⟨rfl, rfl, rfl, Nat.le_refl _, fun _ _ _ => rfl⟩⟩
    case round =>
      obtain ⟨k, L, hk, rfl, rfl, hl, hm, hown, hgr⟩ := hrel
      by_cases hlt : k < n
      · obtain ⟨⟨u0, cg0⟩, ⟨u1, cg1⟩, fg0, fg1, hst, hg2⟩ := two_store (q + 2 * (k : Int)) (q + 2 * (k : Int) + 1) hl hlt hown
        have HS := Lib.hid hst
        have HG := Lib.hid (hgr.trans hg2)
        have HM := Lib.hid (hm.next (by omega))
        have HLL := Lib.hid (show (L.set k (q + 2 * (k : Int), q + 2 * (k : Int) + 1)).length = n by rw [List.length_set, hl])
        clear hst hown hgr hg2 hm hl
        go_wp2
        go_roundw
        case rel => exact ⟨k + 1, _, by omega, by go_num, by go_num, HLL.out, HM.out, HS.out, HG.out⟩
        case measure => simp [intOf]; omega
      · obtain rfl : k = n := by omega
        go_wp2
        go_ret
        exact ⟨L, rfl, hl, hm, hown, hgr⟩
theorem heldFractionS_any (A : Option Addr) (n c : Nat) (L : List (Int × Int)) (q : Int) (w : World) (hl : L.length = n) (hn : n ≤ 1048576) (hq : 0 ≤ q ∧ q ≤ 1000000000) (hm : MkdTo L q n) (hr : RdP w A n L) :
    Calls Try.prog 30 #[.slice A n c, .int .i64 q] w fun e w' => e = .returned (.int .i64 (q + 2 * (n : Int))) ∧ Kp w w' := by
  have HR := Lib.hid hr
  have HL := Lib.hid hl
  have HM := Lib.hid hm
  clear hr hl hm
  go_enter Try.func30, Try.ntmps30
  go_wp2
  go_loopw [1, 5] (fun q' i wr => ∃ k : Nat, k ≤ n ∧ i = .int .i64 k ∧ q' = .int .i64 (q + 2 * (k : Int)) ∧ Kp w wr) (fun _ i _ => n - (intOf i).toNat)
  case atStart => exact ⟨0, by omega, rfl, by simp, Kp.refl _⟩
  case round =>
    obtain ⟨k, hk, rfl, rfl, hkp⟩ := hrel
    by_cases hlt : k < n
    · obtain ⟨b, off, rfl, hb, hc⟩ := (HR.out.kp hkp).cellOf HL.out (by omega)
      obtain ⟨cx, cy⟩ := hc k hlt
      rw [(HM.out k hlt).1] at cx
      rw [(HM.out k hlt).2] at cy
      have i0 : (0 : Int) ≤ (k : Int) := by omega
      have i1 : (k : Int) < (n : Int) := by omega
      clear hc
      go_wp2
      go_roundw
      case rel => exact ⟨k + 1, by omega, by go_num, by go_num, by (repeat (with_reducible first | exact Kp.refl _ | assumption | refine Kp.drew ?_ | refine Kp.drewN ?_ _ | refine Kp.alloc ?_ _ | refine Kp.setCell ?_ (by first | (simp; done) | (simp; omega) | (dsimp only; omega)) _ | refine Kp.trans ?_ (by assumption)))⟩
      case measure => simp [intOf]; omega
    · obtain rfl : k = n := by omega
      go_wp2
      go_ret
      exact ⟨rfl, hkp⟩
end Go.Proofs.Ytamhdjbhoafbhaa
