/- Words for slices of parts (structs of five ints), and the contracts of szPartS, toPartS, eqPartS. -/
import Derived.Test.YtajdppfngnpklaaInts
import Derived.Test.YtajdppfngnpklaaKeep
import Derived.Deep.SlicePairs
import Derived.Deep.RegionHeld3
import Derived.Deep.DeepCutAuto
set_option linter.unusedVariables false
namespace Go.Proofs.Ytajdppfngnpklaa
open Go.ChangeShapes Go.WideShapes Go.ChangeAt Go.RowKit Go.Joins Go.Deep

structure Pt where
  l : Int
  r : Int
  p : Int
  q : Int
  x : Int
def pt (xs : List Pt) (k : Nat) : Pt := xs.getD k ⟨0, 0, 0, 0, 0⟩
/-- The cells of a row of parts. -/
def pC : List Pt → List Value
  | [] => []
  | p :: l => .int .i64 p.l :: .int .i64 p.r :: .int .i64 p.p :: .int .i64 p.q :: .int .i64 p.x :: pC l
theorem pC_length (xs : List Pt) : (pC xs).length = xs.length * 5 := by
  induction xs with
  | nil => rfl
  | cons p l ih => simp only [pC, List.length_cons, ih]; omega
theorem pC_get (xs : List Pt) : ∀ k, k < xs.length → (pC xs)[k * 5]? = some (.int .i64 (pt xs k).l) ∧ (pC xs)[k * 5 + 1]? = some (.int .i64 (pt xs k).r) ∧ (pC xs)[k * 5 + 2]? = some (.int .i64 (pt xs k).p) ∧ (pC xs)[k * 5 + 3]? = some (.int .i64 (pt xs k).q) ∧ (pC xs)[k * 5 + 4]? = some (.int .i64 (pt xs k).x) := by
  induction xs with
  | nil => intro k hk; simp at hk
  | cons p l ih =>
    intro k hk
    cases k with
    | zero => exact ⟨rfl, rfl, rfl, rfl, rfl⟩
    | succ k =>
      have := ih k (by simpa using hk)
      rw [show (k + 1) * 5 = k * 5 + 1 + 1 + 1 + 1 + 1 by omega]
      exact this
def RdP (w : World) (A : Option Addr) (n : Nat) (xs : List Pt) : Prop := Reads w w.heap.size 5 A n (pC xs)
/-- The five cells of a part at b, o. -/
def C5 (w : World) (b o : Nat) (v : Pt) : Prop := w.cell? ⟨b, o, none⟩ = some (.int .i64 v.l) ∧ w.cell? ⟨b, o + 1, none⟩ = some (.int .i64 v.r) ∧ w.cell? ⟨b, o + 2, none⟩ = some (.int .i64 v.p) ∧ w.cell? ⟨b, o + 3, none⟩ = some (.int .i64 v.q) ∧ w.cell? ⟨b, o + 4, none⟩ = some (.int .i64 v.x)
theorem RdP.cellOf {w : World} {A : Option Addr} {n : Nat} {xs : List Pt} (h : RdP w A n xs) (hl : xs.length = n) (hn : 0 < n) :
    ∃ b off, A = some ⟨b, off, none⟩ ∧ b < w.heap.size ∧ ∀ k, k < n → C5 w b (off + k * 5) (pt xs k) := by
  obtain ⟨b, off, u, e, hb, hu, hc⟩ := Reads.cellOf (k := 0) h (by omega)
  exact ⟨b, off, e, hb, fun k hk => by
    have := pC_get xs k (by omega)
    exact ⟨hc _ _ this.1, by rw [Nat.add_assoc]; exact hc _ _ this.2.1, by rw [Nat.add_assoc]; exact hc _ _ this.2.2.1, by rw [Nat.add_assoc]; exact hc _ _ this.2.2.2.1, by rw [Nat.add_assoc]; exact hc _ _ this.2.2.2.2⟩⟩
theorem RdP.kp {w w' : World} {A : Option Addr} {n : Nat} {xs : List Pt} (h : RdP w A n xs) (hk : Kp w w') : RdP w' A n xs := Reads.kp h hk
theorem szPartS_any (A : Option Addr) (n c : Nat) (l : Int) (w : World) (hn : n ≤ 9223372036854775807) (hl : 0 ≤ l ∧ l ≤ 1048576) :
    Calls Try.prog 10 #[.slice A n c, .int .i64 l] w fun e w' => e = .returned (.int .i64 (if l < n then -1 else l - n)) ∧ Kp w w' := by
  by_cases h : l < n
  · rw [if_pos h]
    have q : l - (n : Int) < 0 := by omega
    go_enter Try.func10, Try.ntmps10
    go_wp2
    go_ret
    exact ⟨rfl, Kp.refl w⟩
  · rw [if_neg h]
    have q : 0 ≤ l - (n : Int) := by omega
    go_enter Try.func10, Try.ntmps10
    go_wp2
    go_ret
    exact ⟨rfl, Kp.refl w⟩
theorem part_info : (Try.prog.info? 40).map (fun i => (i.zero, i.size, i.bytes)) = some (some (.agg #[.int .i64 0, .int .i64 0, .int .i64 0, .int .i64 0, .int .i64 0]), 5, 40) := by kernel_rfl
theorem toPart_any (a b c d e : Int) (w : World) : Calls Try.prog 30 #[.agg #[.int .i64 a, .int .i64 b, .int .i64 c, .int .i64 d, .int .i64 e]] w fun z w' => z = .returned (.agg #[.int .i64 a, .int .i64 b, .int .i64 c, .int .i64 d, .int .i64 e]) ∧ Kp w w' := by
  go_enter Try.func30, Try.ntmps30
  go_wp2
  exact bodyPost_ret (v := .agg #[.int .i64 a, .int .i64 b, .int .i64 c, .int .i64 d, .int .i64 e]) (by simp [results, Try.results30, go_sem]) rfl ⟨rfl, by (repeat (with_reducible first | exact Kp.refl _ | assumption | refine Kp.drew ?_ | refine Kp.drewN ?_ _ | refine Kp.alloc ?_ _ | refine Kp.setCell ?_ (by first | (simp; done) | (simp; omega) | (dsimp only; omega)) _ | refine Kp.trans ?_ (by assumption)))⟩
theorem eqPart_same (a b c d e : Int) (w : World) : Calls Try.prog 32 #[.agg #[.int .i64 a, .int .i64 b, .int .i64 c, .int .i64 d, .int .i64 e], .agg #[.int .i64 a, .int .i64 b, .int .i64 c, .int .i64 d, .int .i64 e]] w fun z w' => z = .returned (.bool true) ∧ Kp w w' := by
  go_enter Try.func32, Try.ntmps32
  go_wp2
  go_ret
  exact ⟨rfl, by (repeat (with_reducible first | exact Kp.refl _ | assumption | refine Kp.drew ?_ | refine Kp.drewN ?_ _ | refine Kp.alloc ?_ _ | refine Kp.setCell ?_ (by first | (simp; done) | (simp; omega) | (dsimp only; omega)) _ | refine Kp.trans ?_ (by assumption)))⟩
/-- A slice of parts of the call's own. -/
def OwP (B : Nat) (w : World) (v : Value) (xs : List Pt) : Prop := w.ownsRow B 40 5 v xs.length (pC xs)
theorem OwP.rd {B : Nat} {w : World} {v : Value} {xs : List Pt} (h : OwP B w v xs) : ∃ A c, v = .slice A xs.length c ∧ RdP w A xs.length xs := by
  rcases h.2 with ⟨rfl, h0⟩ | ⟨g, cap, cur, rfl, _⟩
  · have : xs = [] := List.eq_nil_of_length_eq_zero h0
    subst this
    exact ⟨none, 0, rfl, Reads.none_⟩
  · exact ⟨_, cap, rfl, Reads.of_own h⟩
def set5 (L : List Value) (j : Nat) (v : Pt) : List Value := ((((L.set j (.int .i64 v.l)).set (j + 1) (.int .i64 v.r)).set (j + 2) (.int .i64 v.p)).set (j + 3) (.int .i64 v.q)).set (j + 4) (.int .i64 v.x)
theorem set5_get {L M : List Value} {k : Nat} {v : Pt} (hL : ∀ j, j < k * 5 → L[j]? = M[j]?) (hl : k * 5 + 5 ≤ L.length)
    (hg : M[k * 5]? = some (.int .i64 v.l) ∧ M[k * 5 + 1]? = some (.int .i64 v.r) ∧ M[k * 5 + 2]? = some (.int .i64 v.p) ∧ M[k * 5 + 3]? = some (.int .i64 v.q) ∧ M[k * 5 + 4]? = some (.int .i64 v.x)) :
    ∀ j, j < (k + 1) * 5 → (set5 L (k * 5) v)[j]? = M[j]? := by
  intro j hj
  obtain ⟨g0, g1, g2, g3, g4⟩ := hg
  simp only [set5, List.getElem?_set, List.length_set]
  rcases Nat.lt_or_ge j (k * 5) with h | h
  · rw [if_neg (by omega), if_neg (by omega), if_neg (by omega), if_neg (by omega), if_neg (by omega)]; exact hL j h
  · obtain ⟨i, rfl⟩ : ∃ i, j = k * 5 + i := ⟨j - k * 5, by omega⟩
    have hi : i < 5 := by omega
    match i, hi with
    | 0, _ => simp [g0]; omega
    | 1, _ => simp [g1]; omega
    | 2, _ => simp [g2]; omega
    | 3, _ => simp [g3]; omega
    | 4, _ => simp [g4]; omega
set_option maxHeartbeats 3200000 in
theorem toPartS_any (A : Option Addr) (n c : Nat) (xs : List Pt) (w : World) (hl : xs.length = n) (hn : n ≤ 1048576) (hr : RdP w A n xs) :
    Calls Try.prog 12 #[.slice A n c] w fun e w' => ∃ v, e = .returned v ∧ OwP w.heap.size w' v xs ∧ Kp w w' := by
  obtain ⟨i0, hi, hz0, hz1, hz2⟩ := info_parts part_info
  have HR := Lib.hid hr
  have HL := Lib.hid hl
  clear hr hl
  go_enter Try.func12, Try.ntmps12
  go_wp2_with (at_make; refine wpList_make_full _ rfl _ _ 25 rfl w.heap.size 40 i0 (.agg #[.int .i64 0, .int .i64 0, .int .i64 0, .int .i64 0, .int .i64 0]) 5 Try.underlying25 hi hz0 hz1 .i64 .i64 _ _ n rfl rfl rfl rfl (by rw [hz2]; omega) (by unfold maxLen; omega) (Nat.le_refl _) ?_; intro w1 hown1 hgrow1)
  have hk1 : Kp w w1 := (Kp.refl w).grown hgrow1 (by simp)
  have HO1 := Lib.hid hown1
  clear hgrow1 hown1
  go_loopw [4] (fun i wr => ∃ k : Nat, k ≤ n ∧ i = .int .i64 k ∧ (∃ L, (∀ j, j < k * 5 → L[j]? = (pC xs)[j]?) ∧ wr.ownsRow w.heap.size 40 5 (.slice (some ⟨w.heap.size, 0, none⟩) n n) n L) ∧ Kp w wr)
    (fun i _ => n - (intOf i).toNat)
  case atStart => exact ⟨0, by omega, rfl, ⟨_, fun j hj => by omega, HO1.out⟩, hk1⟩
  case round =>
    obtain ⟨k, hk, rfl, ⟨L, hL, hown⟩, hkp⟩ := hrel
    by_cases hlt : k < n
    · obtain ⟨b, off, rfl, hb, hc⟩ := (HR.out.kp hkp).cellOf HL.out (by omega)
      obtain ⟨cl, cr, cp, cq, cx⟩ := hc k hlt
      have hLl := hown.1
      have hex : ∀ i, i < 5 → ∃ u, wr.cell? ⟨w.heap.size, k * 5 + i, none⟩ = some u := fun i hi => by
        obtain ⟨u, hu⟩ : ∃ u, L[k * 5 + i]? = some u := ⟨_, List.getElem?_eq_getElem (by omega)⟩
        exact ⟨u, by rw [hown.cellAt _ (by omega), hu]⟩
      obtain ⟨u0, cg0⟩ := hex 0 (by omega)
      obtain ⟨u1, cg1⟩ := hex 1 (by omega)
      obtain ⟨u2, cg2⟩ := hex 2 (by omega)
      obtain ⟨u3, cg3⟩ := hex 3 (by omega)
      obtain ⟨u4, cg4⟩ := hex 4 (by omega)
      rw [Nat.add_zero] at cg0
      have fg0 := hown.frozenAt (k * 5)
      have fg1 := hown.frozenAt (k * 5 + 1)
      have fg2 := hown.frozenAt (k * 5 + 2)
      have fg3 := hown.frozenAt (k * 5 + 3)
      have fg4 := hown.frozenAt (k * 5 + 4)
      have HO := Lib.hid hown
      have HL2 := Lib.hid (set5_get hL (by omega) (pC_get xs k (by rw [HL.out]; exact hlt)))
      obtain ⟨⟨X0, X1, X2, X3, X4⟩, hX⟩ : ∃ X, X = pt xs k := ⟨_, rfl⟩
      rw [← hX] at cl cr cp cq cx HL2
      dsimp only at cl cr cp cq cx
      clear hX hc hL hown hLl hex
      go_wp2_with fail
      refine (toPart_any _ _ _ _ _ _).mono ?_
      rintro e w2 ⟨rfl, hk2⟩
      have hst := (((((owns_kp HO.out hk2).stored (k * 5) (.int .i64 X0)).1.stored (k * 5 + 1) (.int .i64 X1)).1.stored (k * 5 + 2) (.int .i64 X2)).1.stored (k * 5 + 3) (.int .i64 X3)).1.stored (k * 5 + 4) (.int .i64 X4)
      have HS := Lib.hid hst.1
      obtain ⟨cg0, fg0⟩ := hk2.at2 cg0 fg0
      obtain ⟨cg1, fg1⟩ := hk2.at2 cg1 fg1
      obtain ⟨cg2, fg2⟩ := hk2.at2 cg2 fg2
      obtain ⟨cg3, fg3⟩ := hk2.at2 cg3 fg3
      obtain ⟨cg4, fg4⟩ := hk2.at2 cg4 fg4
      clear hst
      go_wp2_with fail
      go_roundw
      case rel => exact ⟨k + 1, by omega, by go_num, ⟨_, HL2.out, HS.out⟩, by (repeat (with_reducible first | exact Kp.refl _ | assumption | refine Kp.drew ?_ | refine Kp.drewN ?_ _ | refine Kp.alloc ?_ _ | refine Kp.setCell ?_ (by first | (simp; done) | (simp; omega) | (dsimp only; omega)) _ | refine Kp.trans ?_ (by assumption)))⟩
      case measure => simp [intOf]; omega
    · obtain rfl : k = n := by omega
      go_wp2
      go_ret
      refine ⟨_, rfl, ?_, hkp⟩
      unfold OwP
      have e : L = pC xs := by
        refine List.ext_getElem? fun j => ?_
        rcases Nat.lt_or_ge j (k * 5) with h | h
        · exact hL j h
        · rw [List.getElem?_eq_none (by rw [hown.1]; exact h), List.getElem?_eq_none (by rw [pC_length, HL.out]; exact h)]
      rw [HL.out, ← e]
      exact hown
set_option maxHeartbeats 1600000 in
theorem eqPartS_same (A A' : Option Addr) (n c c' : Nat) (xs : List Pt) (w : World) (hl : xs.length = n) (hn : n ≤ 1048576) (hr : RdP w A n xs) (hr' : RdP w A' n xs) :
    Calls Try.prog 14 #[.slice A n c, .slice A' n c'] w fun e w' => e = .returned (.bool true) ∧ Kp w w' := by
  have HR := Lib.hid hr
  have HR' := Lib.hid hr'
  have HL := Lib.hid hl
  clear hr hr' hl
  go_enter Try.func14, Try.ntmps14
  go_wp2
  go_loopw [5] (fun i wr => ∃ k : Nat, k ≤ n ∧ i = .int .i64 k ∧ Kp w wr) (fun i _ => n - (intOf i).toNat)
  case atStart => exact ⟨0, by omega, rfl, Kp.refl _⟩
  case round =>
    obtain ⟨k, hk, rfl, hkp⟩ := hrel
    by_cases hlt : k < n
    · obtain ⟨b, off, rfl, hb, hc⟩ := (HR.out.kp hkp).cellOf HL.out (by omega)
      obtain ⟨b', off', rfl, hb', hc'⟩ := (HR'.out.kp hkp).cellOf HL.out (by omega)
      have hC := hc k hlt
      have hD := hc' k hlt
      obtain ⟨⟨X0, X1, X2, X3, X4⟩, hX⟩ : ∃ X, X = pt xs k := ⟨_, rfl⟩
      rw [← hX] at hC hD
      obtain ⟨c0, c1, c2, c3, c4⟩ := hC
      obtain ⟨d0, d1, d2, d3, d4⟩ := hD
      dsimp only at c0 c1 c2 c3 c4 d0 d1 d2 d3 d4
      have i0 : (0 : Int) ≤ (k : Int) := by omega
      have i1 : (k : Int) < (n : Int) := by omega
      clear hX hc hc'
      go_upto_region 6 with fail
      go_region_held3 (fun w' => w'.cell? ⟨b, off + k * 5, none⟩ = some (.int .i64 X0) ∧ w'.cell? ⟨b, off + k * 5 + 1, none⟩ = some (.int .i64 X1) ∧ w'.cell? ⟨b, off + k * 5 + 2, none⟩ = some (.int .i64 X2) ∧ w'.cell? ⟨b, off + k * 5 + 3, none⟩ = some (.int .i64 X3) ∧ w'.cell? ⟨b, off + k * 5 + 4, none⟩ = some (.int .i64 X4) ∧ w'.cell? ⟨b', off' + k * 5, none⟩ = some (.int .i64 X0) ∧ w'.cell? ⟨b', off' + k * 5 + 1, none⟩ = some (.int .i64 X1) ∧ w'.cell? ⟨b', off' + k * 5 + 2, none⟩ = some (.int .i64 X2) ∧ w'.cell? ⟨b', off' + k * 5 + 3, none⟩ = some (.int .i64 X3) ∧ w'.cell? ⟨b', off' + k * 5 + 4, none⟩ = some (.int .i64 X4))
        (((try go_split_ands); (repeat' apply And.intro) <;> (first | with_reducible assumption | (with_reducible apply cell_drew; with_reducible assumption) | (with_reducible refine Kp.drew ?_; with_reducible assumption) | (with_reducible apply hk.at1; with_reducible assumption) | (with_reducible apply hk.at1; with_reducible apply cell_drew; with_reducible assumption) | (refine Kp.trans ?_ hk; with_reducible assumption) | (refine Kp.trans (Kp.drew ?_) hk; with_reducible assumption))))
        (first | (go_at_call 32; refine (eqPart_same _ _ _ _ _ _).mono ?_; rintro e w3 ⟨rfl, hk⟩))
      go_wp2_with fail
      go_roundw
      case rel => exact ⟨k + 1, by omega, by go_num, by (repeat (with_reducible first | exact Kp.refl _ | assumption | refine Kp.drew ?_ | refine Kp.drewN ?_ _ | refine Kp.alloc ?_ _ | refine Kp.setCell ?_ (by first | (simp; done) | (simp; omega) | (dsimp only; omega)) _ | refine Kp.trans ?_ (by assumption)))⟩
      case measure => simp [intOf]; omega
    · obtain rfl : k = n := by omega
      go_wp2
      go_ret
      exact ⟨rfl, hkp⟩
section
variable {H : Type} {enc : TypeId × Value → H} {P : Program} {w : World}
theorem open_partlist {t e : TypeId} {f0 f1 f2 f3 f4 : Field} {r : Reach} {b0 : Nat} {v : Value} {d : DataW H} {p : List MemPlace}
    (ht : P.underlying t = some (.slice e)) (he : P.underlying e = some (.struct #[f0, f1, f2, f3, f4])) (ce : P.cellsOf e = 5)
    (ho : f0.offset = 0 ∧ f1.offset = 1 ∧ f2.offset = 2 ∧ f3.offset = 3 ∧ f4.offset = 4)
    (hc : P.cellsOf f0.type = 1 ∧ P.cellsOf f1.type = 1 ∧ P.cellsOf f2.type = 1 ∧ P.cellsOf f3.type = 1 ∧ P.cellsOf f4.type = 1)
    (h0 : P.underlying f0.type = some (.int .i64)) (h1 : P.underlying f1.type = some (.int .i64)) (h2 : P.underlying f2.type = some (.int .i64)) (h3 : P.underlying f3.type = some (.int .i64)) (h4 : P.underlying f4.type = some (.int .i64))
    (hv : Value.okWide P w r b0 t v) (h : DataW.Trod enc P w 0 (fun _ => true) true t v d p) :
    ∃ (A : Option Addr) (n c : Nat) (xs : List Pt), v = .slice A n c ∧ xs.length = n ∧ n ≤ 9223372036854775807 ∧ RdP w A n xs := by
  obtain ⟨a0, len, cap, rfl⟩ := okWide_slice ht hv
  obtain ⟨fuel, hf⟩ := h
  obtain ⟨o0, o1, o2, o3, o4⟩ := ho
  obtain ⟨c0, c1, c2, c3, c4⟩ := hc
  rcases open_slice ht hf with ⟨hcs, hx⟩ | ⟨a, len', cap', m, n, D, Pl, hcs, hbb, hl, hm, hmm, _, hx⟩
  · simp [Value.cells] at hcs
    obtain ⟨rfl, rfl, rfl⟩ := hcs
    exact ⟨none, 0, 0, [], rfl, rfl, by omega, Reads.none_⟩
  · simp [Value.cells] at hcs
    obtain ⟨rfl, rfl, rfl⟩ := hcs
    simp only [if_true] at hmm
    have hex : ∀ i, ∃ q : Pt, i < len → w.cell? (a.add (i * 5)) = some (.int .i64 q.l) ∧ w.cell? (a.add (i * 5 + 1)) = some (.int .i64 q.r) ∧ w.cell? (a.add (i * 5 + 2)) = some (.int .i64 q.p) ∧ w.cell? (a.add (i * 5 + 3)) = some (.int .i64 q.q) ∧ w.cell? (a.add (i * 5 + 4)) = some (.int .i64 q.x) := by
      intro i
      by_cases hil : i < len
      · obtain ⟨cs', g1, g2⟩ := hx i (by omega)
        rw [ce] at g1
        obtain ⟨_, hlen, hcell⟩ := World.cells?_some g1
        obtain ⟨ys, k, hk, hxy, _, hxl, hfl⟩ := DataW.trod_struct he g2
        match ys, hxl, cs', hlen with
        | [y0, y1, y2, y3, y4], _, [v0, v1, v2, v3, v4], _ =>
          have t0 := hfl 0 f0 rfl
          have t1 := hfl 1 f1 rfl
          have t2 := hfl 2 f2 rfl
          have t3 := hfl 3 f3 rfl
          have t4 := hfl 4 f4 rfl
          simp [o0, c0] at t0
          simp [o1, c1] at t1
          simp [o2, c2] at t2
          simp [o3, c3] at t3
          simp [o4, c4] at t4
          have e0 := hcell 0 (by omega)
          have e1 := hcell 1 (by omega)
          have e2 := hcell 2 (by omega)
          have e3 := hcell 3 (by omega)
          have e4 := hcell 4 (by omega)
          rw [add_add] at e0 e1 e2 e3 e4
          obtain ⟨q0, z0, _, _⟩ := DataW.trod_int h0 t0
          obtain ⟨q1, z1, _, _⟩ := DataW.trod_int h1 t1
          obtain ⟨q2, z2, _, _⟩ := DataW.trod_int h2 t2
          obtain ⟨q3, z3, _, _⟩ := DataW.trod_int h3 t3
          obtain ⟨q4, z4, _, _⟩ := DataW.trod_int h4 t4
          have z0' : v0 = .int .i64 q0 := by simpa using z0
          have z1' : v1 = .int .i64 q1 := by simpa using z1
          have z2' : v2 = .int .i64 q2 := by simpa using z2
          have z3' : v3 = .int .i64 q3 := by simpa using z3
          have z4' : v4 = .int .i64 q4 := by simpa using z4
          subst z0' z1' z2' z3' z4'
          exact ⟨⟨q0, q1, q2, q3, q4⟩, fun _ => ⟨by simpa using e0, by simpa using e1, by simpa using e2, by simpa using e3, by simpa using e4⟩⟩
      · exact ⟨⟨0, 0, 0, 0, 0⟩, fun h => absurd h hil⟩
    obtain ⟨q, hq⟩ := Classical.skolem.1 hex
    have hlen : ((List.range len).map q).length = len := by simp
    refine ⟨some a, len, cap, (List.range len).map q, rfl, hlen, by unfold maxLen at hm; omega, ⟨by rw [pC_length, hlen], fun hn => ⟨a, rfl, ?_, ?_⟩⟩⟩
    · have := lt_of_cell (hq 0 (by omega)).1
      rwa [block_of_add] at this
    · intro j u hu
      have hj : j < len * 5 := by
        rcases Nat.lt_or_ge j (len * 5) with h1 | h1
        · exact h1
        · rw [List.getElem?_eq_none (by rw [pC_length, hlen]; exact h1)] at hu; cases hu
      obtain ⟨k, i, hi, rfl⟩ : ∃ k i, i < 5 ∧ j = k * 5 + i := ⟨j / 5, j % 5, by omega, by omega⟩
      have hkl : k < len := by omega
      have hg := pC_get ((List.range len).map q) k (by rw [hlen]; exact hkl)
      have hqq := hq k hkl
      have ea : pt ((List.range len).map q) k = q k := by
        rw [pt, List.getD_eq_getElem?_getD, List.getElem?_eq_getElem (by rw [hlen]; exact hkl)]; simp
      rw [ea] at hg
      obtain ⟨g0, g1, g2, g3, g4⟩ := hg
      obtain ⟨d0, d1, d2, d3, d4⟩ := hqq
      match i, hi with
      | 0, _ => rw [Nat.add_zero] at hu ⊢; rw [g0] at hu; cases hu; exact d0
      | 1, _ => rw [g1] at hu; cases hu; exact d1
      | 2, _ => rw [g2] at hu; cases hu; exact d2
      | 3, _ => rw [g3] at hu; cases hu; exact d3
      | 4, _ => rw [g4] at hu; cases hu; exact d4
end
end Go.Proofs.Ytajdppfngnpklaa
