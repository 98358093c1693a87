/- LeastWeights: what is left in order on the way; the contracts of the scalings. -/
import Derived.Test.YtajdppfngnpklaaLwR
set_option linter.unusedVariables false
namespace Go.Proofs.Ytajdppfngnpklaa
open Go.RowKit
theorem cnt_put (xs : List Pt) (u : Nat → Int) (n : Nat) : ∀ k, cntL (put xs u) n k = cntL xs n k := by
  intro k
  induction k with
  | zero => rfl
  | succ k ih => rw [cntL, cntL, put_l, put_r, ih]
theorem mob_put {xs : List Pt} (h : mobB xs = true) {u : Nat → Int} (hu : ∀ j, j < xs.length → (pt xs j).l = -1 → 1 ≤ u j ∧ u j ≤ 1000) : mobB (put xs u) = true := by
  have h3 := (mobB_bd h).2.2
  simp only [mobB, Bool.and_eq_true, List.all_eq_true, List.mem_range, put_length, cnt_put] at h ⊢
  refine ⟨⟨h.1.1, fun k hk => ?_⟩, h.2⟩
  have := h3 k hk
  rw [pt_put]
  by_cases hl : (pt xs k).l = -1
  · rw [if_pos hl]
    have hb := hu k hk hl
    rw [partB, if_pos hl] at this
    rw [partB, if_pos hl]
    simp only [leafB, Bool.and_eq_true] at this ⊢
    exact ⟨this.1, inB_true.2 hb⟩
  · rw [if_neg hl]; exact this
theorem mob_x {xs : List Pt} (h : mobB xs = true) {j : Nat} (hj : j < xs.length) (hl : (pt xs j).l = -1) : 1 ≤ (pt xs j).x ∧ (pt xs j).x ≤ 1000 := (part_leaf ((mobB_bd h).2.2 j hj) hl).2.2.2
/-- The same shape: another list with the same beams. -/
def Like (xs ys : List Pt) : Prop := ∃ u, ys = put xs u
theorem Like.len {xs ys : List Pt} (h : Like xs ys) : ys.length = xs.length := by obtain ⟨u, rfl⟩ := h; exact put_length _ _
theorem Like.l {xs ys : List Pt} (h : Like xs ys) (k : Nat) : (pt ys k).l = (pt xs k).l := by obtain ⟨u, rfl⟩ := h; exact put_l _ _ _
theorem Like.r {xs ys : List Pt} (h : Like xs ys) (k : Nat) : (pt ys k).r = (pt xs k).r := by obtain ⟨u, rfl⟩ := h; exact put_r _ _ _
theorem Like.kL {xs ys : List Pt} (h : Like xs ys) (k : Nat) : kL ys k = kL xs k := by obtain ⟨u, rfl⟩ := h; exact put_kL _ _ _
theorem Like.kR {xs ys : List Pt} (h : Like xs ys) (k : Nat) : kR ys k = kR xs k := by obtain ⟨u, rfl⟩ := h; exact put_kR _ _ _
theorem put_put (xs : List Pt) (u v : Nat → Int) : put (put xs u) v = put xs v := by
  refine ext_pt (by rw [put_length, put_length, put_length]) fun k hk => ?_
  rw [pt_put, put_l, pt_put, pt_put]
  by_cases hl : (pt xs k).l = -1
  · rw [if_pos hl, if_pos hl, if_pos hl]
  · rw [if_neg hl, if_neg hl, if_neg hl]
theorem Like.trans {xs ys zs : List Pt} (h : Like xs ys) (h' : Like ys zs) : Like xs zs := by
  obtain ⟨u, rfl⟩ := h
  obtain ⟨v, rfl⟩ := h'
  exact ⟨v, put_put _ _ _⟩
theorem Like.refl (xs : List Pt) : Like xs xs := ⟨_, (put_self xs).symm⟩
theorem scO_mob {xs : List Pt} (h : mobB xs = true) {b : Int} (hb : 1 ≤ b) {f k : Nat} (hk : k < xs.length) (hf : xs.length - k ≤ f) {zs : List Pt} (e : scO f xs k b = some zs) : mobB zs = true ∧ Like xs zs := by
  have ht := mobB_tr h
  have a := scO_put ht b (by omega) f k hk hf (fun j => (pt xs j).x)
  rw [put_self, e] at a
  split at a
  · rename_i hm
    cases a
    refine ⟨mob_put h fun j hj hl => ?_, ⟨_, rfl⟩⟩
    have hx := mob_x h hj hl
    unfold scW
    split
    · rename_i hs
      have m1 := le_moT ht (u := fun j => (pt xs j).x) k hk j hl hs
      have h1 := Int.mul_le_mul_of_nonneg_right m1 (show 0 ≤ b by omega)
      have h2 := Int.mul_le_mul hx.1 hb (by omega) (by omega)
      show 1 ≤ (pt xs j).x * b ∧ (pt xs j).x * b ≤ 1000
      omega
    · exact hx
  · cases a
theorem leO_mob {xs : List Pt} (h : mobB xs = true) {f k : Nat} (hk : k < xs.length) (hf : xs.length - k ≤ f) {zs : List Pt} (e : leO f xs k = some zs) : mobB zs = true ∧ Like xs zs := by
  have ht := mobB_tr h
  have a := leO_put ht f k hk hf (fun j => (pt xs j).x)
  rw [put_self, e] at a
  cases e1 : tT xs k with
  | none => rw [e1] at a; cases a
  | some v =>
    rw [e1] at a
    cases a
    refine ⟨mob_put h fun j hj hl => ?_, ⟨_, rfl⟩⟩
    split
    · rename_i hs; exact tT_bd ht k hk v e1 j hj hl hs
    · exact mob_x h hj hl
/-- The quotients at a beam. -/
theorem fAB_bd {xs zs : List Pt} (hm : mobB zs = true) (hs : Like xs zs) {k : Nat} (hx : mobB xs = true) (hk : k < xs.length) (hl : ¬ (pt xs k).l = -1) :
    (1 ≤ fA xs zs k ∧ fA xs zs k ≤ 1310720000) ∧ (1 ≤ fB xs zs k ∧ fB xs zs k ≤ 1310720000) := by
  have hc := (mobB_tr hx).kids hk hl
  have ha := (mobB_tr hx).arm k hk hl
  have h15 := (mobB_tr hx).n15
  have hlen := hs.len
  have b1 := wtM_bd16 hm (f := 16) (k := kL xs k) (by omega) (by omega) (by omega)
  have b2 := wtM_bd16 hm (f := 16) (k := kR xs k) (by omega) (by omega) (by omega)
  unfold fA fB
  have h1 := Int.mul_le_mul b1.1 ha.2.2.1.1 (by omega) (by omega)
  have h2 := Int.mul_le_mul b1.2 ha.2.2.1.2 (by omega) (by omega)
  have h3 := Int.mul_le_mul b2.1 ha.2.2.2.1 (by omega) (by omega)
  have h4 := Int.mul_le_mul b2.2 ha.2.2.2.2 (by omega) (by omega)
  omega
theorem quot_bd {a b : Int} (ha : 1 ≤ a ∧ a ≤ 1310720000) : 1 ≤ a / (Int.gcd a b : Int) ∧ a / (Int.gcd a b : Int) ≤ 1310720000 := by
  have hg : 0 < Int.gcd a b := Int.gcd_pos_of_ne_zero_left b (by omega)
  have := Int.ediv_le_self (Int.gcd a b : Int) (show 0 ≤ a by omega)
  exact ⟨quot_pos ha.1, by omega⟩
/-! ### Cells -/
theorem OwP.at5 {B : Nat} {w : World} {g n cap : Nat} {L : List Pt} {k : Nat} (h : OwP B w (.slice (some ⟨g, 0, none⟩) n cap) L) (hl : L.length = n) (hk : k < n) : C5 w g (k * 5) (pt L k) := by
  unfold OwP at h
  rw [hl] at h
  obtain ⟨a, b, c, d, e⟩ := pC_get L k (by omega)
  have hlen : (pC L).length = n * 5 := by rw [pC_length, hl]
  refine ⟨?_, ?_, ?_, ?_, ?_⟩
  · rw [World.ownsRow.cellAt h _ (by omega)]; exact a
  · rw [World.ownsRow.cellAt h _ (by omega)]; exact b
  · rw [World.ownsRow.cellAt h _ (by omega)]; exact c
  · rw [World.ownsRow.cellAt h _ (by omega)]; exact d
  · rw [World.ownsRow.cellAt h _ (by omega)]; exact e
theorem pC_setx (xs : List Pt) : ∀ k, k < xs.length → ∀ c : Int, (pC xs).set (k * 5 + 4) (.int .i64 c) = pC (sx xs k c) := by
  induction xs with
  | nil => intro k hk; simp at hk
  | cons p l ih =>
    intro k hk c
    cases k with
    | zero => rfl
    | succ k =>
      have := ih k (by simpa using hk) c
      rw [show (k + 1) * 5 + 4 = k * 5 + 4 + 1 + 1 + 1 + 1 + 1 by omega]
      simp only [sx, pC, List.set_cons_succ, pt, List.getD_cons_succ] at this ⊢
      rw [this]
theorem x_store {B : Nat} {w : World} {g n cap : Nat} {L : List Pt} {k : Nat} (c : Int) (hl : L.length = n) (hk : k < n) (h : OwP B w (.slice (some ⟨g, 0, none⟩) n cap) L) :
    w.frozen? ⟨g, k * 5 + 4, none⟩ = false ∧ OwP B (w.setCell ⟨g, k * 5 + 4, none⟩ (.int .i64 c)) (.slice (some ⟨g, 0, none⟩) n cap) (sx L k c) ∧ w.grownBy (w.setCell ⟨g, k * 5 + 4, none⟩ (.int .i64 c)) (some g) := by
  unfold OwP at h ⊢
  rw [hl] at h
  rw [sx, List.length_set, hl]
  have h1 := World.ownsRow.stored h (k * 5 + 4) (.int .i64 c)
  rw [pC_setx L k (by omega) c] at h1
  exact ⟨World.ownsRow.frozenAt h _, h1.1, h1.2⟩
theorem gb_refl (w : World) (r : Option Nat) : w.grownBy w r := ⟨rfl, rfl, rfl, Nat.le_refl _, fun _ _ _ => rfl⟩
theorem OwP.grown {B : Nat} {w w' : World} {g n cap : Nat} {L : List Pt} (h : OwP B w (.slice (some ⟨g, 0, none⟩) n cap) L) (hk : Kp w w') : OwP B w' (.slice (some ⟨g, 0, none⟩) n cap) L := h.kp hk
end Go.Proofs.Ytajdppfngnpklaa
