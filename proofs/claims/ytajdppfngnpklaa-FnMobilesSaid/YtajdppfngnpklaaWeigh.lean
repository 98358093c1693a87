/- WeightOf, FirstTilted, IsBalanced, CountParts: the plain words, and the contracts. -/
import Derived.Test.YtajdppfngnpklaaMob
set_option linter.unusedVariables false
namespace Go.Proofs.Ytajdppfngnpklaa
open Go.RowKit

theorem mobB_bd {xs : List Pt} (h : mobB xs = true) : 1 ≤ xs.length ∧ xs.length ≤ 15 ∧ ∀ k, k < xs.length → partB xs.length k (pt xs k) = true := by
  simp only [mobB, Bool.and_eq_true, List.all_eq_true, List.mem_range] at h
  have := inB_true.1 h.1.1
  exact ⟨by omega, by omega, h.1.2⟩
theorem part_arm {n k : Nat} {p : Pt} (h : partB n k p = true) (hl : ¬ p.l = -1) : ((k : Int) + 1 ≤ p.l ∧ p.l ≤ (n : Int) - 1) ∧ ((k : Int) + 1 ≤ p.r ∧ p.r ≤ (n : Int) - 1) ∧ (1 ≤ p.p ∧ p.p ≤ 20) ∧ (1 ≤ p.q ∧ p.q ≤ 20) ∧ p.x = 0 := by
  rw [partB, if_neg hl] at h
  simp only [armB, Bool.and_eq_true, beq_iff_eq] at h
  exact ⟨inB_true.1 h.1.1.1.1, inB_true.1 h.1.1.1.2, inB_true.1 h.1.1.2, inB_true.1 h.1.2, h.2⟩
theorem part_leaf {n k : Nat} {p : Pt} (h : partB n k p = true) (hl : p.l = -1) : p.r = -1 ∧ p.p = 0 ∧ p.q = 0 ∧ 1 ≤ p.x ∧ p.x ≤ 1000 := by
  rw [partB, if_pos hl] at h
  simp only [leafB, Bool.and_eq_true, beq_iff_eq] at h
  have := inB_true.1 h.2
  exact ⟨h.1.1.1, h.1.1.2, h.1.2, this⟩
def wtM (xs : List Pt) : Nat → Nat → Int
  | 0, _ => 0
  | f + 1, k => if (pt xs k).l = -1 then (pt xs k).x else wtM xs f (pt xs k).l.toNat + wtM xs f (pt xs k).r.toNat
theorem wtM_bd {xs : List Pt} (h : mobB xs = true) : ∀ f k, k < xs.length → xs.length - k ≤ f → 1 ≤ wtM xs f k ∧ wtM xs f k ≤ 1000 * (2 ^ f : Nat) := by
  obtain ⟨h1, h2, h3⟩ := mobB_bd h
  intro f
  induction f with
  | zero => intro k hk hf; omega
  | succ f ih =>
    intro k hk hf
    rw [wtM]
    have hp : (2 ^ (f + 1) : Nat) = 2 * 2 ^ f := by rw [Nat.pow_succ]; omega
    have hpos : 1 ≤ (2 ^ f : Nat) := Nat.one_le_two_pow
    by_cases hl : (pt xs k).l = -1
    · have := part_leaf (h3 k hk) hl
      rw [if_pos hl]; omega
    · have := part_arm (h3 k hk) hl
      rw [if_neg hl]
      have a := ih (pt xs k).l.toNat (by omega) (by omega)
      have b := ih (pt xs k).r.toNat (by omega) (by omega)
      omega
theorem wtM_bd16 {xs : List Pt} (h : mobB xs = true) {f k : Nat} (hk : k < xs.length) (hf : xs.length - k ≤ f) (h16 : f ≤ 16) : 1 ≤ wtM xs f k ∧ wtM xs f k ≤ 65536000 := by
  have h1 := wtM_bd h f k hk hf
  have h2 : (2 ^ f : Nat) ≤ 2 ^ 16 := Nat.pow_le_pow_right (by omega) h16
  omega
set_option maxRecDepth 20000 in
set_option maxHeartbeats 3200000 in
theorem iWeight_any (n : Nat) (xs : List Pt) (hl : xs.length = n) (hm : mobB xs = true) : ∀ f k, k < n → n - k ≤ f → f ≤ 16 → ∀ (A : Option Addr) (c : Nat) (w : World), RdP w A n xs →
    Calls Try.prog 34 #[.slice A n c, .int .i64 (k : Int)] w fun e w' => e = .returned (.int .i64 (wtM xs f k)) ∧ Kp w w' := by
  have HL := Lib.hid hl
  have HM := Lib.hid hm
  clear hl hm
  intro f
  induction f with
  | zero => intro k hk hf; omega
  | succ f ih =>
    intro k hk hf h16 A c w hr
    have hn15 : n ≤ 15 := by have := (mobB_bd HM.out).2.1; rw [HL.out] at this; exact this
    have hpb := (mobB_bd HM.out).2.2 k (by rw [HL.out]; exact hk)
    rw [HL.out] at hpb
    obtain ⟨b, off, rfl, hb, hc⟩ := RdP.cellOf hr HL.out (by omega)
    have hC := hc k hk
    have HR := Lib.hid hr
    have IH := Lib.hid ih
    have hw : wtM xs (f + 1) k = if (pt xs k).l = -1 then (pt xs k).x else wtM xs f (pt xs k).l.toNat + wtM xs f (pt xs k).r.toNat := rfl
    rw [hw]
    obtain ⟨⟨X0, X1, X2, X3, X4⟩, hX⟩ : ∃ X, X = pt xs k := ⟨_, rfl⟩
    rw [← hX] at hC hpb ⊢
    obtain ⟨c0, c1, c2, c3, c4⟩ := hC
    dsimp only at c0 c1 c2 c3 c4 ⊢
    have p0 : (0 : Int) ≤ (k : Int) := by omega
    have p1 : (k : Int) < (n : Int) := by omega
    by_cases hleaf : X0 = -1
    · subst hleaf
      rw [if_pos rfl]
      clear hX hc hr ih hw hpb
      go_enter Try.func34, Try.ntmps34
      go_wp2_with fail
      go_ret
      exact ⟨rfl, by (repeat (with_reducible first | exact Kp.refl _ | assumption | refine Kp.drew ?_ | refine Kp.drewN ?_ _ | refine Kp.alloc ?_ _ | refine Kp.setCell ?_ (by first | (simp; done) | (simp; omega) | (dsimp only; omega)) _ | refine Kp.trans ?_ (by assumption)))⟩
    · have ha := part_arm hpb hleaf
      dsimp only at ha
      rw [if_neg hleaf]
      obtain ⟨l, rfl⟩ : ∃ l : Nat, X0 = (l : Int) := ⟨X0.toNat, by omega⟩
      obtain ⟨r, rfl⟩ : ∃ r : Nat, X1 = (r : Int) := ⟨X1.toNat, by omega⟩
      rw [Int.toNat_natCast, Int.toNat_natCast]
      have bl := wtM_bd16 HM.out (f := f) (k := l) (by rw [HL.out]; omega) (by rw [HL.out]; omega) (by omega)
      have br := wtM_bd16 HM.out (f := f) (k := r) (by rw [HL.out]; omega) (by rw [HL.out]; omega) (by omega)
      have g1 : n - l ≤ f ∧ l < n := by omega
      have g2 : n - r ≤ f ∧ r < n := by omega
      obtain ⟨U, eU⟩ : ∃ U, U = wtM xs f l := ⟨_, rfl⟩
      obtain ⟨V, eV⟩ : ∃ V, V = wtM xs f r := ⟨_, rfl⟩
      rw [← eU] at bl ⊢
      rw [← eV] at br ⊢
      have EU := Lib.hid eU
      have EV := Lib.hid eV
      have hz0 : b < w.heap.size := hb
      clear hX hc hr ih hw hpb eU eV ha hf
      go_enter Try.func34, Try.ntmps34
      go_upto_region 4 with fail
      have hA : Kp w (w.alloc (.cells #[.int .i64 (l : Int), .int .i64 (r : Int), .int .i64 X2, .int .i64 X3, .int .i64 X4] 40)) := by (repeat (with_reducible first | exact Kp.refl _ | assumption | refine Kp.drew ?_ | refine Kp.drewN ?_ _ | refine Kp.alloc ?_ _ | refine Kp.setCell ?_ (by first | (simp; done) | (simp; omega) | (dsimp only; omega)) _ | refine Kp.trans ?_ (by assumption)))
      have f0 : (w.alloc (.cells #[.int .i64 (l : Int), .int .i64 (r : Int), .int .i64 X2, .int .i64 X3, .int .i64 X4] 40)).cell? ⟨w.heap.size, 0, none⟩ = some (.int .i64 (l : Int)) := by simp [go_sem]
      have f1 : (w.alloc (.cells #[.int .i64 (l : Int), .int .i64 (r : Int), .int .i64 X2, .int .i64 X3, .int .i64 X4] 40)).cell? ⟨w.heap.size, 1, none⟩ = some (.int .i64 (r : Int)) := by simp [go_sem]
      generalize w.alloc (.cells #[.int .i64 (l : Int), .int .i64 (r : Int), .int .i64 X2, .int .i64 X3, .int .i64 X4] 40) = W at *
      have q1 : IntKind.i64.wrap (U + V) = U + V := IntWalk.i64_in _ (by omega)
      clear c0 c1 c2 c3 c4
      go_region_held3 (fun w' => w'.cell? ⟨w.heap.size, 0, none⟩ = some (.int .i64 (l : Int)) ∧ w'.cell? ⟨w.heap.size, 1, none⟩ = some (.int .i64 (r : Int)) ∧ Kp w w')
        (((try go_split_ands); (repeat' apply And.intro) <;> (first | with_reducible assumption | (with_reducible apply cell_drew; with_reducible assumption) | (with_reducible refine Kp.drew ?_; with_reducible assumption) | (with_reducible apply hk.at1; with_reducible assumption) | (with_reducible apply hk.at1; with_reducible apply cell_drew; with_reducible assumption) | (refine Kp.trans ?_ hk; with_reducible assumption) | (refine Kp.trans (Kp.drew ?_) hk; with_reducible assumption))))
        (first | (go_at_call 34; refine (IH.out _ (by omega) (by omega) (by omega) _ _ _ (HR.out.kp (by (try go_split_ands); assumption))).mono ?_; (first | rw [← EU.out] | rw [← EV.out]); rintro e w3 ⟨rfl, hk⟩))
      clear q1
      go_wp2_with fail
      go_ret
      exact ⟨rfl, by (try go_split_ands); assumption⟩
set_option maxRecDepth 20000 in
set_option maxHeartbeats 3200000 in
theorem sWeight_any (n : Nat) (xs : List Pt) (hl : xs.length = n) (hm : mobB xs = true) : ∀ f k, k < n → n - k ≤ f → f ≤ 16 → ∀ (A : Option Addr) (c : Nat) (w : World), RdP w A n xs →
    Calls Try.prog 33 #[.slice A n c, .int .i64 (k : Int)] w fun e w' => e = .returned (.int .i64 (wtM xs f k)) ∧ Kp w w' := by
  have HL := Lib.hid hl
  have HM := Lib.hid hm
  clear hl hm
  intro f
  induction f with
  | zero => intro k hk hf; omega
  | succ f ih =>
    intro k hk hf h16 A c w hr
    have hn15 : n ≤ 15 := by have := (mobB_bd HM.out).2.1; rw [HL.out] at this; exact this
    have hpb := (mobB_bd HM.out).2.2 k (by rw [HL.out]; exact hk)
    rw [HL.out] at hpb
    obtain ⟨b, off, rfl, hb, hc⟩ := RdP.cellOf hr HL.out (by omega)
    have hC := hc k hk
    have HR := Lib.hid hr
    have IH := Lib.hid ih
    have hw : wtM xs (f + 1) k = if (pt xs k).l = -1 then (pt xs k).x else wtM xs f (pt xs k).l.toNat + wtM xs f (pt xs k).r.toNat := rfl
    rw [hw]
    obtain ⟨⟨X0, X1, X2, X3, X4⟩, hX⟩ : ∃ X, X = pt xs k := ⟨_, rfl⟩
    rw [← hX] at hC hpb ⊢
    obtain ⟨c0, c1, c2, c3, c4⟩ := hC
    dsimp only at c0 c1 c2 c3 c4 ⊢
    have p0 : (0 : Int) ≤ (k : Int) := by omega
    have p1 : (k : Int) < (n : Int) := by omega
    by_cases hleaf : X0 = -1
    · subst hleaf
      rw [if_pos rfl]
      clear hX hc hr ih hw hpb
      go_enter Try.func33, Try.ntmps33
      go_wp2_with fail
      go_ret
      exact ⟨rfl, by (repeat (with_reducible first | exact Kp.refl _ | assumption | refine Kp.drew ?_ | refine Kp.drewN ?_ _ | refine Kp.alloc ?_ _ | refine Kp.setCell ?_ (by first | (simp; done) | (simp; omega) | (dsimp only; omega)) _ | refine Kp.trans ?_ (by assumption)))⟩
    · have ha := part_arm hpb hleaf
      dsimp only at ha
      rw [if_neg hleaf]
      obtain ⟨l, rfl⟩ : ∃ l : Nat, X0 = (l : Int) := ⟨X0.toNat, by omega⟩
      obtain ⟨r, rfl⟩ : ∃ r : Nat, X1 = (r : Int) := ⟨X1.toNat, by omega⟩
      rw [Int.toNat_natCast, Int.toNat_natCast]
      have bl := wtM_bd16 HM.out (f := f) (k := l) (by rw [HL.out]; omega) (by rw [HL.out]; omega) (by omega)
      have br := wtM_bd16 HM.out (f := f) (k := r) (by rw [HL.out]; omega) (by rw [HL.out]; omega) (by omega)
      have g1 : n - l ≤ f ∧ l < n := by omega
      have g2 : n - r ≤ f ∧ r < n := by omega
      obtain ⟨U, eU⟩ : ∃ U, U = wtM xs f l := ⟨_, rfl⟩
      obtain ⟨V, eV⟩ : ∃ V, V = wtM xs f r := ⟨_, rfl⟩
      rw [← eU] at bl ⊢
      rw [← eV] at br ⊢
      have EU := Lib.hid eU
      have EV := Lib.hid eV
      have hz0 : b < w.heap.size := hb
      clear hX hc hr ih hw hpb eU eV ha hf
      go_enter Try.func33, Try.ntmps33
      go_upto_region 4 with fail
      have hA : Kp w (w.alloc (.cells #[.int .i64 (l : Int), .int .i64 (r : Int), .int .i64 X2, .int .i64 X3, .int .i64 X4] 40)) := by (repeat (with_reducible first | exact Kp.refl _ | assumption | refine Kp.drew ?_ | refine Kp.drewN ?_ _ | refine Kp.alloc ?_ _ | refine Kp.setCell ?_ (by first | (simp; done) | (simp; omega) | (dsimp only; omega)) _ | refine Kp.trans ?_ (by assumption)))
      have f0 : (w.alloc (.cells #[.int .i64 (l : Int), .int .i64 (r : Int), .int .i64 X2, .int .i64 X3, .int .i64 X4] 40)).cell? ⟨w.heap.size, 0, none⟩ = some (.int .i64 (l : Int)) := by simp [go_sem]
      have f1 : (w.alloc (.cells #[.int .i64 (l : Int), .int .i64 (r : Int), .int .i64 X2, .int .i64 X3, .int .i64 X4] 40)).cell? ⟨w.heap.size, 1, none⟩ = some (.int .i64 (r : Int)) := by simp [go_sem]
      generalize w.alloc (.cells #[.int .i64 (l : Int), .int .i64 (r : Int), .int .i64 X2, .int .i64 X3, .int .i64 X4] 40) = W at *
      have q1 : IntKind.i64.wrap (U + V) = U + V := IntWalk.i64_in _ (by omega)
      clear c0 c1 c2 c3 c4
      go_region_held3 (fun w' => w'.cell? ⟨w.heap.size, 0, none⟩ = some (.int .i64 (l : Int)) ∧ w'.cell? ⟨w.heap.size, 1, none⟩ = some (.int .i64 (r : Int)) ∧ Kp w w')
        (((try go_split_ands); (repeat' apply And.intro) <;> (first | with_reducible assumption | (with_reducible apply cell_drew; with_reducible assumption) | (with_reducible refine Kp.drew ?_; with_reducible assumption) | (with_reducible apply hk.at1; with_reducible assumption) | (with_reducible apply hk.at1; with_reducible apply cell_drew; with_reducible assumption) | (refine Kp.trans ?_ hk; with_reducible assumption) | (refine Kp.trans (Kp.drew ?_) hk; with_reducible assumption))))
        (first | (go_at_call 33; refine (IH.out _ (by omega) (by omega) (by omega) _ _ _ (HR.out.kp (by (try go_split_ands); assumption))).mono ?_; (first | rw [← EU.out] | rw [← EV.out]); rintro e w3 ⟨rfl, hk⟩))
      clear q1
      go_wp2_with fail
      go_ret
      exact ⟨rfl, by (try go_split_ands); assumption⟩
end Go.Proofs.Ytajdppfngnpklaa
