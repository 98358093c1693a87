/- LeastWeights: the contracts of the scalings. -/
import Derived.Test.YtajdppfngnpklaaLwS
import Derived.RegionTactic
import Derived.Deep.RegionHeld3
set_option linter.unusedVariables false
namespace Go.Proofs.Ytajdppfngnpklaa
open Go.RowKit
set_option maxRecDepth 20000 in
set_option maxHeartbeats 3200000 in
theorem scale_any (B g cap n : Nat) (hgB : B ≤ g) : ∀ f k, k < n → n - k ≤ f → f ≤ 16 → ∀ (ys : List Pt) (b : Int) (w : World), ys.length = n → mobB ys = true → 1 ≤ b ∧ b ≤ 1310720000 → OwP B w (.slice (some ⟨g, 0, none⟩) n cap) ys →
    Calls Try.prog 42 #[.slice (some ⟨g, 0, none⟩) n cap, .int .i64 (k : Int), .int .i64 b] w fun e w' => e = .returned (.bool (scO f ys k b).isSome) ∧ (∀ zs, scO f ys k b = some zs → OwP B w' (.slice (some ⟨g, 0, none⟩) n cap) zs) ∧ w.grownBy w' (some g) := by
  intro f
  induction f with
  | zero => intro k hk hf; omega
  | succ f ih =>
    intro k hk hf h16 ys b w hlen hm hb ho
    have IH := Lib.hid ih
    have HM := Lib.hid hm
    have HO := Lib.hid ho
    have HLE := Lib.hid hlen
    have hgw : g < w.heap.size := (OwP.lt ho g rfl).2
    have hkl : k < ys.length := by omega
    have h15 := (mobB_tr hm).n15
    have hC := OwP.at5 ho hlen hk
    have hsc : scO (f + 1) ys k b = if (pt ys k).l = -1 then (if (pt ys k).x * b ≤ 1000 then some (sx ys k ((pt ys k).x * b)) else none) else match scO f ys (kL ys k) b with | none => none | some zs => scO f zs (kR ys k) b := rfl
    have p0 : (0 : Int) ≤ (k : Int) := by omega
    have p1 : (k : Int) < (n : Int) := by omega
    by_cases hl : (pt ys k).l = -1
    · have hx := mob_x hm hkl hl
      rw [if_pos hl] at hsc
      obtain ⟨X, hX⟩ : ∃ X, X = (pt ys k).x := ⟨_, rfl⟩
      obtain ⟨c0, c1, c2, c3, c4⟩ := hC
      rw [hl] at c0
      rw [← hX] at hsc hx c4
      obtain ⟨Y, hY⟩ : ∃ Y, Y = X * b := ⟨_, rfl⟩
      have h1 := Int.mul_le_mul hx.2 hb.2 (by omega) (by omega)
      have h2 := Int.mul_le_mul hx.1 hb.1 (by omega) (by omega)
      rw [← hY] at hsc h1 h2
      obtain ⟨fz, hs, hgr⟩ := x_store Y hlen hk ho
      have HS := Lib.hid hs
      have HG := Lib.hid hgr
      have gY := hY.symm
      have wY : IntKind.i64.wrap Y = Y := IntWalk.i64_in _ (by omega)
      have HSC := Lib.hid hsc
      clear ih hm ho hlen hl hX hs hgr hsc hY
      go_enter Try.func42, Try.ntmps42
      go_wp2_with fail
      go_ret
      rw [HSC.out]
      by_cases h : Y ≤ 1000
      · rw [if_pos h]
        exact ⟨by simp [h], fun zs e => by cases e; exact HS.out, HG.out⟩
      · rw [if_neg h]
        exact ⟨by simp [h], fun zs e => (by cases e), HG.out⟩
    · have hc := (mobB_tr hm).kids hkl hl
      have ha := (mobB_tr hm).arm k hkl hl
      rw [if_neg hl] at hsc
      have hll : (pt ys k).l = ((kL ys k : Nat) : Int) := by unfold kL; omega
      have hrr : (pt ys k).r = ((kR ys k : Nat) : Int) := by unfold kR; omega
      obtain ⟨c0, c1, c2, c3, c4⟩ := hC
      rw [hll] at c0
      rw [hrr] at c1
      obtain ⟨l, hL⟩ : ∃ l, l = kL ys k := ⟨_, rfl⟩
      obtain ⟨r, hR⟩ : ∃ r, r = kR ys k := ⟨_, rfl⟩
      rw [← hL] at c0 hsc hc
      rw [← hR] at c1 hsc hc
      rw [hlen] at hc
      have HRE := Lib.hid hR
      have HLL := Lib.hid hl
      have HRR := Lib.hid hrr
      have HSC := Lib.hid hsc
      have lne : ¬ ((l : Int) = -1) := by omega
      clear ih hm ho hlen hl hsc hll hrr hL hR c2 c3 c4 ha
      go_enter Try.func42, Try.ntmps42
      go_wp2_with fail
      refine (IH.out l (by omega) (by omega) (by omega) ys b _ HLE.out HM.out hb HO.out).mono ?_
      cases e1 : scO f ys l b with
      | none =>
        rintro e w1 ⟨rfl, _, hg1⟩
        rw [e1] at HSC
        have HG := Lib.hid hg1
        clear hg1
        go_wp2_with fail
        go_ret
        rw [HSC.out]
        exact ⟨rfl, fun zs e => (by cases e), HG.out⟩
      | some zs =>
        rintro e w1 ⟨rfl, ho1, hg1⟩
        rw [e1] at HSC
        have hmz := scO_mob HM.out hb.1 (by rw [HLE.out]; omega) (by rw [HLE.out]; omega) e1
        have hzl : zs.length = n := hmz.2.len.trans HLE.out
        have HO1 := Lib.hid (ho1 zs rfl)
        have hC1 := OwP.at5 HO1.out hzl hk
        obtain ⟨_, d1, _, _, _⟩ := hC1
        rw [hmz.2.r k, HRR.out, ← HRE.out] at d1
        have HG := Lib.hid hg1
        have hgw1 : g < w1.heap.size := Nat.lt_of_lt_of_le hgw hg1.size
        have HMZ := Lib.hid hmz.1
        have HZL := Lib.hid hzl
        clear hg1 ho1 c0 c1 hmz hzl
        go_wp2_with fail
        refine (IH.out r (by omega) (by omega) (by omega) zs b _ HZL.out HMZ.out hb HO1.out).mono ?_
        rintro e w2 ⟨rfl, ho2, hg2⟩
        have HO2 := Lib.hid ho2
        have HG2 := Lib.hid (HG.out.trans hg2)
        clear ho2 hg2
        go_wp2_with fail
        go_ret
        rw [HSC.out]
        exact ⟨rfl, HO2.out, HG2.out⟩
end Go.Proofs.Ytajdppfngnpklaa
