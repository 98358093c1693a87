/- DrawSystem: what is drawn is a system of coins. UNDER WAY. -/
import Derived.Test.YtjioijpanohgoaaDraw
import Derived.Test.YtjioijpanohgoaaApp
import Derived.Test.YtjioijpanohgoaaFew
import Derived.Deep.RegionHeld3
set_option linter.unusedVariables false
namespace Go.Proofs.Ytjioijpanohgoaa
open Go.RowKit

theorem grown_cell {w W : World} {g : Nat} {p : Addr} {v : Value} (h : w.grownBy W (some g)) (hne : p.block ≠ g) (hc : w.cell? p = some v) : W.cell? p = some v :=
  (World.cell?_of_block (h.block p.block (cell_lt hc) (fun e => hne (by injection e)))).trans hc
theorem sys_push {L : List Int} {x : Int} (h : sysB L = true) (h0 : L.getD (L.length - 1) 0 < x) (h1 : x ≤ 100) (h6 : L.length < 6) : sysB (L ++ [x]) = true := by
  obtain ⟨ha, hs, hl, h2⟩ := sysB_bd h
  have hg : ∀ j, j < L.length → (L ++ [x]).getD j 0 = L.getD j 0 := fun j hj => by
    rw [List.getD_eq_getElem?_getD, List.getElem?_append_left hj, ← List.getD_eq_getElem?_getD]
  have hx : (L ++ [x]).getD L.length 0 = x := by
    rw [List.getD_eq_getElem?_getD, List.getElem?_append_right (Nat.le_refl _), Nat.sub_self]; rfl
  have hlen : (L ++ [x]).length = L.length + 1 := by simp
  have hlast := allB_iff.1 ha (L.length - 1) (by omega)
  simp only [sysB, Bool.and_eq_true, beq_iff_eq]
  refine ⟨⟨⟨allB_iff.2 fun j hj => ?_, ascB_iff.2 fun j hj => ?_⟩, inB_true.2 (by rw [hlen]; omega)⟩, by rw [hg 0 (by omega)]; exact h2⟩
  · rw [hlen] at hj
    rcases Nat.lt_or_ge j L.length with h3 | h3
    · rw [hg j h3]; exact allB_iff.1 ha j h3
    · obtain rfl : j = L.length := by omega
      rw [hx]; omega
  · rw [hlen] at hj
    rcases Nat.lt_or_ge (j + 1) L.length with h3 | h3
    · rw [hg j (by omega), hg _ h3]; exact ascB_iff.1 hs j h3
    · have e : j + 1 = L.length := by omega
      rw [hg j (by omega), e, hx, show j = L.length - 1 by omega]; exact h0
theorem Cur.carry {w W : World} {g : Nat} {A : Option Addr} {n c : Nat} {xs : List Int} (h : Cur w g A n c xs) {row : Option Nat} (hg : w.grownBy W row) (hr : ∀ k, row = some k → g < k) : Cur W g A n c xs := by
  obtain ⟨⟨i, H, c0, ⟨c1, f1⟩, ⟨c2, f2⟩, hi⟩, hl, hn, hrd, hx, hz⟩ := h
  have hb : W.heap[g]? = w.heap[g]? := hg.block g hz (fun e => absurd (hr g e.symm) (Nat.lt_irrefl _))
  have hcell : ∀ o, W.cell? ⟨g, o, none⟩ = w.cell? ⟨g, o, none⟩ := fun o => World.cell?_of_block hb
  have hfr : ∀ o, W.frozen? ⟨g, o, none⟩ = w.frozen? ⟨g, o, none⟩ := fun o => by simp only [World.frozen?, hb]
  refine ⟨⟨i, H, (hcell 0).trans c0, ⟨(hcell 1).trans c1, (hfr 1).trans f1⟩, ⟨(hcell 2).trans c2, (hfr 2).trans f2⟩, hi⟩, hl, hn, ?_, hx, Nat.lt_of_lt_of_le hz hg.size⟩
  exact hrd.grown hg (Nat.le_of_lt hz) (fun k e => Nat.le_of_lt (hr k e))
theorem grown_over {w W V : World} {g : Nat} {row : Option Nat} (h : w.grownBy W (some g)) (h' : W.grownBy V row) (hr : ∀ k, row = some k → w.heap.size ≤ k) : w.grownBy V (some g) :=
  ⟨h'.os.trans h.os, h'.tape.trans h.tape, h'.output.trans h.output, Nat.le_trans h.size h'.size, fun k hk hne => (h'.block k (Nat.lt_of_lt_of_le hk h.size) (fun e => by have := hr k e.symm; omega)).trans (h.block k hk hne)⟩
theorem grown_alloc (w : World) (o : Obj) : w.grownBy (w.alloc o) none := ⟨rfl, rfl, rfl, by simp, fun k hk _ => Below.heap_alloc w _ k hk⟩
theorem sys_one : sysB [1] = true := by decide
set_option maxHeartbeats 3200000 in
theorem l08Coins_any (g : Nat) (A : Option Addr) (n c : Nat) (xs : List Int) (w : World) (hc : Cur w g A n c xs) :
    Calls Try.prog 33 #[.pointer (some ⟨g, 0, none⟩)] w fun e w' => ∃ v L, e = .returned v ∧ sysB L = true ∧ OwI w.heap.size w' v L ∧ w.grownBy w' (some g) := by
  have HC := Lib.hid hc
  have hgz : g < w.heap.size := hc.2.2.2.2.2
  clear hc
  obtain ⟨i0, hi0, hz0, hz1, hz2⟩ := info_parts int_info
  go_enter Try.func33, Try.ntmps33
  go_wp2_with fail
  have ga : w.grownBy (w.alloc (.cells #[.int .i64 1] 3)) (some g) := ⟨rfl, rfl, rfl, by simp, fun k hk _ => Below.heap_alloc w _ k hk⟩
  have ho1 : OwI w.heap.size (w.alloc (.cells #[.int .i64 1] 3)) (.slice (some ⟨w.heap.size, 0, none⟩) 1 1) [1] :=
    World.ownsRow_lit w #[.int .i64 1] 1 (Nat.le_refl _) (by unfold maxLen; omega) rfl
  have hca : Cur (w.alloc (.cells #[.int .i64 1] 3)) g A n c xs := HC.out.carry (row := none) ⟨rfl, rfl, rfl, by simp, fun k hk _ => Below.heap_alloc w _ k hk⟩ (by simp)
  refine (l01Below_any g A n c xs 5 _ (by omega) hca).mono ?_
  rintro e w1 ⟨N, rfl, hN0, hN5, hc1, hg1⟩
  have ho2 := ho1.far hg1 (.inr (by simp [Value.ownBlock]; omega))
  have hgr := grown_trans ga hg1
  have HO2 := Lib.hid ho2
  have HC1 := Lib.hid hc1
  have HGR := Lib.hid hgr
  clear ga ho1 hca hc1 hg1 ho2 hgr
  go_wp2_with fail
  go_loopw [3, 5] (fun o i wr => ∃ k : Nat, ∃ L : List Int, (k : Int) ≤ N ∧ i = .int .i64 k ∧ L.length = k + 1 ∧ sysB L = true ∧ OwI w.heap.size wr o L ∧ Cur wr g A n c xs ∧ w.grownBy wr (some g)) (fun _ i _ => 10 - (intOf i).toNat)
  case atStart => exact ⟨0, [1], by omega, rfl, rfl, sys_one, HO2.out, HC1.out, HGR.out⟩
  case round =>
    obtain ⟨k, L, hk, rfl, hLl, hsys, ho, hcu, hgr⟩ := hrel
    have HSY := Lib.hid hsys
    have HO := Lib.hid ho
    have HCU := Lib.hid hcu
    have HG := Lib.hid hgr
    have HLL := Lib.hid hLl
    by_cases hlt : (k : Int) < N
    · have hX := allB_iff.1 (sysB_bd hsys).1 k (by omega)
      obtain ⟨gb, cap, rfl, hc1, hc2, hb, hgb, hcell⟩ := ho.cells (show 0 < L.length by omega)
      have cx := hcell k (by omega)
      obtain ⟨X, eX⟩ : ∃ X, X = L.getD k 0 := ⟨_, rfl⟩
      rw [← eX] at cx hX
      have EX := Lib.hid eX
      obtain ⟨P, hP⟩ : ∃ P, P = L.length := ⟨_, rfl⟩
      rw [← hP] at hc1 ⊢
      have hP1 : k + 1 ≤ P := by omega
      have HP := Lib.hid hP
      have p0 : (0 : Int) ≤ (k : Int) := by omega
      have p1 : (k : Int) < (P : Int) := by omega
      have hne : gb ≠ g := by omega
      clear hcell ho hcu hgr hsys hLl eX hP
      go_upto_region 6 with fail
      have q1 : IntKind.i64.wrap (X + 1) = X + 1 := IntWalk.i64_in _ (by omega)
      have C6 := HCU.out
      have G6 := HG.out
      go_region_held3 (fun w' => w'.cell? ⟨gb, k, none⟩ = some (.int .i64 X) ∧ Cur w' g A n c xs ∧ wr.grownBy w' (some g))
        (((try go_split_ands); (refine And.intro ?_ (And.intro ?_ ?_)) <;> (first | with_reducible assumption | (with_reducible apply cell_drew; with_reducible assumption) | (exact C6) | (exact ⟨rfl, rfl, rfl, Nat.le_refl _, fun _ _ _ => rfl⟩) | (exact grown_cell hg hne (by assumption)) | (exact grown_trans (by assumption) hg))))
        (first | (go_at_call 37; refine (l01Below_any g A n c xs 12 _ (by omega) (by (try go_split_ands); assumption)).mono ?_; rintro e w3 ⟨D, rfl, hD0, hD1, hcd, hg⟩))
      rename_i hH
      obtain ⟨cx3, hc3, hgx⟩ := hH
      have ho3 := HO.out.far hgx (.inr (by simp [Value.ownBlock]; omega))
      have HO3 := Lib.hid ho3
      have HG3 := Lib.hid (grown_trans HG.out hgx)
      have q2 : IntKind.i64.wrap (X + 1 + D) = X + 1 + D := IntWalk.i64_in _ (by omega)
      rw [q2]
      clear q1 q2 C6 G6 hcd hg ho3 hgx cx
      go_wp2_with fail
      refine (l01Once_any g A n c xs 3 _ (by omega) hc3).mono ?_
      rintro e w4 ⟨B, rfl, hc4, hg4⟩
      have cx4 := grown_cell hg4 hne cx3
      have HO4 := Lib.hid (HO3.out.far hg4 (.inr (by simp [Value.ownBlock]; omega)))
      have HG4 := Lib.hid (grown_trans HG3.out hg4)
      have HC4 := Lib.hid hc4
      clear hc3 cx3 hc4 hg4
      go_upto_if 24 with fail
      go_cut [6] (fun s wx => ∃ Y : Int, s = .int .i64 Y ∧ X < Y ∧ Y ≤ 300 ∧ w4 = wx)
      case first =>
        cases B with
        | true =>
          go_wp2_with fail
          all_goals go_meet
          all_goals exact ⟨2 * X, by go_num, by omega, by omega, rfl⟩
        | false =>
          go_wp2_with fail
          all_goals go_meet
          all_goals exact ⟨X + 1 + D, rfl, by omega, by omega, rfl⟩
      case rest =>
        obtain ⟨Y, rfl, hY0, hY1, rfl⟩ := hcut
        by_cases h100 : Y ≤ 100
        · have hsz := HG4.out.size
          have HOW := Lib.hid (show w4.ownsRow w.heap.size 3 1 (.slice (some ⟨gb, 0, none⟩) P cap) P (L.map (.int .i64)) by have := HO4.out; unfold OwI at this; rw [← HP.out] at this; exact this)
          have hP5 : P ≤ 5 := by have := HP.out; have := HLL.out; omega
          go_wp2_with (at_builtin; refine wpList_append_any _ rfl (.tmp 32) (.tmp 34) _ rfl w.heap.size 3 i0 _ 1 8 Try.underlying22 hi0 hz0 hz1 hz2 rfl (by omega) (.slice (some ⟨gb, 0, none⟩) P cap) P (L.map (.int .i64)) rfl (HOW.out.alloc _) (w4.heap.size + 1) (some ⟨w4.heap.size, 0, none⟩) 1 1 [.int .i64 Y] rfl (reads_one _ _ _) (oneCell_one _) (by simp only [maxLen]; omega) (by omega) (by simp; omega) ?_; intro v2 w5 hown2 hg2 hat2; have HO5 := Lib.hid hown2; have HG5 := Lib.hid hg2; clear hown2 hg2 hat2)
          go_roundw
          case rel =>
            refine ⟨k + 1, L ++ [Y], by omega, by go_num, by rw [List.length_append, HLL.out]; rfl, ?_, ?_, ?_, ?_⟩
            · exact sys_push HSY.out (by rw [HLL.out, Nat.add_sub_cancel, ← EX.out]; exact hY0) h100 (by rw [HLL.out]; omega)
            · refine OwI.push (w := w) (w1 := w) (v := .bool true) ?_
              rw [← HP.out]; exact HO5.out
            · exact (HC4.out.carry (grown_alloc _ _) (by simp)).carry HG5.out (fun k' e => by simp [Value.ownBlock] at e; omega)
            · exact grown_over (grown_over HG4.out (grown_alloc _ _) (by simp)) HG5.out (fun k' e => by simp [Value.ownBlock] at e; omega)
          case measure => simp [intOf]; omega
        · have h100' : 100 < Y := by omega
          go_wp2_with fail
          go_ret
          exact ⟨_, rfl, L, HSY.out, by have := HO4.out; rw [← HP.out] at *; exact this, HG4.out⟩
    · go_wp2_with fail
      go_ret
      exact ⟨_, rfl, L, HSY.out, HO.out, HG.out⟩
end Go.Proofs.Ytjioijpanohgoaa
