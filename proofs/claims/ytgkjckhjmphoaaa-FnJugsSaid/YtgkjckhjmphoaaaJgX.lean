/- FewestPours: the walk of the program's. -/
import Derived.Test.YtgkjckhjmphoaaaJgY
set_option linter.unusedVariables false
namespace Go.Proofs.Ytgkjckhjmphoaaa
open Go.RowKit Go.Maps
open Go.ChangeShapes (lits)
theorem Bj.lt {f s goal : Int} {D Q : List (Nat × List Int)} (h : Bj f s goal D Q) (h0 : okJ f s 0) : ∀ e ∈ D ++ Q, e.1 < 441 := fun e he => (okJ_lt (wk_ok _ _ _ h0 (h.wk e he))).1
theorem Bk.lt {f s goal a : Int} {D Q : List (Nat × List Int)} {p : Nat × List Int} (h : Bk f s goal D p Q a) (h0 : okJ f s 0) : ∀ e ∈ D ++ p :: Q, e.1 < 441 := fun e he => (okJ_lt (wk_ok _ _ _ h0 (h.wk e he))).1
set_option maxRecDepth 100000 in
set_option maxHeartbeats 12800000 in
theorem iFew_any (f s goal : Int) (w : World) :
    Calls Try.prog 20 #[.int .i64 f, .int .i64 s, .int .i64 goal] w fun e w' => ∃ v, e = .returned (.tuple #[v, .bool (fewOk f s goal)]) ∧ OwI w.heap.size w' v (few f s goal) ∧ Kp w w' := by
  have HK0 := Lib.hid ((Kp.refl w).alloc (.cells #[.int .i64 f, .int .i64 s, .int .i64 0, .int .i64 0] 25))
  have HJ0 := Lib.hid (Jg.fresh w f s 0 0 25)
  have HNO := Lib.hid (few_not_in (f := f) (s := s) (goal := goal))
  have HFI := Lib.hid (show fewIn f s goal = (jugsB f s 0 0 && inB goal 0 20) from rfl)
  obtain ⟨j0, hj, hy0, hy1, hy2⟩ := info_parts int_info
  obtain ⟨i0, hi, hz0, hz1, hz2⟩ := info_parts jugs_info
  by_cases hin : fewIn f s goal = true
  · have hin' := hin
    rw [HFI.out] at hin'
    obtain ⟨h1, h2⟩ := Bool.and_eq_true_iff.1 hin'
    have hgo := inB_true.1 h2
    obtain ⟨hf, hs, _⟩ := jugsB_bd h1
    have H1 := Lib.hid h1
    have H2 := Lib.hid h2
    have HBN := Lib.hid (fun (D : List (Nat × List Int)) (B : Bj f s goal D []) => B.none)
    have HBF := Lib.hid (fun (D Q : List (Nat × List Int)) (p : Nat × List Int) (B : Bj f s goal D (p :: Q)) (hg : Gl goal p.1) => B.found hin hg)
    have HOK0 := Lib.hid (show okJ f s 0 from okJ_of hf hs (by unfold ua; omega) (by unfold vb; omega))
    obtain ⟨T, hT⟩ : ∃ T, T = few f s goal := ⟨_, rfl⟩
    obtain ⟨B, hB⟩ : ∃ B, B = fewOk f s goal := ⟨_, rfl⟩
    rw [← hT, ← hB]
    have HT := Lib.hid hT
    have HB := Lib.hid hB
    have hmm := @run_makeMap Try.prog
    clear h1 h2 hin hin' hT hB HNO HFI
    go_enter Try.func20, Try.ntmps20
    go_wp2_with fail
    refine (implJugsOk_any f s 0 0 _).mono ?_
    rw [H1.out]
    rintro e w1 ⟨rfl, hk1⟩
    obtain ⟨⟨s0, _⟩, ⟨s1, _⟩, ⟨s2, _⟩, ⟨s3, _⟩⟩ := HJ0.out.kp hk1
    have HK1 := Lib.hid (HK0.out.trans hk1)
    have hw1 : w.heap.size < w1.heap.size := cell_lt s0
    have hm0 := World.ownsGroups_made (H := Unit) w1 Try.prog 25 3 .i64
    have hky0 : keyOf Try.prog 25 (.agg #[.int .i64 f, .int .i64 s, .int .i64 0, .int .i64 0]) = some (ckey f s 0) := ckey_of (c := 0) hf hs (by omega)
    obtain ⟨w2, hrun, hown2, hg2, _⟩ := groups_store (w := w1.alloc (.map #[] 0)) (t := 46) (v' := .slice none 0 0) (zs' := []) (No := fun _ => False) lawM Try.underlying46 (zeroL _) hky0 hm0 (by unfold maxLen; omega) (fun d => rfl) (fun _ _ _ _ _ _ _ h => h) (fun g e => by cases e) (gb_refl _ _) (World.ownsInts_nil _ _ _ _) (by simp) (.inl rfl)
    have hk12 : Kp w1 w2 := ((Kp.refl w1).alloc (.map #[] 0)).grown hg2 (fun k e => by cases e; exact Nat.le_refl _)
    have s0 := hk12.at1 s0
    have s1 := hk12.at1 s1
    have s2 := hk12.at1 s2
    have s3 := hk12.at1 s3
    have HK2 := Lib.hid (HK1.out.trans hk12)
    obtain ⟨bm, hbm⟩ : ∃ bm, bm = w1.heap.size := ⟨_, rfl⟩
    have hbw : w.heap.size < bm := by omega
    have HRUN := Lib.hid hrun
    have hw2 : bm < w2.heap.size := by have := hg2.size; simp at this; omega
    rw [← hbm] at hown2
    have HG0 := Lib.hid (show (w2.alloc (.cells #[.int .i64 f, .int .i64 s, .int .i64 0, .int .i64 0] 25)).ownsGroups Try.prog 25 (bm + 1) 3 .i64 bm ([] ++ [((0 : Nat), ([] : List Int))]).length (DJ f s ([] ++ [(0, [])])) ∧ (w2.alloc (.cells #[.int .i64 f, .int .i64 s, .int .i64 0, .int .i64 0] 25)).Shuns bm (fun g => some w2.heap.size = some g) from by
      have hsh : w2.Shuns bm (fun g => some w2.heap.size = some g) := World.Shuns.reno (No := fun _ => False) (fun _ _ _ _ _ _ _ h => h) hown2 (fun g e => by injection e with e; exact .inr (by omega))
      have h := groups_kept hown2 hsh (World.grownBy_alloc w2 (.cells #[.int .i64 f, .int .i64 s, .int .i64 0, .int .i64 0] 25) none) (by simp) (fun j e => by cases e)
      exact h)
    have HQ0 := Lib.hid (q_new w2.heap.size w2 f s (Nat.le_refl _))
    have HK3 := Lib.hid (HK2.out.alloc (.cells #[.int .i64 f, .int .i64 s, .int .i64 0, .int .i64 0] 25))
    clear hk1 hk12 hg2 hown2 hrun hm0 hky0
    go_wp2_with (first
      | (go_at_call 28; refine (in_any _ _ _ _).mono ?_; rintro e w' ⟨rfl, rfl⟩; rw [H2.out])
      | (refine wpList_insert_eq _ rfl _ _ _ 46 rfl rfl rfl rfl HRUN.out ?_))
    rw [← hbm]
    obtain ⟨W, hW⟩ : ∃ W, W = w2.alloc (.cells #[.int .i64 f, .int .i64 s, .int .i64 0, .int .i64 0] 25) := ⟨_, rfl⟩
    rw [← hW] at HG0 HQ0 HK3 ⊢
    clear hbm hW HRUN s0 s1 s2 s3
    go_loopg [10] 883 (fun k v wr => ∃ D Q : List (Nat × List Int), 2 * unS ((D ++ Q).map Prod.fst) 441 + Q.length ≤ k ∧ (D ++ Q).length + unS ((D ++ Q).map Prod.fst) 441 ≤ 442 ∧ Bj f s goal D Q ∧ ownsQ wr w2.heap.size 25 4 v Q.length (cVs f s Q) ∧ wr.ownsGroups Try.prog 25 (bm + 1) 3 .i64 bm (D ++ Q).length (DJ f s (D ++ Q)) ∧ wr.Shuns bm (fun g => v.ownBlock = some g) ∧ Kp w wr)
    case atStart => exact ⟨[], [(0, [])], by have := unS_le (([] ++ [((0 : Nat), ([] : List Int))]).map Prod.fst) 441; simp at this ⊢; omega, by have := unS_le (([] ++ [((0 : Nat), ([] : List Int))]).map Prod.fst) 441; simp at this ⊢; omega, bj_start f s goal, HQ0.out, HG0.out.1, HG0.out.2, HK3.out⟩
    case round =>
      obtain ⟨D, Q, hk, hcn, hbj, hq, hgr, hsh, hkp⟩ := hrel
      have HBJ := Lib.hid hbj
      have HKP := Lib.hid hkp
      cases Q with
      | nil =>
        obtain ⟨_, g, o, cap, cur, rfl, _⟩ := id hq
        rw [show ([] : List (Nat × List Int)).length = 0 from rfl]
        have HRES := Lib.hid (HBN.out D HBJ.out)
        clear hq hgr hsh hkp hbj hk hcn
        go_wp2_with fail
        go_ret2
        exact ⟨_, by rw [HB.out, HRES.out.2] <;> rfl, by rw [HT.out, HRES.out.1]; exact World.ownsRow_nil _ _ _ _, HKP.out⟩
      | cons p Q =>
        obtain ⟨c, l⟩ := p
        have hE := hbj.lt HOK0.out
        have hpc : c < 441 := hE (c, l) (by simp)
        obtain ⟨_, g, o, cap, cur, rfl, hbg, hbl, _, _, _, _⟩ := id hq
        have hgl : g < wr.heap.size := (Array.getElem?_eq_some_iff.1 hbl).1
        have hcs := hq.cells
        have q0 : wr.cell? ⟨g, o, none⟩ = some (.int .i64 f) := hcs 0 _ rfl
        have q1 : wr.cell? ⟨g, o + 1, none⟩ = some (.int .i64 s) := hcs 1 _ rfl
        have q2 : wr.cell? ⟨g, o + 2, none⟩ = some (.int .i64 ((ua c : Nat) : Int)) := hcs 2 _ rfl
        have q3 : wr.cell? ⟨g, o + 3, none⟩ = some (.int .i64 ((vb c : Nat) : Int)) := hcs 3 _ rfl
        obtain ⟨n, hn⟩ : ∃ n, n = Q.length := ⟨_, rfl⟩
        have hl1 : ((c, l) :: Q).length = n + 1 := by rw [hn]; rfl
        have HFA := Lib.hid (show cap = 1 → ownsQ wr w2.heap.size 25 4 (.slice (some ⟨g, o, none⟩) n 0) n (cVs f s Q) by intro h; subst h; rw [hn]; exact ownsQ.front0 (xs := cV f s c) hq rfl)
        have HFB := Lib.hid (show ownsQ wr w2.heap.size 25 4 (.slice (some ⟨g, o + 4, none⟩) n (cap - 1)) n (cVs f s Q) by rw [hn]; exact ownsQ.front (xs := cV f s c) hq rfl)
        have hcap : n + 1 ≤ cap := by obtain ⟨_, g', o', cap', cur', e, _, _, h, _⟩ := id hq; injection e with e1 e2 e3; rw [e3, hn]; exact h
        rw [hl1]
        have HN := Lib.hid hn
        have hn0 : (0 : Int) < (n : Int) + 1 := by omega
        have hlen : (D ++ (c, l) :: Q).length ≤ 442 := by omega
        obtain ⟨wo, hwo⟩ : ∃ wo, wo = wr := ⟨_, rfl⟩
        subst hwo
        have hgr1 := groups_kept hgr hsh (World.grownBy_alloc wo (.cells #[.int .i64 f, .int .i64 s, .int .i64 ((ua c : Nat) : Int), .int .i64 ((vb c : Nat) : Int)] 25) none) (by simp) (fun j e => by cases e)
        have HGR1 := Lib.hid hgr1
        have HKP1 := Lib.hid (HKP.out.alloc (.cells #[.int .i64 f, .int .i64 s, .int .i64 ((ua c : Nat) : Int), .int .i64 ((vb c : Nat) : Int)] 25))
        have HJ1 := Lib.hid (JC.fresh wo f s (ua c) (vb c) 25)
        have hbo : bm < wo.heap.size := (groups_lt hgr).1
        have HKC := Lib.hid (ckey_of (c := c) hf hs hpc)
        have HAT := Lib.hid (dj_at hf hs (d := .nil) hE hbj.dis (e := (c, l)) (by simp))
        have hb1 := HJ1.out
        clear hq hgr hsh hkp hcs hbl hl1 hn hE hgr1
        by_cases hgg : Gl goal c
        · have HRES := Lib.hid (HBF.out D Q (c, l) HBJ.out hgg)
          obtain ⟨v, zs, hrun, hat, hoi, _, _⟩ := HGR1.out.1.at lawM Try.underlying46 (zeroL _) (by unfold maxLen; omega) HKC.out
          have hzs := rowv_inj hoi (HAT.out.symm.trans hat)
          subst hzs
          have HOI := Lib.hid (OwI.weak (B' := w.heap.size) (show OwI (bm + 1) _ v zs from hoi.1) (by omega))
          clear hat hoi hbj
          by_cases e1 : ((ua c : Nat) : Int) = goal
          · have t1 : (((ua c : Nat) : Int) == goal) = true := by simp [e1]
            clear e1 hgg
            go_wp2_with fail
            all_goals (
              go_ret2
              exact ⟨v, by rw [HB.out, HRES.out.2] <;> rfl, by rw [HT.out, HRES.out.1]; exact HOI.out, HKP1.out⟩)
          · have t1 : (((ua c : Nat) : Int) == goal) = false := by simp [e1]
            have t2 : (((vb c : Nat) : Int) == goal) = true := by rcases hgg with h | h; exact absurd h e1; simp [h]
            clear e1 hgg
            go_wp2_with fail
            all_goals (
              go_ret2
              exact ⟨v, by rw [HB.out, HRES.out.2] <;> rfl, by rw [HT.out, HRES.out.1]; exact HOI.out, HKP1.out⟩)
        · have t1 : (((ua c : Nat) : Int) == goal) = false := by simp; exact fun h => hgg (.inl h)
          have t2 : (((vb c : Nat) : Int) == goal) = false := by simp; exact fun h => hgg (.inr h)
          have HPOP := Lib.hid (hbj.pop hgg)
          clear hgg hbj
          go_wp2_with fail
          all_goals (
            go_loopw [10, 12] (fun v i wr => ∃ act : Nat, (1 ≤ act ∧ act ≤ 7) ∧ i = .int .i64 (act : Int) ∧ ∃ Q' : List (Nat × List Int), 2 * unS ((D ++ (c, l) :: Q').map Prod.fst) 441 + Q'.length + 1 ≤ gk ∧ (D ++ (c, l) :: Q').length + unS ((D ++ (c, l) :: Q').map Prod.fst) 441 ≤ 442 ∧ Bk f s goal D (c, l) Q' (act : Int) ∧ ownsQ wr w2.heap.size 25 4 v Q'.length (cVs f s Q') ∧ v.ownBlock ≠ some wo.heap.size ∧ wr.ownsGroups Try.prog 25 (bm + 1) 3 .i64 bm (D ++ (c, l) :: Q').length (DJ f s (D ++ (c, l) :: Q')) ∧ wr.Shuns bm (fun g => v.ownBlock = some g) ∧ JC wr wo.heap.size f s (ua c) (vb c) ∧ Kp w wr) (fun _ i _ => 7 - (intOf i).toNat)
            case atStart =>
              refine ⟨1, by omega, rfl, Q, by rw [List.length_cons] at hk; omega, hcn, HPOP.out, ?_, ?_, HGR1.out.1, ?_, HJ1.out, HKP1.out⟩
              · first | (rw [← HN.out]; exact HFB.out.kept (World.grownBy_alloc wo _ none) (by simp [Value.ownBlock])) | (rw [← HN.out]; exact (HFA.out h).kept (World.grownBy_alloc wo _ none) (by simp [Value.ownBlock]))
              · simp [Value.ownBlock]; omega
              · exact HGR1.out.2
            case round =>
              obtain ⟨act, hact, rfl, Q', hk1, hk2, hbk, hq, hq2, hgr, hsh, hjc, hkp⟩ := hrel
              have HBK := Lib.hid hbk
              have HQ := Lib.hid hq
              have HQ2 := Lib.hid hq2
              have HGR := Lib.hid (And.intro hgr hsh)
              have HJC := Lib.hid hjc
              have HKP2 := Lib.hid hkp
              obtain ⟨b0, b1, b2, b3⟩ := id hjc
              clear hbk hq hq2 hgr hsh hjc hkp
              by_cases h6 : act ≤ 6
              · go_wp2_with fail
                refine (implPour_any _ _ _ _ _ _).mono ?_
                obtain ⟨ok, hok⟩ : ∃ ok, ok = pOk f s ((ua c : Nat) : Int) ((vb c : Nat) : Int) (act : Int) := ⟨_, rfl⟩
                rw [← hok]
                rintro e w5 ⟨rfl, hk5⟩
                have HQ5 := Lib.hid (HQ.out.kept (gb_kp hk5 none) (by obtain ⟨g', e, _⟩ := HQ.out.lt; rw [e]; simp))
                have HGR5 := Lib.hid (groups_kept HGR.out.1 HGR.out.2 (gb_kp hk5 none) (by simp) (fun j e => by cases e))
                have HJC5 := Lib.hid (HJC.out.gb (gb_kp hk5 none) (by simp))
                have HKP5 := Lib.hid (HKP2.out.trans hk5)
                clear hk5 b0 b1 b2 b3
                obtain ⟨b0, b1, b2, b3⟩ := id HJC5.out
                cases ok with
                | false =>
                  have HNX := Lib.hid (HBK.out.skip (fun x hx => by have h := hx.1; dsimp only at h; rw [← hok] at h; cases h))
                  obtain ⟨R1, hR1⟩ : ∃ R1, R1 = rA f s ((ua c : Nat) : Int) ((vb c : Nat) : Int) (act : Int) := ⟨_, rfl⟩
                  obtain ⟨R2, hR2⟩ : ∃ R2, R2 = rB f s ((ua c : Nat) : Int) ((vb c : Nat) : Int) (act : Int) := ⟨_, rfl⟩
                  rw [← hR1, ← hR2]
                  have hal := World.grownBy_alloc w5 (.cells #[.int .i64 f, .int .i64 s, .int .i64 R1, .int .i64 R2] 25) none
                  have HQ6 := Lib.hid (HQ5.out.kept hal (by obtain ⟨g', e, _⟩ := HQ5.out.lt; rw [e]; simp))
                  have HGR6 := Lib.hid (groups_kept HGR5.out.1 HGR5.out.2 hal (by simp) (fun j e => by cases e))
                  have HJC6 := Lib.hid (HJC5.out.gb hal (by simp))
                  have HKP6 := Lib.hid (HKP5.out.alloc (.cells #[.int .i64 f, .int .i64 s, .int .i64 R1, .int .i64 R2] 25))
                  clear hok hR1 hR2 hal b0 b1 b2 b3
                  go_wp2_with fail
                  go_roundw
                  case rel => exact ⟨act + 1, by omega, by go_num, Q', hk1, hk2, HNX.out, HQ6.out, HQ2.out, HGR6.out.1, HGR6.out.2, HJC6.out, HKP6.out⟩
                  case measure => simp [intOf]; omega
                | true =>
                  obtain ⟨d, hd⟩ : ∃ d, Px f s c (act : Int) d := px_ex hok.symm
                  obtain ⟨_, e1, e2⟩ := id hd
                  rw [← e1, ← e2]
                  have hdo := (px_ok hd).2
                  have hdl := (okJ_lt hdo).1
                  have HD := Lib.hid hd
                  have HKD := Lib.hid (ckey_of (c := d) hf hs hdl)
                  have hal := World.grownBy_alloc w5 (.cells #[.int .i64 f, .int .i64 s, .int .i64 ((ua d : Nat) : Int), .int .i64 ((vb d : Nat) : Int)] 25) none
                  have HQ6 := Lib.hid (HQ5.out.kept hal (by obtain ⟨g', e, _⟩ := HQ5.out.lt; rw [e]; simp))
                  have HGR6 := Lib.hid (groups_kept HGR5.out.1 HGR5.out.2 hal (by simp) (fun j e => by cases e))
                  have HJC6 := Lib.hid (HJC5.out.gb hal (by simp))
                  have HKP6 := Lib.hid (HKP5.out.alloc (.cells #[.int .i64 f, .int .i64 s, .int .i64 ((ua d : Nat) : Int), .int .i64 ((vb d : Nat) : Int)] 25))
                  have HNC6 := Lib.hid (JC.fresh w5 f s (ua d) (vb d) 25)
                  have hE := HBK.out.lt HOK0.out
                  obtain ⟨vk, hrun⟩ := HGR6.out.1.atOk lawM Try.underlying46 (zeroL _) HKD.out
                  rw [dj_has hf hs hdl _ hE] at hrun
                  by_cases hin : ∃ e ∈ D ++ (c, l) :: Q', e.1 = d
                  · rw [decide_eq_true hin] at hrun
                    have HNX := Lib.hid (HBK.out.skip (fun x hx => by rw [px_fun hx HD.out]; exact hin))
                    clear hok hd e1 e2 hdo hal hE hin b0 b1 b2 b3
                    go_wp2_with fail
                    go_roundw
                    case rel => exact ⟨act + 1, by omega, by go_num, Q', hk1, hk2, HNX.out, HQ6.out, HQ2.out, HGR6.out.1, HGR6.out.2, HJC6.out, HKP6.out⟩
                    case measure => simp [intOf]; omega
                  · rw [decide_eq_false hin] at hrun
                    have HEND := Lib.hid (fun (v' : Value) (w9 w11 : World) (h1 : w9.ownsGroups Try.prog 25 (bm + 1) 3 .i64 bm ((D ++ (c, l) :: Q').length + 1) ((DJ f s (D ++ (c, l) :: Q')).put (ckey f s d) (rowv (l ++ [(act : Int)])))) (h2 : w9.Shuns bm (fun g => u10.ownBlock = some g))
                      (h3 : ownsQ w11 w2.heap.size 25 4 v' (Q'.length + 1) (cVs f s Q' ++ cV f s d)) (h4 : (w9.alloc (.cells #[.int .i64 f, .int .i64 s, .int .i64 ((ua d : Nat) : Int), .int .i64 ((vb d : Nat) : Int)] 25)).grownBy w11 u10.ownBlock) (h5 : v'.ownBlock = u10.ownBlock ∨ v'.ownBlock = some (w9.alloc (.cells #[.int .i64 f, .int .i64 s, .int .i64 ((ua d : Nat) : Int), .int .i64 ((vb d : Nat) : Int)] 25)).heap.size)
                      (h6' : JC w9 wo.heap.size f s (ua c) (vb c)) (h7 : Kp w w9) => bfs_end (B2 := w2.heap.size) hact h6 hk1 hk2 HBK.out hd hdl hin HQ2.out (cell_lt h6'.1) (by obtain ⟨g', e, h, _⟩ := HQ.out.lt; exact ⟨g', e, h⟩) (by omega) (by obtain ⟨g', e, h, _⟩ := HQ.out.lt; rw [e]; intro e2; injection e2 with e2; omega) h1 h2 h3 h4 h5 h6' h7)
                    have HNOK := Lib.hid (fun x : DataW Unit => dj_no hf hs (E := D ++ (c, l) :: Q') (d := x) hdl hE (fun e h1 h2 => hin ⟨e, h1, h2⟩))
                    have HWF := Lib.hid (show ∀ z ∈ l ++ [(act : Int)], (Lit.int .i64 z).wf = true from ints_wf (fun a ha => by
                      rcases List.mem_append.1 ha with ha | ha
                      · exact wk_acts _ _ _ (HBK.out.wk (c, l) (by simp)) a ha
                      · rw [List.mem_singleton] at ha; subst ha; omega))
                    have hat2 := dj_at hf hs (d := .nil) hE HBK.out.dis (e := (c, l)) (by simp)
                    have hln : (D ++ (c, l) :: Q').length ≤ 442 := by omega
                    obtain ⟨_, zs0, _, hat0, hoi0, hzl, _⟩ := HGR6.out.1.at lawM Try.underlying46 (zeroL _) (by unfold maxLen; omega) HKC.out
                    have hz0' := rowv_inj hoi0 (hat2.symm.trans hat0)
                    rw [hz0'] at hzl
                    clear hat0 hoi0 hz0'
                    have hlQ : Q'.length ≤ 442 := by rw [List.length_append, List.length_cons] at hln; omega
                    have HQB := Lib.hid (show u10.ownBlock ≠ some bm by obtain ⟨g', e, h, _⟩ := HQ.out.lt; rw [e]; intro e2; injection e2 with e2; omega)
                    clear hok hd e1 e2 hdo hal b0 b1 b2 b3 hin hE hk1 hk2
                    go_wp2_with fail
                    have hw5 : wo.heap.size < w5.heap.size := cell_lt HJC5.out.1
                    obtain ⟨W7, hW7⟩ : ∃ W7, W7 = w5.alloc (.cells #[.int .i64 f, .int .i64 s, .int .i64 ((ua d : Nat) : Int), .int .i64 ((vb d : Nat) : Int)] 25) := ⟨_, rfl⟩
                    have HQ7 := Lib.hid (show ownsQ W7 w2.heap.size 25 4 u10 Q'.length (cVs f s Q') by rw [hW7]; exact HQ6.out)
                    have HGR7 := Lib.hid (show W7.ownsGroups Try.prog 25 (bm + 1) 3 .i64 bm (D ++ (c, l) :: Q').length (DJ f s (D ++ (c, l) :: Q')) ∧ W7.Shuns bm (fun g => u10.ownBlock = some g) by rw [hW7]; exact HGR6.out)
                    have HJC7 := Lib.hid (show JC W7 wo.heap.size f s (ua c) (vb c) by rw [hW7]; exact HJC6.out)
                    have HNC7 := Lib.hid (show JC W7 w5.heap.size f s (ua d) (vb d) by rw [hW7]; exact HNC6.out)
                    have HKP7 := Lib.hid (show Kp w W7 by rw [hW7]; exact HKP6.out)
                    have hw7 : w5.heap.size < W7.heap.size := cell_lt HNC7.out.1
                    have hbW7 : bm + 1 ≤ W7.heap.size := by omega
                    have HLK := Lib.hid (show ∀ W', Kp W7 W' → ∃ v, (Instr.lookup 46 (.map (some bm)) (.agg #[.int .i64 f, .int .i64 s, .int .i64 ((ua c : Nat) : Int), .int .i64 ((vb c : Nat) : Int)]) false).run Try.prog W' = .ok v W' ∧ OwI (bm + 1) W' v l from fun W' hk => by
                      have h := groups_kept HGR7.out.1 HGR7.out.2 (gb_kp hk none) (by simp) (fun j e => by cases e)
                      obtain ⟨v, zs, hrun, hat, hoi, _, _⟩ := h.1.at lawM Try.underlying46 (zeroL _) (by unfold maxLen; omega) HKC.out
                      have hzs := rowv_inj hoi (hat2.symm.trans hat)
                      subst hzs
                      exact ⟨v, hrun, hoi.1⟩)
                    have hn1 : w5.heap.size ≠ bm := by omega
                    have hn2 : wo.heap.size ≠ bm := by omega
                    rw [← hW7]
                    clear hW7 HQ6 HGR6 HJC6 HNC6 HKP6 HQ5 HGR5 HJC5 HKP5 hat2 hrun
                    (refine wp_region_held_drew (S := (fun w' => w'.cell? ⟨w5.heap.size, 0, none⟩ = some (.int .i64 f) ∧ w'.cell? ⟨w5.heap.size, 1, none⟩ = some (.int .i64 s) ∧ w'.cell? ⟨w5.heap.size, 2, none⟩ = some (.int .i64 ((ua d : Nat) : Int)) ∧ w'.cell? ⟨w5.heap.size, 3, none⟩ = some (.int .i64 ((vb d : Nat) : Int)) ∧ w'.cell? ⟨wo.heap.size, 0, none⟩ = some (.int .i64 f) ∧ w'.cell? ⟨wo.heap.size, 1, none⟩ = some (.int .i64 s) ∧ w'.cell? ⟨wo.heap.size, 2, none⟩ = some (.int .i64 ((ua c : Nat) : Int)) ∧ w'.cell? ⟨wo.heap.size, 3, none⟩ = some (.int .i64 ((vb c : Nat) : Int)))) (by kernel_rfl) ?_ (fun hHeld => ?_); (· ((try dsimp only); (first | (refine keep8 HNC7.out HJC7.out (gb_kp ?_ (some bm)) hn1 hn2; ((repeat (with_reducible first | exact Kp.refl _ | assumption | refine Kp.drew ?_ | refine Kp.drewN ?_ _ | refine Kp.alloc ?_ _ | refine Kp.setCell ?_ (by first | (simp; done) | (simp; omega) | (dsimp only; omega)) _ | refine Kp.trans ?_ (by assumption)))); done) | exact keep8 HNC7.out HJC7.out (World.grownBy.trans (gb_kp hk8 (some bm)) hg9) hn1 hn2))); (refine wpAnyH_take (i := 0) (oi := { dst := some 74, op := Op.move (Operand.tmp 9), type := 46, pos := "l11_jug.go:88", after := #[], guard := none }) (v := ?_) rfl (by kernel_rfl) (by kernel_rfl) (by kernel_rfl) (fun _ _ _ h => h) (Or.inl ⟨by rfl, ?_⟩) (by assumption) ?_; rotate_left 1; (· (intro w hSw; (try dsimp only at hSw); go_simp; (try simp only [HQC.out]); (try with_reducible rfl)))); (try simp only [Act.put, List.setIfInBounds_toArray, List.set_cons_zero, List.set_cons_succ]); (refine wpAnyH_take (i := 1) (oi := { dst := some 75, op := Op.load 25 (Operand.tmp 13), type := 25, pos := "l11_jug.go:88", after := #[], guard := none }) (v := ?_) rfl (by kernel_rfl) (by kernel_rfl) (by kernel_rfl) (fun _ _ _ h => h) (Or.inl ⟨by rfl, ?_⟩) (by assumption) ?_; rotate_left 1; (· (intro w hSw; (try dsimp only at hSw); go_simp; (try simp only [HQC.out]); (try with_reducible rfl)))); (try simp only [Act.put, List.setIfInBounds_toArray, List.set_cons_zero, List.set_cons_succ]); (refine wpAnyH_take (i := 2) (oi := { dst := some 76, op := Op.move (Operand.tmp 9), type := 46, pos := "l11_jug.go:88", after := #[], guard := none }) (v := ?_) rfl (by kernel_rfl) (by kernel_rfl) (by kernel_rfl) (fun _ _ _ h => h) (Or.inl ⟨by rfl, ?_⟩) (by assumption) ?_; rotate_left 1; (· (intro w hSw; (try dsimp only at hSw); go_simp; (try simp only [HQC.out]); (try with_reducible rfl)))); (try simp only [Act.put, List.setIfInBounds_toArray, List.set_cons_zero, List.set_cons_succ]); (refine wpAnyH_take (i := 3) (oi := { dst := some 77, op := Op.load 25 (Operand.tmp 11), type := 25, pos := "l11_jug.go:88", after := #[], guard := none }) (v := ?_) rfl (by kernel_rfl) (by kernel_rfl) (by kernel_rfl) (fun _ _ _ h => h) (Or.inl ⟨by rfl, ?_⟩) (by assumption) ?_; rotate_left 1; (· (intro w hSw; (try dsimp only at hSw); go_simp; (try simp only [HQC.out]); (try with_reducible rfl)))); (try simp only [Act.put, List.setIfInBounds_toArray, List.set_cons_zero, List.set_cons_succ]); (refine wpAnyH_take (i := 6) (oi := { dst := some 80, op := Op.move (Operand.tmp 12), type := 3, pos := "l11_jug.go:88", after := #[], guard := none }) (v := ?_) rfl (by kernel_rfl) (by kernel_rfl) (by kernel_rfl) (fun _ _ _ h => h) (Or.inl ⟨by rfl, ?_⟩) (by assumption) ?_; rotate_left 1; (· (intro w hSw; (try dsimp only at hSw); go_simp; (try simp only [HQC.out]); (try with_reducible rfl)))); (try simp only [Act.put, List.setIfInBounds_toArray, List.set_cons_zero, List.set_cons_succ]); refine wpAnyH_ready (rs := [4, 7]) (by kernel_rfl) (by simp) ?_; refine AllReadyH.cons (o := { dst := some 78, op := Op.lookup 46 (Operand.tmp 76) (Operand.tmp 77) false, type := 32, pos := "l11_jug.go:88", after := #[{ on := 2, ground := Ground.data }, { on := 3, ground := Ground.data }], guard := none }) rfl (fun K hK => ?_) (AllReadyH.cons (o := { dst := some 81, op := Op.buildSlice 32 1 #[(0, Operand.tmp 80)], type := 32, pos := "l11_jug.go:88", after := #[{ on := 6, ground := Ground.data }], guard := none }) rfl (fun K hK => ?_) (AllReadyH.nil)); (· (rw [if_pos (by rfl)]; (refine wp_lookup_ex _ _ _ 46 rfl rfl rfl (HLK.out _ (by (repeat (with_reducible first | exact Kp.refl _ | assumption | refine Kp.drew ?_ | refine Kp.drewN ?_ _ | refine Kp.alloc ?_ _ | refine Kp.setCell ?_ (by first | (simp; done) | (simp; omega) | (dsimp only; omega)) _ | refine Kp.trans ?_ (by assumption))))) ?_; intro v4 ho4; obtain ⟨A4, c4, rfl, hr4⟩ := OwI.rd ho4); refine hK.out _ _ ?_ (fun hHeld => ?_); (· ((try dsimp only); (first | (refine keep8 HNC7.out HJC7.out (gb_kp ?_ (some bm)) hn1 hn2; ((repeat (with_reducible first | exact Kp.refl _ | assumption | refine Kp.drew ?_ | refine Kp.drewN ?_ _ | refine Kp.alloc ?_ _ | refine Kp.setCell ?_ (by first | (simp; done) | (simp; omega) | (dsimp only; omega)) _ | refine Kp.trans ?_ (by assumption)))); done) | exact keep8 HNC7.out HJC7.out (World.grownBy.trans (gb_kp hk8 (some bm)) hg9) hn1 hn2))); clear hK K; (try simp only [Act.put, List.setIfInBounds_toArray, List.set_cons_zero, List.set_cons_succ]); refine wpAnyH_ready (rs := [5, 7]) (by kernel_rfl) (by simp) ?_; refine AllReadyH.cons (o := { dst := some 79, op := Op.call { callee := Callee.value (Operand.func 31), args := #[Operand.tmp 78], argTypes := #[32] }, type := 32, pos := "l11_jug.go:88", after := #[{ on := 4, ground := Ground.data }], guard := none }) rfl (fun K hK => ?_) (AllReadyH.cons (o := { dst := some 81, op := Op.buildSlice 32 1 #[(0, Operand.tmp 80)], type := 32, pos := "l11_jug.go:88", after := #[{ on := 6, ground := Ground.data }], guard := none }) rfl (fun K hK => ?_) (AllReadyH.nil)); (· (go_simp; (go_at_call 31; refine (copyInts_any A4 l.length c4 l _ rfl (by omega) (by first | (refine Reads.kp hr4 ?_; ((repeat (with_reducible first | exact Kp.refl _ | assumption | refine Kp.drew ?_ | refine Kp.drewN ?_ _ | refine Kp.alloc ?_ _ | refine Kp.setCell ?_ (by first | (simp; done) | (simp; omega) | (dsimp only; omega)) _ | refine Kp.trans ?_ (by assumption)))); done) | (refine Reads.kp hr4 (Kp.undrew ?_); ((repeat (with_reducible first | exact Kp.refl _ | assumption | refine Kp.drew ?_ | refine Kp.drewN ?_ _ | refine Kp.alloc ?_ _ | refine Kp.setCell ?_ (by first | (simp; done) | (simp; omega) | (dsimp only; omega)) _ | refine Kp.trans ?_ (by assumption)))); done))).mono ?_; rintro e w6 ⟨v6, rfl, ho6, hk6⟩; have HOW6 := Lib.hid (OwI.weak (B' := W7.heap.size) ho6 (Kp.size (w := W7) (by (repeat (with_reducible first | exact Kp.refl _ | assumption | refine Kp.drew ?_ | refine Kp.drewN ?_ _ | refine Kp.alloc ?_ _ | refine Kp.setCell ?_ (by first | (simp; done) | (simp; omega) | (dsimp only; omega)) _ | refine Kp.trans ?_ (by assumption))))))); (try go_wp2_with fail); refine hK.out _ _ ?_ (fun hHeld => ?_); (· ((try dsimp only); (first | (refine keep8 HNC7.out HJC7.out (gb_kp ?_ (some bm)) hn1 hn2; ((repeat (with_reducible first | exact Kp.refl _ | assumption | refine Kp.drew ?_ | refine Kp.drewN ?_ _ | refine Kp.alloc ?_ _ | refine Kp.setCell ?_ (by first | (simp; done) | (simp; omega) | (dsimp only; omega)) _ | refine Kp.trans ?_ (by assumption)))); done) | exact keep8 HNC7.out HJC7.out (World.grownBy.trans (gb_kp hk8 (some bm)) hg9) hn1 hn2))); clear hK K; (try simp only [Act.put, List.setIfInBounds_toArray, List.set_cons_zero, List.set_cons_succ]); refine wpAnyH_ready (rs := [7]) (by kernel_rfl) (by simp) ?_; refine AllReadyH.cons (o := { dst := some 81, op := Op.buildSlice 32 1 #[(0, Operand.tmp 80)], type := 32, pos := "l11_jug.go:88", after := #[{ on := 6, ground := Ground.data }], guard := none }) rfl (fun K hK => ?_) (AllReadyH.nil); (· (go_simp; refine hK.out _ _ ?_ (fun hHeld => ?_); (· ((try dsimp only); (first | (refine keep8 HNC7.out HJC7.out (gb_kp ?_ (some bm)) hn1 hn2; ((repeat (with_reducible first | exact Kp.refl _ | assumption | refine Kp.drew ?_ | refine Kp.drewN ?_ _ | refine Kp.alloc ?_ _ | refine Kp.setCell ?_ (by first | (simp; done) | (simp; omega) | (dsimp only; omega)) _ | refine Kp.trans ?_ (by assumption)))); done) | exact keep8 HNC7.out HJC7.out (World.grownBy.trans (gb_kp hk8 (some bm)) hg9) hn1 hn2))); clear hK K; (try simp only [Act.put, List.setIfInBounds_toArray, List.set_cons_zero, List.set_cons_succ]); refine wpAnyH_ready (rs := [8]) (by kernel_rfl) (by simp) ?_; refine AllReadyH.cons (o := { dst := some 82, op := Op.call { callee := Callee.builtin Builtin.append, args := #[Operand.tmp 79, Operand.tmp 81], argTypes := #[32, 32] }, type := 32, pos := "l11_jug.go:88", after := #[{ on := 5, ground := Ground.data }, { on := 7, ground := Ground.data }, { on := 5, ground := Ground.chain }], guard := none }) rfl (fun K hK => ?_) (AllReadyH.nil); (· (rw [if_pos (by rfl)]; (refine wp_append_any _ (.tmp 79) (.tmp 81) _ rfl W7.heap.size 3 j0 _ 1 8 Try.underlying32 hj hy0 hy1 hy2 rfl (by omega) v6 l.length (l.map (.int .i64)) rfl (by first | exact HOW6.out | exact World.ownsRow.alloc HOW6.out _) _ (some ⟨_, 0, none⟩) 1 1 [.int .i64 (act : Int)] rfl (by first | exact reads_one _ _ _ | exact reads_one_kp (by (repeat (with_reducible first | exact Kp.refl _ | assumption | refine Kp.drew ?_ | refine Kp.drewN ?_ _ | refine Kp.alloc ?_ _ | refine Kp.setCell ?_ (by first | (simp; done) | (simp; omega) | (dsimp only; omega)) _ | refine Kp.trans ?_ (by assumption))))) (oneCell_one _) (by simp only [maxLen]; omega) (by omega) (Kp.size (w := W7) (by (repeat (with_reducible first | exact Kp.refl _ | assumption | refine Kp.drew ?_ | refine Kp.drewN ?_ _ | refine Kp.alloc ?_ _ | refine Kp.setCell ?_ (by first | (simp; done) | (simp; omega) | (dsimp only; omega)) _ | refine Kp.trans ?_ (by assumption))))) ?_; intro v8 w8 hown8 hg8 hat8; have HO8 := Lib.hid (show OwI W7.heap.size w8 v8 (l ++ [(act : Int)]) by unfold OwI; rw [List.length_append, List.map_append]; exact hown8); have hk8 : Kp W7 w8 := Kp.grown (by (repeat (with_reducible first | exact Kp.refl _ | assumption | refine Kp.drew ?_ | refine Kp.drewN ?_ _ | refine Kp.alloc ?_ _ | refine Kp.setCell ?_ (by first | (simp; done) | (simp; omega) | (dsimp only; omega)) _ | refine Kp.trans ?_ (by assumption)))) hg8 (fun k e => (OwI.lt HOW6.out k e).1); clear hown8 hat8); refine hK.out _ _ ?_ (fun hHeld => ?_); (· ((try dsimp only); (first | (refine keep8 HNC7.out HJC7.out (gb_kp ?_ (some bm)) hn1 hn2; ((repeat (with_reducible first | exact Kp.refl _ | assumption | refine Kp.drew ?_ | refine Kp.drewN ?_ _ | refine Kp.alloc ?_ _ | refine Kp.setCell ?_ (by first | (simp; done) | (simp; omega) | (dsimp only; omega)) _ | refine Kp.trans ?_ (by assumption)))); done) | exact keep8 HNC7.out HJC7.out (World.grownBy.trans (gb_kp hk8 (some bm)) hg9) hn1 hn2))); clear hK K; (try simp only [Act.put, List.setIfInBounds_toArray, List.set_cons_zero, List.set_cons_succ]); refine wpAnyH_ready (rs := [9]) (by kernel_rfl) (by simp) ?_; refine AllReadyH.cons (o := { dst := none, op := Op.mapUpdate 46 (Operand.tmp 74) (Operand.tmp 75) (Operand.tmp 82), type := 0, pos := "l11_jug.go:88", after := #[{ on := 0, ground := Ground.data }, { on := 1, ground := Ground.data }, { on := 8, ground := Ground.data }, { on := 8, ground := Ground.chain }, { on := 0, ground := Ground.phase }, { on := 1, ground := Ground.phase }, { on := 2, ground := Ground.phase }, { on := 3, ground := Ground.phase }, { on := 4, ground := Ground.phase }, { on := 5, ground := Ground.phase }, { on := 6, ground := Ground.phase }, { on := 7, ground := Ground.phase }, { on := 8, ground := Ground.phase }], guard := none }) rfl (fun K hK => ?_) (AllReadyH.nil); (· (rw [if_pos (by rfl)]; (obtain ⟨g8, cap8, hv8, hg8a, hg8b⟩ := OwI.form HO8.out (by simp); obtain ⟨w9, hrun9, hown9, hg9, hsh9⟩ := groups_store (w0 := W7) (w := w8) (t := 46) (v' := v8) (zs' := l ++ [(act : Int)]) lawM Try.underlying46 (zeroL _) HKD.out HGR7.out.1 (by unfold maxLen; omega) HNOK.out HGR7.out.2 (fun g e e2 => by rw [hv8] at e; have e := Option.some.inj (show some g8 = some g from e); obtain ⟨g', e3, _, h3⟩ := HQ7.out.lt; have e2 : some g' = some g := e3.symm.trans e2; have e2 := Option.some.inj e2; omega) (gb_kp hk8 none) ⟨OwI.weak HO8.out hbW7, HWF.out⟩ (by rw [List.length_append, List.length_singleton]; omega) (.inr ⟨g8, by rw [hv8]; rfl, hg8a⟩); rw [show rowDatum (H := Unit) .i64 v8 (l ++ [(act : Int)]) = rowv (l ++ [(act : Int)]) from by rw [rowv, if_neg (by simp)]; exact World.ownsInts.datum_pos (w := w8) (base := bm + 1) (e := 3) ⟨OwI.weak HO8.out hbW7, HWF.out⟩ (by simp)] at hown9; have HGR9 := Lib.hid (And.intro hown9 hsh9); have HQ9 := Lib.hid ((HQ7.out.kept (gb_kp hk8 none) (by obtain ⟨g', e, _⟩ := HQ7.out.lt; rw [e]; simp)).kept hg9 HQB.out); have HJC9 := Lib.hid ((HJC7.out.gb (gb_kp hk8 none) (by simp)).gb hg9 (by intro e; injection e with e; omega)); have HNC9 := Lib.hid ((HNC7.out.gb (gb_kp hk8 none) (by simp)).gb hg9 (by intro e; injection e with e; omega)); have HKP9 := Lib.hid ((HKP7.out.trans hk8).grown hg9 (fun k e => by cases e; omega)); have hz9 : W7.heap.size ≤ w9.heap.size := Nat.le_trans hk8.size hg9.size; clear hown9 hsh9; refine wp_mapUpdate_eq _ _ _ _ 46 rfl rfl rfl rfl hrun9 ?_); refine hK.out _ _ ?_ (fun hHeld => ?_); (· ((try dsimp only); (first | (refine keep8 HNC7.out HJC7.out (gb_kp ?_ (some bm)) hn1 hn2; ((repeat (with_reducible first | exact Kp.refl _ | assumption | refine Kp.drew ?_ | refine Kp.drewN ?_ _ | refine Kp.alloc ?_ _ | refine Kp.setCell ?_ (by first | (simp; done) | (simp; omega) | (dsimp only; omega)) _ | refine Kp.trans ?_ (by assumption)))); done) | exact keep8 HNC7.out HJC7.out (World.grownBy.trans (gb_kp hk8 (some bm)) hg9) hn1 hn2))); clear hK K; (try simp only [Act.put, List.setIfInBounds_toArray, List.set_cons_zero, List.set_cons_succ]); (refine wpAnyH_done (by kernel_rfl) ?_ _); ((obtain ⟨m0, m1, m2, m3⟩ := HNC9.out); (try clear hk8 hg9 hg8 hrun9 hk6 ho6); (go_wp2_with (at_builtin; refine wpList_append_q _ rfl _ _ 47 rfl w2.heap.size 25 i0 _ 4 32 Try.underlying47 hi hz0 hz1 hz2 rfl u10 Q'.length (cVs f s Q') rfl (HQ9.out.kept (World.grownBy_alloc _ _ none) (by obtain ⟨g', e, _⟩ := HQ9.out.lt; rw [e]; simp)) ⟨w9.heap.size, 0, none⟩ 1 1 (cV f s d) rfl rfl (cv_cells w9 f s d) (cv_one f s d) (by unfold maxLen; omega) (by omega) (by simp; omega) ?_; intro v' w11 hqq hgg hvv; have HQQ := Lib.hid hqq; have HGG := Lib.hid hgg; have HVV := Lib.hid hvv; clear hqq hgg hvv)); go_roundw; (case rel => exact HEND.out v' w9 w11 HGR9.out.1 HGR9.out.2 HQQ.out HGG.out HVV.out HJC9.out HKP9.out); (case measure => simp [intOf]; omega)))))))))); (· (go_simp; refine hK.out _ _ ?_ (fun hHeld => ?_); (· ((try dsimp only); (first | (refine keep8 HNC7.out HJC7.out (gb_kp ?_ (some bm)) hn1 hn2; ((repeat (with_reducible first | exact Kp.refl _ | assumption | refine Kp.drew ?_ | refine Kp.drewN ?_ _ | refine Kp.alloc ?_ _ | refine Kp.setCell ?_ (by first | (simp; done) | (simp; omega) | (dsimp only; omega)) _ | refine Kp.trans ?_ (by assumption)))); done) | exact keep8 HNC7.out HJC7.out (World.grownBy.trans (gb_kp hk8 (some bm)) hg9) hn1 hn2))); clear hK K; (try simp only [Act.put, List.setIfInBounds_toArray, List.set_cons_zero, List.set_cons_succ]); refine wpAnyH_ready (rs := [5]) (by kernel_rfl) (by simp) ?_; refine AllReadyH.cons (o := { dst := some 79, op := Op.call { callee := Callee.value (Operand.func 31), args := #[Operand.tmp 78], argTypes := #[32] }, type := 32, pos := "l11_jug.go:88", after := #[{ on := 4, ground := Ground.data }], guard := none }) rfl (fun K hK => ?_) (AllReadyH.nil); (· (go_simp; (go_at_call 31; refine (copyInts_any A4 l.length c4 l _ rfl (by omega) (by first | (refine Reads.kp hr4 ?_; ((repeat (with_reducible first | exact Kp.refl _ | assumption | refine Kp.drew ?_ | refine Kp.drewN ?_ _ | refine Kp.alloc ?_ _ | refine Kp.setCell ?_ (by first | (simp; done) | (simp; omega) | (dsimp only; omega)) _ | refine Kp.trans ?_ (by assumption)))); done) | (refine Reads.kp hr4 (Kp.undrew ?_); ((repeat (with_reducible first | exact Kp.refl _ | assumption | refine Kp.drew ?_ | refine Kp.drewN ?_ _ | refine Kp.alloc ?_ _ | refine Kp.setCell ?_ (by first | (simp; done) | (simp; omega) | (dsimp only; omega)) _ | refine Kp.trans ?_ (by assumption)))); done))).mono ?_; rintro e w6 ⟨v6, rfl, ho6, hk6⟩; have HOW6 := Lib.hid (OwI.weak (B' := W7.heap.size) ho6 (Kp.size (w := W7) (by (repeat (with_reducible first | exact Kp.refl _ | assumption | refine Kp.drew ?_ | refine Kp.drewN ?_ _ | refine Kp.alloc ?_ _ | refine Kp.setCell ?_ (by first | (simp; done) | (simp; omega) | (dsimp only; omega)) _ | refine Kp.trans ?_ (by assumption))))))); (try go_wp2_with fail); refine hK.out _ _ ?_ (fun hHeld => ?_); (· ((try dsimp only); (first | (refine keep8 HNC7.out HJC7.out (gb_kp ?_ (some bm)) hn1 hn2; ((repeat (with_reducible first | exact Kp.refl _ | assumption | refine Kp.drew ?_ | refine Kp.drewN ?_ _ | refine Kp.alloc ?_ _ | refine Kp.setCell ?_ (by first | (simp; done) | (simp; omega) | (dsimp only; omega)) _ | refine Kp.trans ?_ (by assumption)))); done) | exact keep8 HNC7.out HJC7.out (World.grownBy.trans (gb_kp hk8 (some bm)) hg9) hn1 hn2))); clear hK K; (try simp only [Act.put, List.setIfInBounds_toArray, List.set_cons_zero, List.set_cons_succ]); refine wpAnyH_ready (rs := [8]) (by kernel_rfl) (by simp) ?_; refine AllReadyH.cons (o := { dst := some 82, op := Op.call { callee := Callee.builtin Builtin.append, args := #[Operand.tmp 79, Operand.tmp 81], argTypes := #[32, 32] }, type := 32, pos := "l11_jug.go:88", after := #[{ on := 5, ground := Ground.data }, { on := 7, ground := Ground.data }, { on := 5, ground := Ground.chain }], guard := none }) rfl (fun K hK => ?_) (AllReadyH.nil); (· (rw [if_pos (by rfl)]; (refine wp_append_any _ (.tmp 79) (.tmp 81) _ rfl W7.heap.size 3 j0 _ 1 8 Try.underlying32 hj hy0 hy1 hy2 rfl (by omega) v6 l.length (l.map (.int .i64)) rfl (by first | exact HOW6.out | exact World.ownsRow.alloc HOW6.out _) _ (some ⟨_, 0, none⟩) 1 1 [.int .i64 (act : Int)] rfl (by first | exact reads_one _ _ _ | exact reads_one_kp (by (repeat (with_reducible first | exact Kp.refl _ | assumption | refine Kp.drew ?_ | refine Kp.drewN ?_ _ | refine Kp.alloc ?_ _ | refine Kp.setCell ?_ (by first | (simp; done) | (simp; omega) | (dsimp only; omega)) _ | refine Kp.trans ?_ (by assumption))))) (oneCell_one _) (by simp only [maxLen]; omega) (by omega) (Kp.size (w := W7) (by (repeat (with_reducible first | exact Kp.refl _ | assumption | refine Kp.drew ?_ | refine Kp.drewN ?_ _ | refine Kp.alloc ?_ _ | refine Kp.setCell ?_ (by first | (simp; done) | (simp; omega) | (dsimp only; omega)) _ | refine Kp.trans ?_ (by assumption))))) ?_; intro v8 w8 hown8 hg8 hat8; have HO8 := Lib.hid (show OwI W7.heap.size w8 v8 (l ++ [(act : Int)]) by unfold OwI; rw [List.length_append, List.map_append]; exact hown8); have hk8 : Kp W7 w8 := Kp.grown (by (repeat (with_reducible first | exact Kp.refl _ | assumption | refine Kp.drew ?_ | refine Kp.drewN ?_ _ | refine Kp.alloc ?_ _ | refine Kp.setCell ?_ (by first | (simp; done) | (simp; omega) | (dsimp only; omega)) _ | refine Kp.trans ?_ (by assumption)))) hg8 (fun k e => (OwI.lt HOW6.out k e).1); clear hown8 hat8); refine hK.out _ _ ?_ (fun hHeld => ?_); (· ((try dsimp only); (first | (refine keep8 HNC7.out HJC7.out (gb_kp ?_ (some bm)) hn1 hn2; ((repeat (with_reducible first | exact Kp.refl _ | assumption | refine Kp.drew ?_ | refine Kp.drewN ?_ _ | refine Kp.alloc ?_ _ | refine Kp.setCell ?_ (by first | (simp; done) | (simp; omega) | (dsimp only; omega)) _ | refine Kp.trans ?_ (by assumption)))); done) | exact keep8 HNC7.out HJC7.out (World.grownBy.trans (gb_kp hk8 (some bm)) hg9) hn1 hn2))); clear hK K; (try simp only [Act.put, List.setIfInBounds_toArray, List.set_cons_zero, List.set_cons_succ]); refine wpAnyH_ready (rs := [9]) (by kernel_rfl) (by simp) ?_; refine AllReadyH.cons (o := { dst := none, op := Op.mapUpdate 46 (Operand.tmp 74) (Operand.tmp 75) (Operand.tmp 82), type := 0, pos := "l11_jug.go:88", after := #[{ on := 0, ground := Ground.data }, { on := 1, ground := Ground.data }, { on := 8, ground := Ground.data }, { on := 8, ground := Ground.chain }, { on := 0, ground := Ground.phase }, { on := 1, ground := Ground.phase }, { on := 2, ground := Ground.phase }, { on := 3, ground := Ground.phase }, { on := 4, ground := Ground.phase }, { on := 5, ground := Ground.phase }, { on := 6, ground := Ground.phase }, { on := 7, ground := Ground.phase }, { on := 8, ground := Ground.phase }], guard := none }) rfl (fun K hK => ?_) (AllReadyH.nil); (· (rw [if_pos (by rfl)]; (obtain ⟨g8, cap8, hv8, hg8a, hg8b⟩ := OwI.form HO8.out (by simp); obtain ⟨w9, hrun9, hown9, hg9, hsh9⟩ := groups_store (w0 := W7) (w := w8) (t := 46) (v' := v8) (zs' := l ++ [(act : Int)]) lawM Try.underlying46 (zeroL _) HKD.out HGR7.out.1 (by unfold maxLen; omega) HNOK.out HGR7.out.2 (fun g e e2 => by rw [hv8] at e; have e := Option.some.inj (show some g8 = some g from e); obtain ⟨g', e3, _, h3⟩ := HQ7.out.lt; have e2 : some g' = some g := e3.symm.trans e2; have e2 := Option.some.inj e2; omega) (gb_kp hk8 none) ⟨OwI.weak HO8.out hbW7, HWF.out⟩ (by rw [List.length_append, List.length_singleton]; omega) (.inr ⟨g8, by rw [hv8]; rfl, hg8a⟩); rw [show rowDatum (H := Unit) .i64 v8 (l ++ [(act : Int)]) = rowv (l ++ [(act : Int)]) from by rw [rowv, if_neg (by simp)]; exact World.ownsInts.datum_pos (w := w8) (base := bm + 1) (e := 3) ⟨OwI.weak HO8.out hbW7, HWF.out⟩ (by simp)] at hown9; have HGR9 := Lib.hid (And.intro hown9 hsh9); have HQ9 := Lib.hid ((HQ7.out.kept (gb_kp hk8 none) (by obtain ⟨g', e, _⟩ := HQ7.out.lt; rw [e]; simp)).kept hg9 HQB.out); have HJC9 := Lib.hid ((HJC7.out.gb (gb_kp hk8 none) (by simp)).gb hg9 (by intro e; injection e with e; omega)); have HNC9 := Lib.hid ((HNC7.out.gb (gb_kp hk8 none) (by simp)).gb hg9 (by intro e; injection e with e; omega)); have HKP9 := Lib.hid ((HKP7.out.trans hk8).grown hg9 (fun k e => by cases e; omega)); have hz9 : W7.heap.size ≤ w9.heap.size := Nat.le_trans hk8.size hg9.size; clear hown9 hsh9; refine wp_mapUpdate_eq _ _ _ _ 46 rfl rfl rfl rfl hrun9 ?_); refine hK.out _ _ ?_ (fun hHeld => ?_); (· ((try dsimp only); (first | (refine keep8 HNC7.out HJC7.out (gb_kp ?_ (some bm)) hn1 hn2; ((repeat (with_reducible first | exact Kp.refl _ | assumption | refine Kp.drew ?_ | refine Kp.drewN ?_ _ | refine Kp.alloc ?_ _ | refine Kp.setCell ?_ (by first | (simp; done) | (simp; omega) | (dsimp only; omega)) _ | refine Kp.trans ?_ (by assumption)))); done) | exact keep8 HNC7.out HJC7.out (World.grownBy.trans (gb_kp hk8 (some bm)) hg9) hn1 hn2))); clear hK K; (try simp only [Act.put, List.setIfInBounds_toArray, List.set_cons_zero, List.set_cons_succ]); (refine wpAnyH_done (by kernel_rfl) ?_ _); ((obtain ⟨m0, m1, m2, m3⟩ := HNC9.out); (try clear hk8 hg9 hg8 hrun9 hk6 ho6); (go_wp2_with (at_builtin; refine wpList_append_q _ rfl _ _ 47 rfl w2.heap.size 25 i0 _ 4 32 Try.underlying47 hi hz0 hz1 hz2 rfl u10 Q'.length (cVs f s Q') rfl (HQ9.out.kept (World.grownBy_alloc _ _ none) (by obtain ⟨g', e, _⟩ := HQ9.out.lt; rw [e]; simp)) ⟨w9.heap.size, 0, none⟩ 1 1 (cV f s d) rfl rfl (cv_cells w9 f s d) (cv_one f s d) (by unfold maxLen; omega) (by omega) (by simp; omega) ?_; intro v' w11 hqq hgg hvv; have HQQ := Lib.hid hqq; have HGG := Lib.hid hgg; have HVV := Lib.hid hvv; clear hqq hgg hvv)); go_roundw; (case rel => exact HEND.out v' w9 w11 HGR9.out.1 HGR9.out.2 HQQ.out HGG.out HVV.out HJC9.out HKP9.out); (case measure => simp [intOf]; omega)))))))))))); (· (go_simp; refine hK.out _ _ ?_ (fun hHeld => ?_); (· ((try dsimp only); (first | (refine keep8 HNC7.out HJC7.out (gb_kp ?_ (some bm)) hn1 hn2; ((repeat (with_reducible first | exact Kp.refl _ | assumption | refine Kp.drew ?_ | refine Kp.drewN ?_ _ | refine Kp.alloc ?_ _ | refine Kp.setCell ?_ (by first | (simp; done) | (simp; omega) | (dsimp only; omega)) _ | refine Kp.trans ?_ (by assumption)))); done) | exact keep8 HNC7.out HJC7.out (World.grownBy.trans (gb_kp hk8 (some bm)) hg9) hn1 hn2))); clear hK K; (try simp only [Act.put, List.setIfInBounds_toArray, List.set_cons_zero, List.set_cons_succ]); refine wpAnyH_ready (rs := [4]) (by kernel_rfl) (by simp) ?_; refine AllReadyH.cons (o := { dst := some 78, op := Op.lookup 46 (Operand.tmp 76) (Operand.tmp 77) false, type := 32, pos := "l11_jug.go:88", after := #[{ on := 2, ground := Ground.data }, { on := 3, ground := Ground.data }], guard := none }) rfl (fun K hK => ?_) (AllReadyH.nil); (· (rw [if_pos (by rfl)]; (refine wp_lookup_ex _ _ _ 46 rfl rfl rfl (HLK.out _ (by (repeat (with_reducible first | exact Kp.refl _ | assumption | refine Kp.drew ?_ | refine Kp.drewN ?_ _ | refine Kp.alloc ?_ _ | refine Kp.setCell ?_ (by first | (simp; done) | (simp; omega) | (dsimp only; omega)) _ | refine Kp.trans ?_ (by assumption))))) ?_; intro v4 ho4; obtain ⟨A4, c4, rfl, hr4⟩ := OwI.rd ho4); refine hK.out _ _ ?_ (fun hHeld => ?_); (· ((try dsimp only); (first | (refine keep8 HNC7.out HJC7.out (gb_kp ?_ (some bm)) hn1 hn2; ((repeat (with_reducible first | exact Kp.refl _ | assumption | refine Kp.drew ?_ | refine Kp.drewN ?_ _ | refine Kp.alloc ?_ _ | refine Kp.setCell ?_ (by first | (simp; done) | (simp; omega) | (dsimp only; omega)) _ | refine Kp.trans ?_ (by assumption)))); done) | exact keep8 HNC7.out HJC7.out (World.grownBy.trans (gb_kp hk8 (some bm)) hg9) hn1 hn2))); clear hK K; (try simp only [Act.put, List.setIfInBounds_toArray, List.set_cons_zero, List.set_cons_succ]); refine wpAnyH_ready (rs := [5]) (by kernel_rfl) (by simp) ?_; refine AllReadyH.cons (o := { dst := some 79, op := Op.call { callee := Callee.value (Operand.func 31), args := #[Operand.tmp 78], argTypes := #[32] }, type := 32, pos := "l11_jug.go:88", after := #[{ on := 4, ground := Ground.data }], guard := none }) rfl (fun K hK => ?_) (AllReadyH.nil); (· (go_simp; (go_at_call 31; refine (copyInts_any A4 l.length c4 l _ rfl (by omega) (by first | (refine Reads.kp hr4 ?_; ((repeat (with_reducible first | exact Kp.refl _ | assumption | refine Kp.drew ?_ | refine Kp.drewN ?_ _ | refine Kp.alloc ?_ _ | refine Kp.setCell ?_ (by first | (simp; done) | (simp; omega) | (dsimp only; omega)) _ | refine Kp.trans ?_ (by assumption)))); done) | (refine Reads.kp hr4 (Kp.undrew ?_); ((repeat (with_reducible first | exact Kp.refl _ | assumption | refine Kp.drew ?_ | refine Kp.drewN ?_ _ | refine Kp.alloc ?_ _ | refine Kp.setCell ?_ (by first | (simp; done) | (simp; omega) | (dsimp only; omega)) _ | refine Kp.trans ?_ (by assumption)))); done))).mono ?_; rintro e w6 ⟨v6, rfl, ho6, hk6⟩; have HOW6 := Lib.hid (OwI.weak (B' := W7.heap.size) ho6 (Kp.size (w := W7) (by (repeat (with_reducible first | exact Kp.refl _ | assumption | refine Kp.drew ?_ | refine Kp.drewN ?_ _ | refine Kp.alloc ?_ _ | refine Kp.setCell ?_ (by first | (simp; done) | (simp; omega) | (dsimp only; omega)) _ | refine Kp.trans ?_ (by assumption))))))); (try go_wp2_with fail); refine hK.out _ _ ?_ (fun hHeld => ?_); (· ((try dsimp only); (first | (refine keep8 HNC7.out HJC7.out (gb_kp ?_ (some bm)) hn1 hn2; ((repeat (with_reducible first | exact Kp.refl _ | assumption | refine Kp.drew ?_ | refine Kp.drewN ?_ _ | refine Kp.alloc ?_ _ | refine Kp.setCell ?_ (by first | (simp; done) | (simp; omega) | (dsimp only; omega)) _ | refine Kp.trans ?_ (by assumption)))); done) | exact keep8 HNC7.out HJC7.out (World.grownBy.trans (gb_kp hk8 (some bm)) hg9) hn1 hn2))); clear hK K; (try simp only [Act.put, List.setIfInBounds_toArray, List.set_cons_zero, List.set_cons_succ]); refine wpAnyH_ready (rs := [8]) (by kernel_rfl) (by simp) ?_; refine AllReadyH.cons (o := { dst := some 82, op := Op.call { callee := Callee.builtin Builtin.append, args := #[Operand.tmp 79, Operand.tmp 81], argTypes := #[32, 32] }, type := 32, pos := "l11_jug.go:88", after := #[{ on := 5, ground := Ground.data }, { on := 7, ground := Ground.data }, { on := 5, ground := Ground.chain }], guard := none }) rfl (fun K hK => ?_) (AllReadyH.nil); (· (rw [if_pos (by rfl)]; (refine wp_append_any _ (.tmp 79) (.tmp 81) _ rfl W7.heap.size 3 j0 _ 1 8 Try.underlying32 hj hy0 hy1 hy2 rfl (by omega) v6 l.length (l.map (.int .i64)) rfl (by first | exact HOW6.out | exact World.ownsRow.alloc HOW6.out _) _ (some ⟨_, 0, none⟩) 1 1 [.int .i64 (act : Int)] rfl (by first | exact reads_one _ _ _ | exact reads_one_kp (by (repeat (with_reducible first | exact Kp.refl _ | assumption | refine Kp.drew ?_ | refine Kp.drewN ?_ _ | refine Kp.alloc ?_ _ | refine Kp.setCell ?_ (by first | (simp; done) | (simp; omega) | (dsimp only; omega)) _ | refine Kp.trans ?_ (by assumption))))) (oneCell_one _) (by simp only [maxLen]; omega) (by omega) (Kp.size (w := W7) (by (repeat (with_reducible first | exact Kp.refl _ | assumption | refine Kp.drew ?_ | refine Kp.drewN ?_ _ | refine Kp.alloc ?_ _ | refine Kp.setCell ?_ (by first | (simp; done) | (simp; omega) | (dsimp only; omega)) _ | refine Kp.trans ?_ (by assumption))))) ?_; intro v8 w8 hown8 hg8 hat8; have HO8 := Lib.hid (show OwI W7.heap.size w8 v8 (l ++ [(act : Int)]) by unfold OwI; rw [List.length_append, List.map_append]; exact hown8); have hk8 : Kp W7 w8 := Kp.grown (by (repeat (with_reducible first | exact Kp.refl _ | assumption | refine Kp.drew ?_ | refine Kp.drewN ?_ _ | refine Kp.alloc ?_ _ | refine Kp.setCell ?_ (by first | (simp; done) | (simp; omega) | (dsimp only; omega)) _ | refine Kp.trans ?_ (by assumption)))) hg8 (fun k e => (OwI.lt HOW6.out k e).1); clear hown8 hat8); refine hK.out _ _ ?_ (fun hHeld => ?_); (· ((try dsimp only); (first | (refine keep8 HNC7.out HJC7.out (gb_kp ?_ (some bm)) hn1 hn2; ((repeat (with_reducible first | exact Kp.refl _ | assumption | refine Kp.drew ?_ | refine Kp.drewN ?_ _ | refine Kp.alloc ?_ _ | refine Kp.setCell ?_ (by first | (simp; done) | (simp; omega) | (dsimp only; omega)) _ | refine Kp.trans ?_ (by assumption)))); done) | exact keep8 HNC7.out HJC7.out (World.grownBy.trans (gb_kp hk8 (some bm)) hg9) hn1 hn2))); clear hK K; (try simp only [Act.put, List.setIfInBounds_toArray, List.set_cons_zero, List.set_cons_succ]); refine wpAnyH_ready (rs := [9]) (by kernel_rfl) (by simp) ?_; refine AllReadyH.cons (o := { dst := none, op := Op.mapUpdate 46 (Operand.tmp 74) (Operand.tmp 75) (Operand.tmp 82), type := 0, pos := "l11_jug.go:88", after := #[{ on := 0, ground := Ground.data }, { on := 1, ground := Ground.data }, { on := 8, ground := Ground.data }, { on := 8, ground := Ground.chain }, { on := 0, ground := Ground.phase }, { on := 1, ground := Ground.phase }, { on := 2, ground := Ground.phase }, { on := 3, ground := Ground.phase }, { on := 4, ground := Ground.phase }, { on := 5, ground := Ground.phase }, { on := 6, ground := Ground.phase }, { on := 7, ground := Ground.phase }, { on := 8, ground := Ground.phase }], guard := none }) rfl (fun K hK => ?_) (AllReadyH.nil); (· (rw [if_pos (by rfl)]; (obtain ⟨g8, cap8, hv8, hg8a, hg8b⟩ := OwI.form HO8.out (by simp); obtain ⟨w9, hrun9, hown9, hg9, hsh9⟩ := groups_store (w0 := W7) (w := w8) (t := 46) (v' := v8) (zs' := l ++ [(act : Int)]) lawM Try.underlying46 (zeroL _) HKD.out HGR7.out.1 (by unfold maxLen; omega) HNOK.out HGR7.out.2 (fun g e e2 => by rw [hv8] at e; have e := Option.some.inj (show some g8 = some g from e); obtain ⟨g', e3, _, h3⟩ := HQ7.out.lt; have e2 : some g' = some g := e3.symm.trans e2; have e2 := Option.some.inj e2; omega) (gb_kp hk8 none) ⟨OwI.weak HO8.out hbW7, HWF.out⟩ (by rw [List.length_append, List.length_singleton]; omega) (.inr ⟨g8, by rw [hv8]; rfl, hg8a⟩); rw [show rowDatum (H := Unit) .i64 v8 (l ++ [(act : Int)]) = rowv (l ++ [(act : Int)]) from by rw [rowv, if_neg (by simp)]; exact World.ownsInts.datum_pos (w := w8) (base := bm + 1) (e := 3) ⟨OwI.weak HO8.out hbW7, HWF.out⟩ (by simp)] at hown9; have HGR9 := Lib.hid (And.intro hown9 hsh9); have HQ9 := Lib.hid ((HQ7.out.kept (gb_kp hk8 none) (by obtain ⟨g', e, _⟩ := HQ7.out.lt; rw [e]; simp)).kept hg9 HQB.out); have HJC9 := Lib.hid ((HJC7.out.gb (gb_kp hk8 none) (by simp)).gb hg9 (by intro e; injection e with e; omega)); have HNC9 := Lib.hid ((HNC7.out.gb (gb_kp hk8 none) (by simp)).gb hg9 (by intro e; injection e with e; omega)); have HKP9 := Lib.hid ((HKP7.out.trans hk8).grown hg9 (fun k e => by cases e; omega)); have hz9 : W7.heap.size ≤ w9.heap.size := Nat.le_trans hk8.size hg9.size; clear hown9 hsh9; refine wp_mapUpdate_eq _ _ _ _ 46 rfl rfl rfl rfl hrun9 ?_); refine hK.out _ _ ?_ (fun hHeld => ?_); (· ((try dsimp only); (first | (refine keep8 HNC7.out HJC7.out (gb_kp ?_ (some bm)) hn1 hn2; ((repeat (with_reducible first | exact Kp.refl _ | assumption | refine Kp.drew ?_ | refine Kp.drewN ?_ _ | refine Kp.alloc ?_ _ | refine Kp.setCell ?_ (by first | (simp; done) | (simp; omega) | (dsimp only; omega)) _ | refine Kp.trans ?_ (by assumption)))); done) | exact keep8 HNC7.out HJC7.out (World.grownBy.trans (gb_kp hk8 (some bm)) hg9) hn1 hn2))); clear hK K; (try simp only [Act.put, List.setIfInBounds_toArray, List.set_cons_zero, List.set_cons_succ]); (refine wpAnyH_done (by kernel_rfl) ?_ _); ((obtain ⟨m0, m1, m2, m3⟩ := HNC9.out); (try clear hk8 hg9 hg8 hrun9 hk6 ho6); (go_wp2_with (at_builtin; refine wpList_append_q _ rfl _ _ 47 rfl w2.heap.size 25 i0 _ 4 32 Try.underlying47 hi hz0 hz1 hz2 rfl u10 Q'.length (cVs f s Q') rfl (HQ9.out.kept (World.grownBy_alloc _ _ none) (by obtain ⟨g', e, _⟩ := HQ9.out.lt; rw [e]; simp)) ⟨w9.heap.size, 0, none⟩ 1 1 (cV f s d) rfl rfl (cv_cells w9 f s d) (cv_one f s d) (by unfold maxLen; omega) (by omega) (by simp; omega) ?_; intro v' w11 hqq hgg hvv; have HQQ := Lib.hid hqq; have HGG := Lib.hid hgg; have HVV := Lib.hid hvv; clear hqq hgg hvv)); go_roundw; (case rel => exact HEND.out v' w9 w11 HGR9.out.1 HGR9.out.2 HQQ.out HGG.out HVV.out HJC9.out HKP9.out); (case measure => simp [intOf]; omega)))))))))))))
              · obtain rfl : act = 7 := by omega
                have HBD := Lib.hid (Bk.done HBK.out)
                have he : (D ++ [(c, l)]) ++ Q' = D ++ (c, l) :: Q' := by simp
                go_wp2_with fail
                go_roundg (2 * unS ((D ++ (c, l) :: Q').map Prod.fst) 441 + Q'.length)
                case measure => omega
                case rel => exact ⟨D ++ [(c, l)], Q', by rw [he]; omega, by rw [he]; exact hk2, HBD.out, HQ.out, by rw [he]; exact HGR.out.1, HGR.out.2, HKP2.out⟩)
  · have hin2 : fewIn f s goal = false := by simpa using hin
    have HE := Lib.hid (HNO.out hin2)
    rw [HFI.out] at hin2
    obtain ⟨T, hT⟩ : ∃ T, T = few f s goal := ⟨_, rfl⟩
    obtain ⟨B, hB⟩ : ∃ B, B = fewOk f s goal := ⟨_, rfl⟩
    rw [← hT, ← hB]
    have HT := Lib.hid hT
    have HB := Lib.hid hB
    have HI := Lib.hid hin2
    clear hin hin2 hT hB HNO HFI
    go_enter Try.func20, Try.ntmps20
    go_wp2_with fail
    refine (implJugsOk_any f s 0 0 _).mono ?_
    obtain ⟨q, hq⟩ : ∃ q, q = jugsB f s 0 0 := ⟨_, rfl⟩
    rw [← hq]
    have HQ := Lib.hid hq
    clear hq
    rintro e w1 ⟨rfl, hk1⟩
    have HK1 := Lib.hid (HK0.out.trans hk1)
    clear hk1
    cases q with
    | false =>
      go_wp2_with fail
      go_ret2
      exact ⟨_, by rw [HB.out, HE.out.2] <;> rfl, by rw [HT.out, HE.out.1]; exact World.ownsRow_nil _ _ _ _, HK1.out⟩
    | true =>
      have H2 := Lib.hid (show inB goal 0 20 = false by have h := HI.out; rw [← HQ.out, Bool.true_and] at h; exact h)
      go_wp2_with (go_at_call 28; refine (in_any _ _ _ _).mono ?_; rintro e w' ⟨rfl, rfl⟩; rw [H2.out])
      go_ret2
      exact ⟨_, by rw [HB.out, HE.out.2] <;> rfl, by rw [HT.out, HE.out.1]; exact World.ownsRow_nil _ _ _ _, HK1.out⟩
end Go.Proofs.Ytgkjckhjmphoaaa
