/- TimesWith: the walk of the program's. -/
import Derived.Test.YtpafcambfmkmiaaGlV
import Derived.Deep.LoopGhost
import Derived.Deep.DeepMust
set_option linter.unusedVariables false
namespace Go.Proofs.Ytpafcambfmkmiaa
open Go.RowKit Go.Maps
theorem q_new (B : Nat) (w : World) (f s : Int) (hB : B ≤ w.heap.size) : ownsQ (w.alloc (.cells #[.int .i64 f, .int .i64 s, .int .i64 0, .int .i64 0, .int .i64 0] 45)) B 45 5 (.slice (some ⟨w.heap.size, 0, none⟩) 1 1) 1 (cVs f s [0]) :=
  ⟨rfl, w.heap.size, 0, 1, _, rfl, hB, heap_alloc_new w _, Nat.le_refl _, by unfold maxLen; omega, by simp, by simp [cVs, cV, uc, vc, tc]⟩
def AtC (w : World) (a : Nat) (f s : Int) (p : Nat) : Prop :=
  w.cell? ⟨a, 0, none⟩ = some (.int .i64 f) ∧ w.cell? ⟨a, 1, none⟩ = some (.int .i64 s) ∧ w.cell? ⟨a, 2, none⟩ = some (.int .i64 ((uc p : Nat) : Int)) ∧ w.cell? ⟨a, 3, none⟩ = some (.int .i64 ((vc p : Nat) : Int)) ∧ w.cell? ⟨a, 4, none⟩ = some (.int .i64 ((tc p : Nat) : Int))
theorem AtC.kept {w w' : World} {a : Nat} {f s : Int} {p : Nat} {r : Option Nat} (h : AtC w a f s p) (hg : w.grownBy w' r) (hne : some a ≠ r) : AtC w' a f s p :=
  ⟨cell_gb hg hne h.1, cell_gb hg hne h.2.1, cell_gb hg hne h.2.2.1, cell_gb hg hne h.2.2.2.1, cell_gb hg hne h.2.2.2.2⟩
theorem atc_new (w : World) (f s : Int) (p : Nat) : AtC (w.alloc (.cells #[.int .i64 f, .int .i64 s, .int .i64 ((uc p : Nat) : Int), .int .i64 ((vc p : Nat) : Int), .int .i64 ((tc p : Nat) : Int)] 45)) w.heap.size f s p :=
  ⟨by simp [go_sem], by simp [go_sem], by simp [go_sem], by simp [go_sem], by simp [go_sem]⟩
theorem cv_cells (w : World) (f s : Int) (d : Nat) : ∀ j u, (cV f s d)[j]? = some u → (w.alloc (.cells #[.int .i64 f, .int .i64 s, .int .i64 ((uc d : Nat) : Int), .int .i64 ((vc d : Nat) : Int), .int .i64 ((tc d : Nat) : Int)] 45)).cell? ((⟨w.heap.size, 0, none⟩ : Addr).add j) = some u := by
  intro j u h
  have hadd : ∀ j, (⟨w.heap.size, 0, none⟩ : Addr).add j = ⟨w.heap.size, 0 + j, none⟩ := fun j => by unfold Addr.add; split <;> simp_all
  rw [hadd]
  exact cells_at (w := w.alloc _) (heap_alloc_new w _) (m := 5) (xs := cV f s d) rfl j u h
theorem cv_one (f s : Int) (d : Nat) : ∀ u ∈ cV f s d, u.oneCell' = true := by
  intro u hu
  simp only [cV, List.mem_cons, List.mem_nil_iff, or_false] at hu
  rcases hu with rfl | rfl | rfl | rfl | rfl <;> rfl
theorem cVs_snoc (f s : Int) (Q : List Nat) (d : Nat) : cVs f s (Q ++ [d]) = cVs f s Q ++ cV f s d := by simp [cVs]
theorem unS_pos {S : List Nat} {d : Nat} (hd : d ∉ S) : ∀ m, d < m → 1 ≤ unS S m := fun m => by
  induction m with
  | zero => intro h; omega
  | succ m ih =>
    intro h
    rw [unS]
    by_cases e : d = m
    · subst e; rw [if_neg hd]; omega
    · have := ih (by omega); omega
set_option maxRecDepth 100000 in
set_option maxHeartbeats 12800000 in
theorem iTimes_any (f s m : Int) (w : World) :
    Calls Try.prog 18 #[.int .i64 f, .int .i64 s, .int .i64 m] w fun e w' => ∃ v, e = .returned v ∧ OwI w.heap.size w' v (timM f s m) ∧ Kp w w' := by
  by_cases hok : (inB f 1 12 && inB s 1 12 && inB m 1 60) = true
  · obtain ⟨h12, h3⟩ := Bool.and_eq_true_iff.1 hok
    obtain ⟨h1, h2⟩ := Bool.and_eq_true_iff.1 h12
    have hf := inB_true.1 h1
    have hs := inB_true.1 h2
    have hm := inB_true.1 h3
    obtain ⟨M, rfl⟩ : ∃ M : Nat, m = (M : Int) := ⟨m.toNat, by omega⟩
    have HTM := Lib.hid (show timM f s (M : Int) = tmL f s M (M + 1) by rw [timM, if_pos hok]; rfl)
    have H1 := Lib.hid h1
    have H2 := Lib.hid h2
    have H3 := Lib.hid h3
    clear hok h12 h3 h1 h2
    obtain ⟨i0, hi, hz0, hz1, hz2⟩ := info_parts moment_info
    obtain ⟨j0, hj, hy0, hy1, hy2⟩ := info_parts int_info
    have hmm := @run_makeMap Try.prog
    have HK0 := Lib.hid (((Kp.refl w).alloc (.cells #[.int .i64 f, .int .i64 s, .int .i64 0, .int .i64 0, .int .i64 0] 45)).alloc (.map #[] 0))
    have e1 : (w.alloc (.cells #[.int .i64 f, .int .i64 s, .int .i64 0, .int .i64 0, .int .i64 0] 45)).heap.size = w.heap.size + 1 := by simp
    have HM0 := Lib.hid (show ((w.alloc (.cells #[.int .i64 f, .int .i64 s, .int .i64 0, .int .i64 0, .int .i64 0] 45)).alloc (.map #[] 0)).ownsMap Try.prog 45 (plainElem (H := Unit) Try.prog 3) (w.heap.size + 1) 0 (.map []) by
      have h := World.ownsMap_made (w.alloc (.cells #[.int .i64 f, .int .i64 s, .int .i64 0, .int .i64 0, .int .i64 0] 45)) Try.prog 45 (plainElem (H := Unit) Try.prog 3)
      rw [e1] at h
      exact h)
    have HKY := Lib.hid (ckey_of (c := 0) hf hs (by unfold tc; omega))
    have hc0 : ((w.alloc (.cells #[.int .i64 f, .int .i64 s, .int .i64 0, .int .i64 0, .int .i64 0] 45)).alloc (.map #[] 0)).heap.size = w.heap.size + 2 := by simp
    have HC0 := Lib.hid hc0
    clear hc0
    go_enter Try.func18, Try.ntmps18
    go_wp2_with (first
      | (go_at_call 29; refine (in_any _ _ _ _).mono ?_; rintro e w' ⟨rfl, rfl⟩; first | rw [H1.out] | rw [H2.out] | rw [H3.out])
      | (refine wpList_insert_own _ rfl _ _ _ 46 rfl 45 3 lawM Try.underlying46 _ (w.heap.size + 1) 0 _ rfl HM0.out (by unfold maxLen; omega) _ _ _ rfl rfl HKY.out _ [] (plainElem_int Try.underlying3 (WalkArith.wf_i64 (by omega))) ?_; intro w2 hown2 hg2; have HS2 := Lib.hid hown2; have HG2 := Lib.hid hg2; have s0 : w2.cell? ⟨w.heap.size, 0, none⟩ = some (.int .i64 f) := cell_gb hg2 (by simp) (by simp [go_sem]); have s1 : w2.cell? ⟨w.heap.size, 1, none⟩ = some (.int .i64 s) := cell_gb hg2 (by simp) (by simp [go_sem]); have s2 : w2.cell? ⟨w.heap.size, 2, none⟩ = some (.int .i64 0) := cell_gb hg2 (by simp) (by simp [go_sem]); have s3 : w2.cell? ⟨w.heap.size, 3, none⟩ = some (.int .i64 0) := cell_gb hg2 (by simp) (by simp [go_sem]); have s4 : w2.cell? ⟨w.heap.size, 4, none⟩ = some (.int .i64 0) := cell_gb hg2 (by simp) (by simp [go_sem]); clear hown2 hg2))
    have hsz2 : w.heap.size + 2 ≤ w2.heap.size := by have := HG2.out.size; rw [HC0.out] at this; exact this
    have HK2 := Lib.hid (HK0.out.grown HG2.out (by intro k e; cases e; omega))
    have e3 : (w2.alloc (.cells #[.int .i64 f, .int .i64 s, .int .i64 0, .int .i64 0, .int .i64 0] 45)).heap.size = w2.heap.size + 1 := by simp
    have HQ0 := Lib.hid (q_new (w2.heap.size) w2 f s (Nat.le_refl _))
    have HT0 := Lib.hid (show ((w2.alloc (.cells #[.int .i64 f, .int .i64 s, .int .i64 0, .int .i64 0, .int .i64 0] 45)).alloc (.map #[] 0)).ownsMap Try.prog 3 (plainElem (H := Unit) Try.prog 3) (w2.heap.size + 1) 0 (.map []) by
      have h := World.ownsMap_made (w2.alloc (.cells #[.int .i64 f, .int .i64 s, .int .i64 0, .int .i64 0, .int .i64 0] 45)) Try.prog 3 (plainElem (H := Unit) Try.prog 3)
      rw [e3] at h
      exact h)
    have hkA : Kp w2 ((w2.alloc (.cells #[.int .i64 f, .int .i64 s, .int .i64 0, .int .i64 0, .int .i64 0] 45)).alloc (.map #[] 0)) := ((Kp.refl _).alloc _).alloc _
    have HQ1 := Lib.hid (HQ0.out.kept (World.grownBy_alloc (w2.alloc (.cells #[.int .i64 f, .int .i64 s, .int .i64 0, .int .i64 0, .int .i64 0] 45)) (.map #[] 0) none) (by simp [Value.ownBlock]))
    have HS3 := Lib.hid ((HS2.out.alloc (.cells #[.int .i64 f, .int .i64 s, .int .i64 0, .int .i64 0, .int .i64 0] 45)).alloc (.map #[] 0))
    have HK3 := Lib.hid (HK2.out.trans hkA)
    have hsz3 : ((w2.alloc (.cells #[.int .i64 f, .int .i64 s, .int .i64 0, .int .i64 0, .int .i64 0] 45)).alloc (.map #[] 0)).heap.size = w2.heap.size + 2 := by simp
    obtain ⟨W, hW⟩ : ∃ W, W = (w2.alloc (.cells #[.int .i64 f, .int .i64 s, .int .i64 0, .int .i64 0, .int .i64 0] 45)).alloc (.map #[] 0) := ⟨_, rfl⟩
    rw [← hW] at HT0 HQ1 HS3 HK3 hsz3 ⊢
    obtain ⟨bs, hbs⟩ : ∃ b, b = w.heap.size + 1 := ⟨_, rfl⟩
    obtain ⟨bt, hbt⟩ : ∃ b, b = w2.heap.size + 1 := ⟨_, rfl⟩
    rw [← hbs] at HS3 ⊢
    rw [← hbt] at HT0 ⊢
    have hbb : w.heap.size < bs ∧ bs < w2.heap.size ∧ w2.heap.size < bt := by omega
    obtain ⟨U, hU⟩ : ∃ U, U = (M + 1) * 169 := ⟨_, rfl⟩
    have HU := Lib.hid hU
    clear hkA hW hbs hbt hU s0 s1 s2 s3 s4 e1 e3 HM0 HK0 HC0 HKY HS2 HG2 HQ0
    go_loopg [9] (2 * U + 1) (fun k v wr => ∃ S Q T : List Nat, 2 * unS S U + Q.length ≤ k ∧ S.length + unS S U ≤ U + 1 ∧ (T.length ≤ S.length ∧ Q.length ≤ S.length) ∧ Bf f s M S Q T ∧ ownsQ wr w2.heap.size 45 5 v Q.length (cVs f s Q) ∧ v.ownBlock ≠ some bt ∧ wr.ownsMap Try.prog 45 (plainElem (H := Unit) Try.prog 3) bs S.length (DS f s S) ∧ wr.ownsMap Try.prog 3 (plainElem (H := Unit) Try.prog 3) bt T.length (DT T) ∧ Kp w wr)
    case atStart => exact ⟨[0], [0], [], by have := unS_le [0] U; simp; omega, by have := unS_le [0] U; simp; omega, ⟨by simp, by simp⟩, bf_start f s M, HQ1.out, (by intro e; simp [Value.ownBlock] at e; omega), HS3.out, HT0.out, HK3.out⟩
    case round =>
      obtain ⟨S, Q, T, hk, hcn, hTl, hbf, hq, hqb, hms, hmt, hkp⟩ := hrel
      have HBF := Lib.hid hbf
      have HQ := Lib.hid hq
      have HMS := Lib.hid hms
      have HMT := Lib.hid hmt
      have HKP := Lib.hid hkp
      have hU1 := unS_le S U
      have hU2 : U ≤ 10309 := by rw [HU.out]; omega
      cases Q with
      | nil =>
        obtain ⟨wo, hwo⟩ : ∃ wo, wo = wr := ⟨_, rfl⟩
        subst hwo
        have hbt := hmt.lt
        have hTl1 : T.length ≤ 10310 := by have := hTl.1; omega
        have HSZ := Lib.hid hmt.size_le
        have HTT := Lib.hid hbf.times
        have hwz : w2.heap.size ≤ wo.heap.size := by obtain ⟨g', _, h1, h2⟩ := hq.lt; omega
        obtain ⟨_, g, o, cap, cur, rfl, _, _, _, _, _, _⟩ := id hq
        rw [show ([] : List Nat).length = 0 from rfl]
        clear hq hqb hms hmt hkp hbf HBF HQ HMS
        go_wp2_with (first
          | (at_range; go_must (refine wpList_range_own _ rfl _ 48 rfl 3 3 law3 Try.underlying48 (plainElem (H := Unit) Try.prog 3) bt T.length _ rfl HMT.out ?_); intro w0 hrg0 hg0 hs0))
        go_frame
        have HRG0 := Lib.hid hrg0
        have HK0 := Lib.hid (HKP.out.grown hg0 (by simp))
        have hwo := HKP.out.size
        clear hrg0 hg0 HMT HKP
        go_loopw [16] (fun v wr => ∃ (left : Lit → Bool) (cnt : Nat) (Ls : List Int), wr.ranges Try.prog 3 (plainElem (H := Unit) Try.prog 3) bt wo.heap.size T.length (DT T) left cnt ∧ GI T left Ls ∧ Ls.length + cnt ≤ T.length ∧ OwI (wo.heap.size + 1) wr v Ls ∧ Kp w wr) (fun _ wr => wr.rangeLeft bt wo.heap.size)
        case atStart => exact ⟨_, _, [], HRG0.out, gi_start T, by have := HSZ.out; simpa using this, World.ownsRow_nil _ _ _ _, HK0.out⟩
        case round =>
          obtain ⟨left, cnt, Ls, hrg, hgi, hcn', hov, hkp⟩ := hrel
          have hzr := hrg.lt
          go_wp2_with (first
            | (at_next; refine wpList_next_ranges_ii _ rfl _ rfl 3 3 .i64 .i64 law3 Try.underlying3 Try.underlying3 bt wo.heap.size T.length _ _ _ rfl hrg ?_ ?_))
          · intro hc0 hl0
            have HDN := Lib.hid (hgi.done hl0 HTT.out)
            have HOV := Lib.hid hov
            have HKP2 := Lib.hid hkp
            clear hgi hl0 hov hkp hrg
            go_wp2_with fail
            refine (sortG_any _ _ _ Ls HOV.out (by omega)).mono ?_
            rintro e w5 ⟨rfl, ho5, hg5⟩
            have HO5 := Lib.hid (ho5.weak (B' := w.heap.size) (by omega))
            have HK5 := Lib.hid (HKP2.out.grown hg5 (fun k' e => by have := (OwI.lt HOV.out k' e).1; omega))
            clear hg5 ho5
            go_wp2_with fail
            go_ret
            exact ⟨_, rfl, by rw [HTM.out, HDN.out]; exact HO5.out, HK5.out⟩
          · intro x c0 w5 cnt1 hwx hwc hlx hat hrg1 hlt1 hg1 hs5 hen
            have hth : ∃ t ∈ T, (t : Int) = x := by
              have := has_true_of_atKey (D := DT T) (k := ikey x) hat
              rw [dt_has] at this
              exact of_decide_eq_true this
            have hlf : left (ikey x) = true := hlx
            have HGI := Lib.hid (hgi.step hlf hth)
            have HOV := Lib.hid (hov.far hg1 (.inr (fun e => by have := (OwI.lt hov _ e).1; omega)))
            have HKP2 := Lib.hid (hkp.grown hg1 (by intro k' e; cases e; omega))
            have HRG := Lib.hid hrg1
            have HLE := Lib.hid hrg.left_eq
            have hz5 : wo.heap.size + 1 ≤ w5.heap.size := by omega
            clear hth hwx hwc hlf hlx hat hrg1 hg1 hs5 hov hkp hgi hrg hzr
            obtain ⟨Av, cv, rfl, hrd⟩ := HOV.out.rd
            have HOW5 := Lib.hid (show w5.ownsRow (wo.heap.size + 1) 3 1 (.slice Av Ls.length cv) Ls.length (Ls.map (.int .i64)) from HOV.out)
            clear hrd
            go_wp2_with (at_builtin; go_must (refine wpList_append_any _ rfl (.tmp 96) (.tmp 98) _ rfl (wo.heap.size + 1) 3 j0 _ 1 8 Try.underlying33 hj hy0 hy1 hy2 rfl (by omega) (.slice Av Ls.length cv) Ls.length (Ls.map (.int .i64)) rfl (HOW5.out.alloc _) (w5.heap.size + 1) (some ⟨w5.heap.size, 0, none⟩) 1 1 [.int .i64 x] rfl (reads_one _ _ _) (oneCell_one _) (by simp only [maxLen]; omega) (by omega) (by simp; omega) ?_); intro v6 w6 hown6 hg6 hat6; have HO6 := Lib.hid (show OwI (wo.heap.size + 1) w6 v6 (Ls ++ [x]) by unfold OwI; rw [List.length_append, List.map_append]; exact hown6); have HG6 := Lib.hid hg6; clear hown6 hg6 hat6)
            have hm6 : ∀ m, m < wo.heap.size + 1 → some m ≠ (Value.slice Av Ls.length cv).ownBlock := fun m hm e => by have h := (OwI.lt HOV.out m e.symm).1; omega
            have hrg6 := (HRG.out.alloc (.cells #[.int .i64 x] 3)).kept HG6.out (hm6 _ (by omega)) (hm6 _ (by omega))
            have hk6 := (HKP2.out.alloc (.cells #[.int .i64 x] 3)).grown HG6.out (fun m e => by have h := (OwI.lt HOV.out m e).1; omega)
            go_roundw
            case rel => exact ⟨_, cnt1, _, hrg6, HGI.out, by simp; omega, HO6.out, hk6⟩
            case measure => rw [hrg6.left_eq, HLE.out]; exact hlt1
      | cons p Q =>
        have hpS := hbf.sub p (by simp)
        have hre := hbf.re p hpS
        have htc := hre.le
        have hokp := hre.ok hf hs
        obtain ⟨_, g, o, cap, cur, rfl, hbg, hbl, _, _, _, _⟩ := id hq
        have hgl : g < wr.heap.size := (Array.getElem?_eq_some_iff.1 hbl).1
        have hcs := hq.cells
        have q0 : wr.cell? ⟨g, o, none⟩ = some (.int .i64 f) := hcs 0 _ rfl
        have q1 : wr.cell? ⟨g, o + 1, none⟩ = some (.int .i64 s) := hcs 1 _ rfl
        have q2 : wr.cell? ⟨g, o + 2, none⟩ = some (.int .i64 ((uc p : Nat) : Int)) := hcs 2 _ rfl
        have q3 : wr.cell? ⟨g, o + 3, none⟩ = some (.int .i64 ((vc p : Nat) : Int)) := hcs 3 _ rfl
        have q4 : wr.cell? ⟨g, o + 4, none⟩ = some (.int .i64 ((tc p : Nat) : Int)) := hcs 4 _ rfl
        have HPOP := Lib.hid hbf.pop
        have HOKP := Lib.hid hokp
        have HHC := Lib.hid hqb
        obtain ⟨n, hn⟩ : ∃ n, n = Q.length := ⟨_, rfl⟩
        have hk' : 2 * unS S U + (n + 1) ≤ gk := by rw [hn]; exact hk
        have hl1 : (p :: Q).length = n + 1 := by rw [hn]; rfl
        have HFA := Lib.hid (show cap = 1 → ownsQ wr w2.heap.size 45 5 (.slice (some ⟨g, o, none⟩) n 0) n (cVs f s Q) by intro h; subst h; rw [hn]; exact ownsQ.front0 (xs := cV f s p) hq rfl)
        have HFB := Lib.hid (show ownsQ wr w2.heap.size 45 5 (.slice (some ⟨g, o + 5, none⟩) n (cap - 1)) n (cVs f s Q) by rw [hn]; exact ownsQ.front (xs := cV f s p) hq rfl)
        have hTl' : n ≤ S.length := by have := hTl.2; rw [hl1] at this; omega
        have hcap : n + 1 ≤ cap := by obtain ⟨_, g', o', cap', cur', e, _, _, h, _⟩ := id hq; injection e with e1 e2 e3; rw [e3, hn]; exact h
        rw [hl1]
        have HN := Lib.hid hn
        have hn0 : (0 : Int) < (n : Int) + 1 := by omega
        have hgt : g ≠ bt := fun e => HHC.out (by rw [e]; rfl)
        clear hq HQ hbf hms hmt hkp hcs hbl hpS hre hqb hk hl1 hn
        obtain ⟨wo, hwo⟩ : ∃ wo, wo = wr := ⟨_, rfl⟩
        subst hwo
        have HAT := Lib.hid (atc_new wo f s p)
        have hal : wo.grownBy (wo.alloc (.cells #[.int .i64 f, .int .i64 s, .int .i64 ((uc p : Nat) : Int), .int .i64 ((vc p : Nat) : Int), .int .i64 ((tc p : Nat) : Int)] 45)) none := World.grownBy_alloc _ _ none
        have HMS1 := Lib.hid (HMS.out.alloc (.cells #[.int .i64 f, .int .i64 s, .int .i64 ((uc p : Nat) : Int), .int .i64 ((vc p : Nat) : Int), .int .i64 ((tc p : Nat) : Int)] 45))
        have HMT1 := Lib.hid (HMT.out.alloc (.cells #[.int .i64 f, .int .i64 s, .int .i64 ((uc p : Nat) : Int), .int .i64 ((vc p : Nat) : Int), .int .i64 ((tc p : Nat) : Int)] 45))
        have HKP1 := Lib.hid (HKP.out.alloc (.cells #[.int .i64 f, .int .i64 s, .int .i64 ((uc p : Nat) : Int), .int .i64 ((vc p : Nat) : Int), .int .i64 ((tc p : Nat) : Int)] 45))
        have HAL := Lib.hid hal
        clear hal
        go_wp2_with fail
        all_goals (
          go_loopw [9, 12] (fun v i wr => ∃ j : Nat, j ≤ 4 ∧ i = .int .i64 (j : Int) ∧ ∃ S' Q' T' : List Nat, 2 * unS S' U + Q'.length + 1 ≤ gk ∧ S'.length + unS S' U ≤ U + 1 ∧ (T'.length ≤ S'.length ∧ Q'.length ≤ S'.length) ∧ Bw f s M p j S' Q' T' ∧ ownsQ wr w2.heap.size 45 5 v Q'.length (cVs f s Q') ∧ v.ownBlock ≠ some bt ∧ v.ownBlock ≠ some wo.heap.size ∧ wr.ownsMap Try.prog 45 (plainElem (H := Unit) Try.prog 3) bs S'.length (DS f s S') ∧ wr.ownsMap Try.prog 3 (plainElem (H := Unit) Try.prog 3) bt T'.length (DT T') ∧ AtC wr wo.heap.size f s p ∧ Kp w wr) (fun _ i _ => 4 - (intOf i).toNat)
          case atStart =>
            refine ⟨0, by omega, rfl, S, Q, T, by rw [← HN.out]; omega, hcn, ⟨hTl.1, by rw [← HN.out]; exact hTl'⟩, HPOP.out, ?_, ?_, ?_, HMS1.out, HMT1.out, HAT.out, HKP1.out⟩
            · first | (rw [← HN.out]; exact HFB.out.kept HAL.out (by simp [Value.ownBlock])) | (rw [← HN.out]; exact (HFA.out h).kept HAL.out (by simp [Value.ownBlock]))
            · simpa [Value.ownBlock] using hgt
            · simp [Value.ownBlock]; omega
          case round =>
            obtain ⟨j, hj, rfl, S', Q', T', hk1, hk2, hk3, hbw, hq, hq1, hq2, hms, hmt, hat, hkp⟩ := hrel
            by_cases hj4 : j < 4
            · have hj3 : (j : Int) ≤ 3 := by omega
              obtain ⟨c0, c1, c2, c3, c4⟩ := hat
              have HBW := Lib.hid hbw
              have HQ := Lib.hid hq
              have HQ1 := Lib.hid hq1
              have HQ2 := Lib.hid hq2
              have HMS2 := Lib.hid hms
              have HMT2 := Lib.hid hmt
              have HAT2 := Lib.hid (show AtC wr wo.heap.size f s p from ⟨c0, c1, c2, c3, c4⟩)
              have HKP2 := Lib.hid hkp
              clear hbw hq hq1 hq2 hms hmt hkp
              go_wp2_with fail
              refine (implFlip_any f s ((uc p : Nat) : Int) ((vc p : Nat) : Int) (j : Int) _).mono ?_
              rintro e w5 ⟨rfl, hk5⟩
              go_wp2_with fail
              refine (implRunOut_any f s _ _ _).mono ?_
              rw [show gA f s (fA f s ((uc p : Nat) : Int) ((vc p : Nat) : Int) (j : Int)) (fB f s ((uc p : Nat) : Int) ((vc p : Nat) : Int) (j : Int)) = sA f s p j from rfl, show gB f s (fA f s ((uc p : Nat) : Int) ((vc p : Nat) : Int) (j : Int)) (fB f s ((uc p : Nat) : Int) ((vc p : Nat) : Int) (j : Int)) = sB f s p j from rfl, show gT f s (fA f s ((uc p : Nat) : Int) ((vc p : Nat) : Int) (j : Int)) (fB f s ((uc p : Nat) : Int) ((vc p : Nat) : Int) (j : Int)) = sN f s p j from rfl]
              rintro e w6 ⟨rfl, hk6⟩
              have hk56 := hk5.trans hk6
              have HQ6 := Lib.hid (HQ.out.kept (gb_kp hk56 none) (by obtain ⟨g', e, _⟩ := HQ.out.lt; rw [e]; simp))
              have HMS6 := Lib.hid (HMS2.out.kept (gb_kp hk56 none) (by simp))
              have HMT6 := Lib.hid (HMT2.out.kept (gb_kp hk56 none) (by simp))
              have HAT6 := Lib.hid (HAT2.out.kept (gb_kp hk56 none) (by simp))
              have HKP6 := Lib.hid (HKP2.out.trans hk56)
              have hbd := step_bd HOKP.out j
              obtain ⟨N, hN⟩ : ∃ N, N = sN f s p j := ⟨_, rfl⟩
              clear hk5 hk6 hk56 c0 c1 c2 c3 c4
              have c4 := HAT6.out.2.2.2.2
              have g4 : wo.heap.size < w6.heap.size := cell_lt c4
              have HHN := Lib.hid hN
              rw [← hN]
              have wN : IntKind.i64.wrap (((tc p : Nat) : Int) + N) = ((tc p : Nat) : Int) + N := IntWalk.i64_in _ (by rw [← hN] at hbd; omega)
              have HREL := Lib.hid (show ∀ o1 o2 : Obj, ownsQ ((w6.alloc o1).alloc o2) w2.heap.size 45 5 u9 Q'.length (cVs f s Q') ∧ ((w6.alloc o1).alloc o2).ownsMap Try.prog 45 (plainElem (H := Unit) Try.prog 3) bs S'.length (DS f s S') ∧ ((w6.alloc o1).alloc o2).ownsMap Try.prog 3 (plainElem (H := Unit) Try.prog 3) bt T'.length (DT T') ∧ AtC ((w6.alloc o1).alloc o2) wo.heap.size f s p ∧ Kp w ((w6.alloc o1).alloc o2) from
                fun o1 o2 => ⟨HQ6.out.kept (gb_kp (((Kp.refl _).alloc o1).alloc o2) none) (by obtain ⟨g', e, _⟩ := HQ6.out.lt; rw [e]; simp), (HMS6.out.alloc o1).alloc o2, (HMT6.out.alloc o1).alloc o2, HAT6.out.kept (gb_kp (((Kp.refl _).alloc o1).alloc o2) none) (by simp), (HKP6.out.alloc o1).alloc o2⟩)
              by_cases h0 : N = 0
              · --SKIP<
                clear hN
                go_wp2_with fail
                go_roundw
                case rel => exact ⟨j + 1, by omega, by go_num, S', Q', T', hk1, hk2, hk3, HBW.out.skip (fun d hd => by have := hd.1; rw [← HHN.out] at this; omega), (HREL.out _ _).1, HQ1.out, HQ2.out, (HREL.out _ _).2.1, (HREL.out _ _).2.2.1, (HREL.out _ _).2.2.2.1, (HREL.out _ _).2.2.2.2⟩
                case measure => simp [intOf]; omega
                --SKIP>
              · have h0' : 0 < N := by rw [← hN] at hbd; omega
                clear hN
                by_cases h1 : (M : Int) < ((tc p : Nat) : Int) + N
                · --SKIP<
                  go_wp2_with fail
                  go_roundw
                  case rel => exact ⟨j + 1, by omega, by go_num, S', Q', T', hk1, hk2, hk3, HBW.out.skip (fun d hd => by have := hd.2.1; rw [← HHN.out] at this; omega), (HREL.out _ _).1, HQ1.out, HQ2.out, (HREL.out _ _).2.1, (HREL.out _ _).2.2.1, (HREL.out _ _).2.2.2.1, (HREL.out _ _).2.2.2.2⟩
                  case measure => simp [intOf]; omega
                  --SKIP>
                · obtain ⟨d, hd⟩ := nx_ex (M := M) (w := j) HOKP.out (by rw [← HHN.out]; omega)
                  obtain ⟨_, _, d1, d2, d3⟩ := id hd
                  rw [← HHN.out] at d3
                  rw [← d1, ← d2]
                  have hud := uv_bd d
                  have hdt : tc d ≤ 60 := by omega
                  have x2 : ((tc d : Nat) : Int) ≤ (M : Int) := by omega
                  have x3 : ((tc p : Nat) : Int) + N = ((tc d : Nat) : Int) := d3.symm
                  have wD : IntKind.i64.wrap ((tc d : Nat) : Int) = ((tc d : Nat) : Int) := IntWalk.i64_in _ (by omega)
                  have HD := Lib.hid hd
                  have hNb : (N == 0) = false := by simp [h0]
                  have hMb : ¬ M < tc d := by omega
                  have HKY := Lib.hid (ckey_of (c := d) hf hs hdt)
                  have hdk := ds_at hf hs hdt S' (fun c hc => by have := (HBW.out.re c hc).le; omega)
                  obtain ⟨c0, hrun, hat0, _⟩ := World.ownsMap.lookup_int (HREL.out (.cells #[.int .i64 f, .int .i64 s, .int .i64 ((uc d : Nat) : Int), .int .i64 ((vc d : Nat) : Int)] 25) (.cells #[.int .i64 f, .int .i64 s, .int .i64 ((uc d : Nat) : Int), .int .i64 ((vc d : Nat) : Int), .int .i64 ((tc d : Nat) : Int)] 45)).2.1 lawM Try.underlying46 Try.underlying3 (zero3 _) HKY.out
                  have hc0 : c0 = if d ∈ S' then 1 else 0 := by have h := hat0.symm.trans hdk; injection h with h; injection h with _ h
                  clear hdk hat0
                  by_cases hdS : d ∈ S'
                  · --SKIP<
                    rw [if_pos hdS] at hc0
                    subst hc0
                    have HDS := Lib.hid hdS
                    clear hd d1 d2 d3 hbd wN h1 hdS
                    go_wp2_with fail
                    go_roundw
                    case rel => exact ⟨j + 1, by omega, by go_num, S', Q', T', hk1, hk2, hk3, HBW.out.skip (fun d' hd => by rw [nx_fun hd HD.out]; exact HDS.out), (HREL.out _ _).1, HQ1.out, HQ2.out, (HREL.out _ _).2.1, (HREL.out _ _).2.2.1, (HREL.out _ _).2.2.2.1, (HREL.out _ _).2.2.2.2⟩
                    case measure => simp [intOf]; omega
                    --SKIP>
                  · rw [if_neg hdS] at hc0
                    subst hc0
                    have HDS := Lib.hid hdS
                    clear hd d1 d2 d3 hbd wN h1 hdS
                    have hqs : u9.ownBlock ≠ some bs := by obtain ⟨g', e, hge, _⟩ := HQ6.out.lt; rw [e]; intro e2; injection e2 with e2; omega
                    have HQS := Lib.hid hqs
                    have hlS : S'.length ≤ 10310 := by omega
                    have hlQ : Q'.length ≤ 10310 := by omega
                    have HIK := Lib.hid (show keyOf Try.prog 3 (.int .i64 ((tc d : Nat) : Int)) = some (ikey ((tc d : Nat) : Int)) from keyOf_int_mk Try.underlying3 (WalkArith.wf_i64 (by omega)))
                    have hb6 : bs < w6.heap.size ∧ bt < w6.heap.size := ⟨HMS6.out.lt, HMT6.out.lt⟩
                    have hbo : bt < wo.heap.size := HMT.out.lt
                    clear hqs
                    go_wp2_with (first
                      | (at_mapUpdate; refine wpList_mapUpdate_own _ rfl _ _ _ 46 rfl 45 3 lawM Try.underlying46 _ bs S'.length _ rfl (HREL.out _ _).2.1 (by unfold maxLen; omega) _ _ _ rfl rfl HKY.out _ [] (plainElem_int Try.underlying3 (WalkArith.wf_i64 (by omega))) ?_; intro w8 hs8 hg8
                         have HS8 := Lib.hid hs8
                         have HG8 := Lib.hid hg8
                         clear hs8 hg8
                         have n0 : w8.cell? ⟨w6.heap.size + 1, 0, none⟩ = some (.int .i64 f) := cell_gb HG8.out (by intro e; injection e with e; simp at e; omega) (by simp [go_sem])
                         have n1 : w8.cell? ⟨w6.heap.size + 1, 1, none⟩ = some (.int .i64 s) := cell_gb HG8.out (by intro e; injection e with e; simp at e; omega) (by simp [go_sem])
                         have n2 : w8.cell? ⟨w6.heap.size + 1, 2, none⟩ = some (.int .i64 ((uc d : Nat) : Int)) := cell_gb HG8.out (by intro e; injection e with e; simp at e; omega) (by simp [go_sem])
                         have n3 : w8.cell? ⟨w6.heap.size + 1, 3, none⟩ = some (.int .i64 ((vc d : Nat) : Int)) := cell_gb HG8.out (by intro e; injection e with e; simp at e; omega) (by simp [go_sem])
                         have n4 : w8.cell? ⟨w6.heap.size + 1, 4, none⟩ = some (.int .i64 ((tc d : Nat) : Int)) := cell_gb HG8.out (by intro e; injection e with e; simp at e; omega) (by simp [go_sem])
                         have HQ8 := Lib.hid ((HREL.out _ _).1.kept HG8.out HQS.out)
                         have HT8 := Lib.hid ((HREL.out _ _).2.2.1.kept HG8.out (by intro e; injection e with e; omega))
                         have HA8 := Lib.hid ((HREL.out _ _).2.2.2.1.kept HG8.out (by intro e; injection e with e; omega))
                         have HK8 := Lib.hid ((HREL.out _ _).2.2.2.2.grown HG8.out (by intro k e; injection e with e; omega)))
                      | (at_mapUpdate; go_must (refine wpList_mapUpdate_own _ rfl _ _ _ 48 rfl 3 3 law3 Try.underlying48 _ bt T'.length _ rfl HT8.out (by unfold maxLen; omega) _ _ _ rfl rfl HIK.out _ [] (plainElem_int Try.underlying3 (WalkArith.wf_i64 (by omega))) ?_); intro w9 hs9 hg9
                         have HT9 := Lib.hid hs9
                         have HG9 := Lib.hid hg9
                         clear hs9 hg9
                         have hz9 : w8.heap.size ≤ w9.heap.size := HG9.out.size
                         have hz8 : w6.heap.size + 2 ≤ w8.heap.size := by have := HG8.out.size; simpa using this
                         have m0 : w9.cell? ⟨w6.heap.size + 1, 0, none⟩ = some (.int .i64 f) := cell_gb HG9.out (by intro e; injection e with e; simp at e; omega) n0
                         have m1 : w9.cell? ⟨w6.heap.size + 1, 1, none⟩ = some (.int .i64 s) := cell_gb HG9.out (by intro e; injection e with e; simp at e; omega) n1
                         have m2 : w9.cell? ⟨w6.heap.size + 1, 2, none⟩ = some (.int .i64 ((uc d : Nat) : Int)) := cell_gb HG9.out (by intro e; injection e with e; simp at e; omega) n2
                         have m3 : w9.cell? ⟨w6.heap.size + 1, 3, none⟩ = some (.int .i64 ((vc d : Nat) : Int)) := cell_gb HG9.out (by intro e; injection e with e; simp at e; omega) n3
                         have m4 : w9.cell? ⟨w6.heap.size + 1, 4, none⟩ = some (.int .i64 ((tc d : Nat) : Int)) := cell_gb HG9.out (by intro e; injection e with e; simp at e; omega) n4
                         have HQ9 := Lib.hid (HQ8.out.kept HG9.out HQ1.out)
                         have HS9 := Lib.hid (HS8.out.kept HG9.out (by intro e; injection e with e; omega))
                         have HA9 := Lib.hid (HA8.out.kept HG9.out (by intro e; injection e with e; omega))
                         have HK9 := Lib.hid (HK8.out.grown HG9.out (by intro k e; injection e with e; omega)))
                      | (at_builtin; go_must (refine wpList_append_q _ rfl _ _ 47 rfl w2.heap.size 45 i0 _ 5 40 Try.underlying47 hi hz0 hz1 hz2 rfl u9 Q'.length (cVs f s Q') rfl (HQ9.out.kept (World.grownBy_alloc _ _ none) (by obtain ⟨g', e, _⟩ := HQ9.out.lt; rw [e]; simp)) ⟨w9.heap.size, 0, none⟩ 1 1 (cV f s d) rfl rfl (cv_cells w9 f s d) (cv_one f s d) (by unfold maxLen; omega) (by omega) (by simp; omega) ?_); intro v' w11 hqq hgg hvv
                         have HQQ := Lib.hid hqq
                         have HGG := Lib.hid hgg
                         have HVV := Lib.hid hvv
                         clear hqq hgg hvv))
                    go_roundw
                    case rel =>
                      have hdU : d < U := by rw [HU.out]; exact nx_size HD.out
                      have hp := unS_pos HDS.out U hdU
                      have ha := unS_add HDS.out U
                      rw [if_pos hdU] at ha
                      refine ⟨j + 1, by omega, by go_num, d :: S', Q' ++ [d], tc d :: T', ?_, ?_, ?_, HBW.out.add (by omega) HD.out, ?_, ?_, ?_, ?_, ?_, ?_, ?_⟩
                      · rw [ha, List.length_append, List.length_singleton]; omega
                      · rw [ha, List.length_cons]; omega
                      · rw [List.length_append, List.length_cons, List.length_cons, List.length_singleton]; omega
                      · rw [List.length_append, List.length_singleton, cVs_snoc]; exact HQQ.out
                      · rcases HVV.out with e | e
                        · rw [e]; exact HQ1.out
                        · rw [e]; intro e2; injection e2 with e2; simp at e2; omega
                      · rcases HVV.out with e | e
                        · rw [e]; exact HQ2.out
                        · rw [e]; intro e2; injection e2 with e2; simp at e2; omega
                      · exact (HS9.out.alloc _).kept HGG.out (fun e => HQS.out e.symm)
                      · exact (HT9.out.alloc _).kept HGG.out (fun e => HQ1.out e.symm)
                      · exact (HA9.out.kept (World.grownBy_alloc _ _ none) (by simp)).kept HGG.out (fun e => HQ2.out e.symm)
                      · exact (HK9.out.alloc _).grown HGG.out (fun k e => by obtain ⟨g', e2, hge, _⟩ := HQ9.out.lt; rw [e2] at e; injection e with e; omega)
                    case measure => simp [intOf]; omega
            · obtain rfl : j = 4 := by omega
              have HBD := Lib.hid hbw.done
              have HQ := Lib.hid hq
              have HQ1 := Lib.hid hq1
              have HMS2 := Lib.hid hms
              have HMT2 := Lib.hid hmt
              have HKP2 := Lib.hid hkp
              clear hbw hq hq1 hq2 hms hmt hkp hat
              go_wp2_with fail
              go_roundg (2 * unS S' U + Q'.length)
              case measure => omega
              case rel => exact ⟨S', Q', T', by omega, hk2, hk3, HBD.out, HQ.out, HQ1.out, HMS2.out, HMT2.out, HKP2.out⟩)
  · have HM := Lib.hid (show timM f s m = [] by rw [timM, if_neg hok])
    have HN := Lib.hid (rfl : inB f 1 12 = inB f 1 12)
    cases h1 : inB f 1 12 with
    | false =>
      have H1 := Lib.hid h1
      clear hok h1
      go_enter Try.func18, Try.ntmps18
      go_wp2_with (go_at_call 29; refine (in_any _ _ _ _).mono ?_; rintro e w' ⟨rfl, rfl⟩; rw [H1.out])
      go_ret
      exact ⟨_, rfl, by rw [HM.out]; exact World.ownsRow_nil _ _ _ _, Kp.refl _⟩
    | true =>
      cases h2 : inB s 1 12 with
      | false =>
        have H1 := Lib.hid h1
        have H2 := Lib.hid h2
        clear hok h1 h2
        go_enter Try.func18, Try.ntmps18
        go_wp2_with (go_at_call 29; refine (in_any _ _ _ _).mono ?_; rintro e w' ⟨rfl, rfl⟩; first | rw [H1.out] | rw [H2.out])
        go_ret
        exact ⟨_, rfl, by rw [HM.out]; exact World.ownsRow_nil _ _ _ _, Kp.refl _⟩
      | true =>
        have H1 := Lib.hid h1
        have H2 := Lib.hid h2
        have H3 := Lib.hid (show inB m 1 60 = false by rw [h1, h2] at hok; simpa using hok)
        clear hok h1 h2
        go_enter Try.func18, Try.ntmps18
        go_wp2_with (go_at_call 29; refine (in_any _ _ _ _).mono ?_; rintro e w' ⟨rfl, rfl⟩; first | rw [H1.out] | rw [H2.out] | rw [H3.out])
        go_ret
        exact ⟨_, rfl, by rw [HM.out]; exact World.ownsRow_nil _ _ _ _, Kp.refl _⟩
end Go.Proofs.Ytpafcambfmkmiaa
