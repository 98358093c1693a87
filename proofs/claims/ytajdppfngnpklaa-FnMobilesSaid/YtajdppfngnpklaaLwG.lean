/- LeastWeights: the plain law's last words. -/
import Derived.Test.YtajdppfngnpklaaLwF
set_option linter.unusedVariables false
namespace Go.Proofs.Ytajdppfngnpklaa
open Go.RowKit
def okLw (xs : List Pt) : Bool := mobB xs && (leO 16 xs 0).isSome
def lwL (xs : List Pt) : List Pt := if mobB xs = true then (leO 16 xs 0).getD xs else xs
theorem mob_n1 {xs : List Pt} (h : mobB xs = true) : 1 ≤ xs.length ∧ xs.length ≤ 15 := ⟨(mobB_tr h).n1, (mobB_tr h).n15⟩
theorem lwL_length (xs : List Pt) : (lwL xs).length = xs.length := by
  rw [lwL]
  split
  · rename_i h
    have := mob_n1 h
    cases e : leO 16 xs 0 with
    | none => rfl
    | some zs => exact (leO_mob h (by omega) (by omega) e).2.len
  · rfl
theorem st_ok {ys : List Pt} (hm : mobB ys = true) {k : Nat} (hk : k < ys.length) (hl : ¬ (pt ys k).l = -1) {a b : Int} (ha : 0 ≤ a) (hb : 0 ≤ b) (h1 : moM ys 16 (kL ys k) * b ≤ 1000) (h2 : moM ys 16 (kR ys k) * a ≤ 1000) :
    ∃ us zs, scO 16 ys (kL ys k) b = some us ∧ scO 16 us (kR ys k) a = some zs := by
  have h := mobB_tr hm
  have h15 := h.n15
  have hc := h.kids hk hl
  have e := put_self ys
  have m1 := moM_eq h hc.1.2 (w := fun j => (pt ys j).x) (v := fun j => (pt ys j).x) (fun _ _ _ => rfl)
  have m2 := moM_eq h hc.2.2 (w := fun j => (pt ys j).x) (v := scW ys (fun j => (pt ys j).x) (kL ys k) b) (fun j hj hs => by
    have : ¬ sbT ys (kL ys k) j = true := fun s1 => sb_apart h hk hl s1 hs
    simp [scW, this])
  rw [e] at m1 m2
  have a1 := scO_put h b hb 16 (kL ys k) hc.1.2 (by omega) (fun j => (pt ys j).x)
  rw [e, ← m1, if_pos h1] at a1
  have a2 := scO_put h a ha 16 (kR ys k) hc.2.2 (by omega) (scW ys (fun j => (pt ys j).x) (kL ys k) b)
  rw [← m2, if_pos h2] at a2
  exact ⟨_, _, a1, a2⟩
theorem stO_mob {ys zs : List Pt} (hm : mobB ys = true) {k : Nat} (hk : k < ys.length) (e : stO ys k = some zs) : mobB zs = true ∧ Like ys zs := by
  have h := mobB_tr hm
  have h15 := h.n15
  rw [stO] at e
  split at e
  · rename_i hl
    injection e with e
    subst e
    have := sx_put (xs := ys) (fun j => (pt ys j).x) hk hl (c := 1)
    rw [put_self] at this
    rw [this]
    refine ⟨mob_put hm fun j hj hjl => ?_, ⟨_, rfl⟩⟩
    by_cases c : k = j
    · rw [if_pos c]; omega
    · rw [if_neg c]; exact mob_x hm hj hjl
  · rename_i hl
    split at e
    · have hb := fAB_bd hm (Like.refl ys) hm hk hl
      have hc := h.kids hk hl
      have q1 := quot_bd (b := fB ys ys k) hb.1
      have q2 := quot_bd (b := fA ys ys k) hb.2
      rw [Int.gcd_comm] at q2
      rw [prO] at e
      cases e1 : scO 16 ys (kL ys k) (fB ys ys k / (Int.gcd (fA ys ys k) (fB ys ys k) : Int)) with
      | none => rw [e1] at e; cases e
      | some us =>
        rw [e1] at e
        have b1 := scO_mob hm q2.1 hc.1.2 (by omega) e1
        have hl1 := b1.2.len
        have b2 := scO_mob b1.1 q1.1 (by omega) (by omega) e
        exact ⟨b2.1, b1.2.trans b2.2⟩
    · cases e
theorem loO_mob {xs : List Pt} (hm : mobB xs = true) : ∀ m, m ≤ xs.length → ∀ ys, loO xs m = some ys → mobB ys = true ∧ Like xs ys := by
  intro m
  induction m with
  | zero => intro _ ys e; cases e; exact ⟨hm, Like.refl _⟩
  | succ m ih =>
    intro hlt ys e
    rw [loO] at e
    cases e1 : loO xs m with
    | none => rw [e1] at e; cases e
    | some us =>
      rw [e1] at e
      have a := ih (by omega) us e1
      have hl := a.2.len
      have b := stO_mob a.1 (by omega) e
      exact ⟨b.1, a.2.trans b.2⟩
theorem loO_none {xs : List Pt} {m : Nat} (e : loO xs m = none) : ∀ m', m ≤ m' → loO xs m' = none := by
  intro m' h
  induction m' with
  | zero => rw [show m = 0 by omega] at e; exact e
  | succ m' ih =>
    by_cases c : m = m' + 1
    · rw [← c]; exact e
    · rw [loO, ih (by omega)]
theorem ok_none {xs : List Pt} (hm : mobB xs = true) (e : leO 16 xs 0 = none) : okLw xs = false ∧ lwL xs = xs := ⟨by rw [okLw, e, hm]; rfl, by rw [lwL, if_pos hm, e]; rfl⟩
theorem ok_some {xs zs : List Pt} (hm : mobB xs = true) (e : leO 16 xs 0 = some zs) : okLw xs = true ∧ lwL xs = zs := ⟨by rw [okLw, e, hm]; rfl, by rw [lwL, if_pos hm, e]; rfl⟩
theorem ok_not {xs : List Pt} (hm : mobB xs = false) : okLw xs = false ∧ lwL xs = xs := ⟨by rw [okLw, hm]; rfl, by rw [lwL, hm]; rfl⟩
theorem least0_any (B g cap n : Nat) (hgB : B ≤ g) (ys : List Pt) (w : World) (hl : ys.length = n) (hm : mobB ys = true) (ho : OwP B w (.slice (some ⟨g, 0, none⟩) n cap) ys) :
    Calls Try.prog 38 #[.slice (some ⟨g, 0, none⟩) n cap, .int .i64 0] w fun e w' => e = .returned (.bool (leO 16 ys 0).isSome) ∧ (∀ zs, leO 16 ys 0 = some zs → OwP B w' (.slice (some ⟨g, 0, none⟩) n cap) zs) ∧ w.grownBy w' (some g) := by
  have := mob_n1 hm
  exact least_any B g cap n hgB 16 0 (by omega) (by omega) (by omega) ys w hl hm ho
set_option maxHeartbeats 3200000 in
theorem iLeast_any (A : Option Addr) (n c : Nat) (xs : List Pt) (w : World) (hl : xs.length = n) (hn : n ≤ 1048576) (hr : RdP w A n xs) :
    Calls Try.prog 24 #[.slice A n c] w fun e w' => ∃ v, e = .returned (.tuple #[v, .bool (okLw xs)]) ∧ OwP w.heap.size w' v (lwL xs) ∧ Kp w w' := by
  obtain ⟨i0, hi0, hz0, hz1, hz2⟩ := info_parts part_info
  have h1c := oneCell_parts xs
  have HR := Lib.hid hr
  have HL := Lib.hid hl
  clear hr hl
  by_cases hm : mobB xs = true
  · have HM := Lib.hid hm
    have hn1 := mob_n1 hm
    rw [HL.out] at hn1
    cases e : leO 16 xs 0 with
    | some zs =>
      have HOK := Lib.hid (ok_some hm e)
      have HE := Lib.hid e
      clear hm e
      go_enter Try.func24, Try.ntmps24
      go_wp2_with (at_builtin; refine wpList_append_any _ rfl (.const (.slice none 0 0)) (.tmp 5) _ rfl w.heap.size 40 i0 _ 5 40 Try.underlying25 hi0 hz0 hz1 hz2 rfl (by omega) (.slice none 0 0) 0 [] rfl ⟨by simp, .inl ⟨rfl, rfl⟩⟩ w.heap.size A n c (pC xs) rfl HR.out h1c (by simp only [maxLen]; omega) (by omega) (Nat.le_refl _) ?_; intro v1 w1 hown1 hg1 hat1; have ho1 : OwP w.heap.size w1 v1 xs := (by unfold OwP; rw [HL.out]; simpa using hown1); obtain ⟨g, cap, e1, hb, hgs⟩ := ho1.form (by rw [HL.out]; omega); rw [HL.out] at e1; subst e1; have HO := Lib.hid ho1; have HK1 := Lib.hid ((Kp.refl w).grown hg1 (by simp [Value.ownBlock])); clear hown1 hg1 hat1 ho1)
      refine (iMobileOk_any _ _ _ xs _ HL.out hn (HR.out.kp HK1.out)).mono ?_
      rw [HM.out]
      rintro e w2 ⟨rfl, hk2⟩
      have HK2 := Lib.hid (HK1.out.trans hk2)
      have HO2 := Lib.hid (HO.out.kp hk2)
      clear hk2
      go_wp2_with fail
      refine (least0_any w.heap.size g cap n hb xs _ HL.out HM.out HO2.out).mono ?_
      rw [HE.out, show (some zs).isSome = true from rfl]
      rintro e w3 ⟨rfl, ho3, hg3⟩
      have HO3 := Lib.hid (ho3 zs rfl)
      have HK3 := Lib.hid (HK2.out.grown hg3 (by intro k e; cases e; exact hb))
      clear ho3 hg3
      go_wp2_with fail
      exact bodyPost_ret (v := .tuple #[.slice (some ⟨g, 0, none⟩) n cap, .bool true]) (by simp [results, Try.results24, go_sem]) rfl ⟨_, by rw [HOK.out.1], by rw [HOK.out.2]; exact HO3.out, HK3.out⟩
    | none =>
      have HOK := Lib.hid (ok_none hm e)
      have HE := Lib.hid e
      clear hm e
      go_enter Try.func24, Try.ntmps24
      go_wp2_with (at_builtin; refine wpList_append_any _ rfl (.const (.slice none 0 0)) (.tmp 5) _ rfl w.heap.size 40 i0 _ 5 40 Try.underlying25 hi0 hz0 hz1 hz2 rfl (by omega) (.slice none 0 0) 0 [] rfl ⟨by simp, .inl ⟨rfl, rfl⟩⟩ w.heap.size A n c (pC xs) rfl HR.out h1c (by simp only [maxLen]; omega) (by omega) (Nat.le_refl _) ?_; intro v1 w1 hown1 hg1 hat1; have ho1 : OwP w.heap.size w1 v1 xs := (by unfold OwP; rw [HL.out]; simpa using hown1); obtain ⟨g, cap, e1, hb, hgs⟩ := ho1.form (by rw [HL.out]; omega); rw [HL.out] at e1; subst e1; have HO := Lib.hid ho1; have HK1 := Lib.hid ((Kp.refl w).grown hg1 (by simp [Value.ownBlock])); clear hown1 hg1 hat1 ho1)
      refine (iMobileOk_any _ _ _ xs _ HL.out hn (HR.out.kp HK1.out)).mono ?_
      rw [HM.out]
      rintro e w2 ⟨rfl, hk2⟩
      have HK2 := Lib.hid (HK1.out.trans hk2)
      have HO2 := Lib.hid (HO.out.kp hk2)
      clear hk2
      go_wp2_with fail
      refine (least0_any w.heap.size g cap n hb xs _ HL.out HM.out HO2.out).mono ?_
      rw [HE.out, show (none : Option (List Pt)).isSome = false from rfl]
      rintro e w3 ⟨rfl, _, hg3⟩
      have HK3 := Lib.hid (HK2.out.grown hg3 (by intro k e; cases e; exact hb))
      clear hg3
      (go_wp2_with (at_builtin; refine wpList_append_any _ rfl (.const (.slice none 0 0)) (.tmp 15) _ rfl w3.heap.size 40 i0 _ 5 40 Try.underlying25 hi0 hz0 hz1 hz2 rfl (by omega) (.slice none 0 0) 0 [] rfl ⟨by simp, .inl ⟨rfl, rfl⟩⟩ w3.heap.size A n c (pC xs) rfl (Reads.kp HR.out HK3.out) h1c (by simp only [maxLen]; omega) (by omega) (Nat.le_refl _) ?_; intro v4 w4 hown4 hg4 hat4; have ho4 : OwP w3.heap.size w4 v4 xs := (by unfold OwP; rw [HL.out]; simpa using hown4); have HO4 := Lib.hid (ho4.weak (B' := w.heap.size) HK3.out.size); have HK4 := Lib.hid (HK3.out.trans ((Kp.refl w3).grown hg4 (by simp [Value.ownBlock]))); clear hown4 hg4 hat4 ho4); exact bodyPost_ret (v := .tuple #[v4, .bool false]) (by simp [results, Try.results24, go_sem]) rfl ⟨_, by rw [HOK.out.1], by rw [HOK.out.2]; exact HO4.out, HK4.out⟩)
  · have hm' : mobB xs = false := by simpa using hm
    have HM := Lib.hid hm'
    have HOK := Lib.hid (ok_not hm')
    clear hm hm'
    go_enter Try.func24, Try.ntmps24
    go_wp2_with (at_builtin; refine wpList_append_any _ rfl (.const (.slice none 0 0)) (.tmp 5) _ rfl w.heap.size 40 i0 _ 5 40 Try.underlying25 hi0 hz0 hz1 hz2 rfl (by omega) (.slice none 0 0) 0 [] rfl ⟨by simp, .inl ⟨rfl, rfl⟩⟩ w.heap.size A n c (pC xs) rfl HR.out h1c (by simp only [maxLen]; omega) (by omega) (Nat.le_refl _) ?_; intro v1 w1 hown1 hg1 hat1; have HK1 := Lib.hid ((Kp.refl w).grown hg1 (by simp [Value.ownBlock])); clear hown1 hg1 hat1)
    refine (iMobileOk_any _ _ _ xs _ HL.out hn (HR.out.kp HK1.out)).mono ?_
    rw [HM.out]
    rintro e w3 ⟨rfl, hk3⟩
    have HK3 := Lib.hid (HK1.out.trans hk3)
    clear hk3
    (go_wp2_with (at_builtin; refine wpList_append_any _ rfl (.const (.slice none 0 0)) (.tmp 15) _ rfl w3.heap.size 40 i0 _ 5 40 Try.underlying25 hi0 hz0 hz1 hz2 rfl (by omega) (.slice none 0 0) 0 [] rfl ⟨by simp, .inl ⟨rfl, rfl⟩⟩ w3.heap.size A n c (pC xs) rfl (Reads.kp HR.out HK3.out) h1c (by simp only [maxLen]; omega) (by omega) (Nat.le_refl _) ?_; intro v4 w4 hown4 hg4 hat4; have ho4 : OwP w3.heap.size w4 v4 xs := (by unfold OwP; rw [HL.out]; simpa using hown4); have HO4 := Lib.hid (ho4.weak (B' := w.heap.size) HK3.out.size); have HK4 := Lib.hid (HK3.out.trans ((Kp.refl w3).grown hg4 (by simp [Value.ownBlock]))); clear hown4 hg4 hat4 ho4); exact bodyPost_ret (v := .tuple #[v4, .bool false]) (by simp [results, Try.results24, go_sem]) rfl ⟨_, by rw [HOK.out.1], by rw [HOK.out.2]; exact HO4.out, HK4.out⟩)
end Go.Proofs.Ytajdppfngnpklaa
