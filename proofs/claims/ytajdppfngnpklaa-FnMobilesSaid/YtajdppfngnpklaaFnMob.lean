/- FnMobiles: the walk. -/
import Derived.Test.YtajdppfngnpklaaMoD
import Derived.Test.YtajdppfngnpklaaCntP
set_option linter.unusedVariables false
namespace Go.Proofs.Ytajdppfngnpklaa
open Go.ChangeShapes Go.WideShapes Go.ChangeAt Go.RowKit Go.Joins Go.Deep
namespace fnMobiles
theorem part_x {xs : List Pt} (h : mobB xs = true) {k : Nat} (hk : k < xs.length) : ∃ q : Nat, (pt xs k).x = (q : Int) ∧ q ≤ 1000 ∧ (pt xs k).x.toNat = q := by
  have h3 := (mobB_bd h).2.2 k hk
  rw [partB] at h3
  split at h3
  · simp only [leafB, Bool.and_eq_true] at h3
    have := inB_true.1 h3.2
    exact ⟨(pt xs k).x.toNat, by omega, by omega, rfl⟩
  · simp only [armB, Bool.and_eq_true, beq_iff_eq] at h3
    exact ⟨0, h3.2, by omega, by rw [h3.2]; rfl⟩
theorem bal_ft {xs : List Pt} (hm : mobB xs = true) : balB xs = decide (ftM xs < 0) := by
  rw [ftM_neg, balB, hm, Bool.true_and]
theorem Like.p {xs ys : List Pt} (h : Like xs ys) (k : Nat) : (pt ys k).p = (pt xs k).p := by obtain ⟨u, rfl⟩ := h; exact put_p _ _ _
set_option maxRecDepth 20000 in
set_option maxHeartbeats 12800000 in
theorem walk (A : Option Addr) (n c : Nat) (xs : List Int) (w : World) (hl : xs.length = n) (_ : n ≤ 9223372036854775807) (hr : Reads w w.heap.size 1 A n (xs.map (.int .u8))) (hx : ∀ x ∈ xs, 0 ≤ x ∧ x ≤ 255) :
    Calls Try.prog 9 #[.slice A n c] w fun x w' => x = .returned (.bool true) ∧ Below w.heap.size w w' := by
  have HR := Lib.hid hr
  have HX := Lib.hid hx
  have HL := Lib.hid hl
  clear hr hx hl
  by_cases hbig : (1048576 : Int) < (n : Int)
  · have t0 : decide ((1048576 : Int) < (n : Int)) = true := by simpa using hbig
    go_enter Try.func9, Try.ntmps9
    go_wp2_with (go_at_call 27; refine (big_any _ _ _ _).mono ?_; rintro e w' ⟨rfl, rfl⟩)
    go_ret
    exact ⟨rfl, Below.refl _ _⟩
  · have t0 : decide ((1048576 : Int) < (n : Int)) = false := by simpa using hbig
    have hn : n ≤ 1048576 := by omega
    clear hbig
    go_enter Try.func9, Try.ntmps9
    go_wp2_with (go_at_call 27; refine (big_any _ _ _ _).mono ?_; rintro e w' ⟨rfl, rfl⟩)
    refine (drawMobile_any A n c xs w HL.out hn HR.out HX.out).mono ?_
    rintro e w1 ⟨v, M, rfl, hmo, ho, hk1⟩
    have h1 := mob_n1 hmo
    obtain ⟨b, cap, rfl, hb, hbs⟩ := ho.form (by omega)
    obtain ⟨m, hm⟩ : ∃ m, m = M.length := ⟨_, rfl⟩
    rw [← hm] at ho h1 ⊢
    have HLM := Lib.hid hm.symm
    obtain ⟨A2, cc2, hA2, hrd⟩ := ho.rd
    rw [← hm] at hrd
    obtain ⟨rfl, rfl⟩ : A2 = some ⟨b, 0, none⟩ ∧ cc2 = cap := by injection hA2 with x y z; exact ⟨x.symm, z.symm⟩
    have HO := Lib.hid ho
    have HRD := Lib.hid hrd
    have HK1 := Lib.hid hk1
    have HMO := Lib.hid hmo
    have hcp := cp_law hmo
    obtain ⟨q, hq⟩ : ∃ q, q = cpB M := ⟨_, rfl⟩
    rw [← hq] at hcp
    have HCA := Lib.hid hcp.1
    have HCB := Lib.hid hq.symm
    have f1 : q + 1 + q = (m : Int) := by rw [← hcp.1, hm]; exact hcp.2
    have fq : 0 ≤ q ∧ q ≤ 7 := by omega
    have HBF := Lib.hid (bal_ft hmo)
    clear ho hrd hk1 hmo hm hA2 hcp hq hb
    go_wp2_with fail
    refine (iLeast_any _ m _ M _ HLM.out (by omega) HRD.out).mono ?_
    rintro e w2 ⟨v2, rfl, ho2, hk2⟩
    have hl2 : (lwL M).length = m := by rw [lwL_length, HLM.out]
    obtain ⟨b2, cap2, rfl, hb2, hbs2⟩ := ho2.form (by omega)
    rw [hl2] at ho2 ⊢
    have HO2 := Lib.hid ho2
    have HK2 := Lib.hid hk2
    have HL2 := Lib.hid hl2
    clear ho2 hk2 hl2
    obtain ⟨ok, hok⟩ : ∃ ok, ok = okLw M := ⟨_, rfl⟩
    rw [← hok]
    have HOK := Lib.hid hok
    clear hok
    go_wp2_with fail
    refine (iCountParts_any _ m _ M _ HLM.out (by omega) (HRD.out.kp HK2.out)).mono ?_
    rw [HCA.out, HCB.out]
    rintro e w3 ⟨rfl, hk3⟩
    have HK3 := Lib.hid (HK2.out.trans hk3)
    have HO3 := Lib.hid (HO2.out.kp hk3)
    clear hk3 HO2
    go_wp2_with fail
    obtain ⟨F, hF⟩ : ∃ F, F = ftM M := ⟨_, rfl⟩
    have HF := Lib.hid hF
    refine (iIsBalanced_any _ m _ M _ HLM.out (by omega) (HRD.out.kp HK3.out)).mono ?_
    rw [HBF.out, ← HF.out]
    rintro e w4 ⟨rfl, hk4⟩
    have HK4 := Lib.hid (HK3.out.trans hk4)
    have HO4 := Lib.hid (HO3.out.kp hk4)
    clear hk4 HO3 hF
    go_wp2_with fail
    refine (iFirstTilted_any _ m _ M _ HLM.out (by omega) (HRD.out.kp HK4.out)).mono ?_
    rw [← HF.out]
    rintro e w5 ⟨rfl, hk5⟩
    have HK5 := Lib.hid (HK4.out.trans hk5)
    have HO5 := Lib.hid (HO4.out.kp hk5)
    clear hk5 HO4
    cases ok with
    | false =>
      go_wp2_with fail
      go_ret
      exact ⟨rfl, HK1.out.trans HK5.out⟩
    | true =>
      have hls : ∃ zs, leO 16 M 0 = some zs := by
        have := HOK.out
        simp only [okLw, HMO.out, Bool.true_and] at this
        cases e : leO 16 M 0 with
        | none => rw [e] at this; cases this
        | some zs => exact ⟨zs, rfl⟩
      obtain ⟨Z, hZ⟩ := hls
      obtain ⟨z1, z2, z3, z4, z5, z6, z7⟩ := mobile_law HMO.out hZ
      have hzl := (ok_some HMO.out hZ).2
      have hz := z4.len.trans HLM.out
      have HO6 := Lib.hid (show OwP w1.heap.size w5 (.slice (some ⟨b2, 0, none⟩) m cap2) Z by rw [← hzl]; exact HO5.out)
      obtain ⟨A3, cc3, hA3, hrd3⟩ := HO6.out.rd
      rw [hz] at hrd3
      obtain ⟨rfl, rfl⟩ : A3 = some ⟨b2, 0, none⟩ ∧ cc3 = cap2 := by injection hA3 with x y z; exact ⟨x.symm, z.symm⟩
      have HRZ := Lib.hid hrd3
      have HMZ := Lib.hid z1
      have HZL := Lib.hid hz
      have HZB := Lib.hid z2
      rw [hz] at z3
      have HZG := Lib.hid z3
      have HLK := Lib.hid z4
      have HZ5 := Lib.hid z5
      have HZ6 := Lib.hid z6
      have HZ7 := Lib.hid z7
      clear z1 z2 z3 z4 z5 z6 z7 hZ hzl hz hA3 hrd3 HO5
      go_wp2_with fail
      refine (iIsBalanced_any _ m _ Z _ HZL.out (by omega) HRZ.out).mono ?_
      rw [HZB.out]
      rintro e w6 ⟨rfl, hk6⟩
      have HK6 := Lib.hid (HK5.out.trans hk6)
      have HK56 := Lib.hid hk6
      have HO7 := Lib.hid (HO6.out.kp hk6)
      have HOM := Lib.hid (HO.out.kp (HK5.out.trans hk6))
      clear hk6 HO6
      go_wp2_with fail
      have HN := Lib.hid (rfl : m = m)
      go_loopw [8, 9] (fun gv i wr => ∃ k : Nat, k ≤ m ∧ i = .int .i64 k ∧ gv = .int .i64 ((gg Z k : Nat) : Int) ∧ gg Z k ≤ 1000 ∧ Kp w6 wr) (fun _ i _ => m - (intOf i).toNat)
      case atStart => exact ⟨0, by omega, rfl, rfl, by rw [gg]; omega, Kp.refl _⟩
      case round =>
        obtain ⟨k, hk, rfl, rfl, hgk, hkp⟩ := hrel
        by_cases hlt : k < m
        · have i0 : (0 : Int) ≤ (k : Int) := by omega
          have i1 : (k : Int) < (m : Int) := by omega
          have hC := OwP.at5 (HO7.out.kp hkp) HZL.out hlt
          have hD := OwP.at5 (HOM.out.kp hkp) HLM.out hlt
          obtain ⟨X, hX, hX2, hX3⟩ := part_x HMZ.out (show k < Z.length by rw [HZL.out]; exact hlt)
          have c4 := hC.2.2.2.2
          rw [hX] at c4
          have HGS := Lib.hid (show gg Z (k + 1) = Nat.gcd (gg Z k) X by rw [gg, hX3])
          obtain ⟨G, hG⟩ : ∃ G, G = gg Z k := ⟨_, rfl⟩
          rw [← hG] at HGS hgk ⊢
          have HC := Lib.hid (show wr.cell? ⟨b2, k * 5, none⟩ = some (.int .i64 (pt M k).l) ∧ wr.cell? ⟨b2, k * 5 + 2, none⟩ = some (.int .i64 (pt M k).p) by rw [← HLK.out.l k, ← Like.p HLK.out k]; exact ⟨hC.1, hC.2.2.1⟩)
          have HD := Lib.hid (show wr.cell? ⟨b, k * 5, none⟩ = some (.int .i64 (pt M k).l) ∧ wr.cell? ⟨b, k * 5 + 2, none⟩ = some (.int .i64 (pt M k).p) from ⟨hD.1, hD.2.2.1⟩)
          have HKP := Lib.hid hkp
          obtain ⟨wo, hwo⟩ : ∃ wo, wo = wr := ⟨_, rfl⟩
          subst hwo
          clear hC hD hX hX3 hG hkp
          go_wp2_with fail
          go_loopw [8, 10] (fun gv xv wq => ∃ p q : Nat, gv = .int .i64 (p : Int) ∧ xv = .int .i64 (q : Int) ∧ p ≤ 1000 ∧ q ≤ 1000 ∧ Nat.gcd p q = Nat.gcd G X ∧ Kp wo wq) (fun _ xv _ => (intOf xv).toNat)
          case atStart => exact ⟨G, X, rfl, rfl, hgk, hX2, rfl, Kp.refl _⟩
          case round =>
            obtain ⟨p, q', rfl, rfl, hp, hq', hgc, hkq⟩ := hrel
            by_cases hq0 : 0 < q'
            · have hr1 : (p : Int).tmod (q' : Int) = ((p % q' : Nat) : Int) := rfl
              have hr2 := Nat.mod_lt p hq0
              obtain ⟨r, hr⟩ : ∃ r, r = p % q' := ⟨_, rfl⟩
              have HGC := Lib.hid (show Nat.gcd q' r = Nat.gcd G X by rw [hr, ← hgc, Nat.gcd_comm p q', Nat.gcd_rec q' p, Nat.gcd_comm])
              rw [← hr] at hr1 hr2
              have hq1 : (0 : Int) < (q' : Int) := by omega
              have hq2 : ¬ ((q' : Int) = 0) := by omega
              have wr1 : IntKind.i64.wrap (r : Int) = (r : Int) := IntWalk.i64_in _ (by omega)
              have HKQ := Lib.hid hkq
              clear hr hgc hkq
              go_upto_region 18 with fail
              go_quiet (fail)
              go_wp2_with fail
              go_roundw
              case rel => exact ⟨q', r, rfl, rfl, hq', by omega, HGC.out, HKQ.out.trans (Kp.of_drewN ⟨_, rfl⟩)⟩
              case measure => simp [intOf]; omega
            · obtain rfl : q' = 0 := by omega
              have HGG := Lib.hid (show gg Z (k + 1) = p by rw [HGS.out, ← hgc, Nat.gcd_zero_right])
              have HKQ := Lib.hid hkq
              have d0 := hkq.at1 HC.out.1
              have d2 := hkq.at1 HC.out.2
              have m0 := hkq.at1 HD.out.1
              have m2 := hkq.at1 HD.out.2
              clear hgc hkq c4
              obtain ⟨XL, hXL⟩ : ∃ XL, XL = (pt M k).l := ⟨_, rfl⟩
              obtain ⟨XP, hXP⟩ : ∃ XP, XP = (pt M k).p := ⟨_, rfl⟩
              rw [← hXL] at d0 m0
              rw [← hXP] at d2 m2
              clear hXL hXP
              go_upto_region 19 with fail
              (refine wp_region_held_drew (S := (fun w' => w'.cell? ⟨b2, k * 5, none⟩ = some (.int .i64 XL) ∧ w'.cell? ⟨b2, k * 5 + 2, none⟩ = some (.int .i64 XP) ∧ w'.cell? ⟨b, k * 5, none⟩ = some (.int .i64 XL) ∧ w'.cell? ⟨b, k * 5 + 2, none⟩ = some (.int .i64 XP))) (by kernel_rfl) ?_ (fun hHeld => ?_); (· ((try dsimp only); ((repeat' apply And.intro) <;> first | with_reducible assumption | (with_reducible apply cell_drew; with_reducible assumption)))); ((refine wpAnyH_take (i := 0) (oi := { dst := some 80, op := Op.move (Operand.tmp 4), type := 25, pos := "laws.go:433", after := #[], guard := none }) (v := ?_) rfl (by kernel_rfl) (by kernel_rfl) (by kernel_rfl) (fun _ _ _ h => h) (Or.inl ⟨by rfl, ?_⟩) (by assumption) ?_; rotate_left 1; (· (intro w hSw; (try dsimp only at hSw); go_simp; (try simp only [HQC.out]); (try with_reducible rfl)))); (try simp only [Act.put, List.setIfInBounds_toArray, List.set_cons_zero, List.set_cons_succ])); ((refine wpAnyH_take (i := 1) (oi := { dst := some 81, op := Op.move (Operand.tmp 9), type := 3, pos := "laws.go:433", after := #[], guard := none }) (v := ?_) rfl (by kernel_rfl) (by kernel_rfl) (by kernel_rfl) (fun _ _ _ h => h) (Or.inl ⟨by rfl, ?_⟩) (by assumption) ?_; rotate_left 1; (· (intro w hSw; (try dsimp only at hSw); go_simp; (try simp only [HQC.out]); (try with_reducible rfl)))); (try simp only [Act.put, List.setIfInBounds_toArray, List.set_cons_zero, List.set_cons_succ])); ((refine wpAnyH_take (i := 2) (oi := { dst := some 82, op := Op.indexAddr 25 (Operand.tmp 80) (Operand.tmp 81), type := 0, pos := "laws.go:433", after := #[{ on := 0, ground := Ground.data }, { on := 1, ground := Ground.data }], guard := none }) (v := ?_) rfl (by kernel_rfl) (by kernel_rfl) (by kernel_rfl) (fun _ _ _ h => h) (Or.inl ⟨by rfl, ?_⟩) (by assumption) ?_; rotate_left 1; (· (intro w hSw; (try dsimp only at hSw); go_simp; (try simp only [HQC.out]); (try with_reducible rfl)))); (try simp only [Act.put, List.setIfInBounds_toArray, List.set_cons_zero, List.set_cons_succ])); ((refine wpAnyH_take (i := 3) (oi := { dst := some 83, op := Op.fieldAddr 40 (Operand.tmp 82) 0, type := 0, pos := "laws.go:433", after := #[{ on := 2, ground := Ground.data }], guard := none }) (v := ?_) rfl (by kernel_rfl) (by kernel_rfl) (by kernel_rfl) (fun _ _ _ h => h) (Or.inl ⟨by rfl, ?_⟩) (by assumption) ?_; rotate_left 1; (· (intro w hSw; (try dsimp only at hSw); go_simp; (try simp only [HQC.out]); (try with_reducible rfl)))); (try simp only [Act.put, List.setIfInBounds_toArray, List.set_cons_zero, List.set_cons_succ])); ((refine wpAnyH_take (i := 4) (oi := { dst := some 84, op := Op.load 3 (Operand.tmp 83), type := 3, pos := "laws.go:433", after := #[{ on := 3, ground := Ground.data }], guard := none }) (v := ?_) rfl (by kernel_rfl) (by kernel_rfl) (by kernel_rfl) (fun _ _ _ h => h) (Or.inl ⟨by rfl, ?_⟩) (by assumption) ?_; rotate_left 1; (· (intro w hSw; (try dsimp only at hSw); go_simp; (try simp only [HQC.out]); (try with_reducible rfl)))); (try simp only [Act.put, List.setIfInBounds_toArray, List.set_cons_zero, List.set_cons_succ])); ((refine wpAnyH_take (i := 5) (oi := { dst := some 85, op := Op.move (Operand.tmp 3), type := 25, pos := "laws.go:433", after := #[], guard := none }) (v := ?_) rfl (by kernel_rfl) (by kernel_rfl) (by kernel_rfl) (fun _ _ _ h => h) (Or.inl ⟨by rfl, ?_⟩) (by assumption) ?_; rotate_left 1; (· (intro w hSw; (try dsimp only at hSw); go_simp; (try simp only [HQC.out]); (try with_reducible rfl)))); (try simp only [Act.put, List.setIfInBounds_toArray, List.set_cons_zero, List.set_cons_succ])); ((refine wpAnyH_take (i := 6) (oi := { dst := some 86, op := Op.move (Operand.tmp 9), type := 3, pos := "laws.go:433", after := #[], guard := none }) (v := ?_) rfl (by kernel_rfl) (by kernel_rfl) (by kernel_rfl) (fun _ _ _ h => h) (Or.inl ⟨by rfl, ?_⟩) (by assumption) ?_; rotate_left 1; (· (intro w hSw; (try dsimp only at hSw); go_simp; (try simp only [HQC.out]); (try with_reducible rfl)))); (try simp only [Act.put, List.setIfInBounds_toArray, List.set_cons_zero, List.set_cons_succ])); ((refine wpAnyH_take (i := 7) (oi := { dst := some 87, op := Op.indexAddr 25 (Operand.tmp 85) (Operand.tmp 86), type := 0, pos := "laws.go:433", after := #[{ on := 5, ground := Ground.data }, { on := 6, ground := Ground.data }], guard := none }) (v := ?_) rfl (by kernel_rfl) (by kernel_rfl) (by kernel_rfl) (fun _ _ _ h => h) (Or.inl ⟨by rfl, ?_⟩) (by assumption) ?_; rotate_left 1; (· (intro w hSw; (try dsimp only at hSw); go_simp; (try simp only [HQC.out]); (try with_reducible rfl)))); (try simp only [Act.put, List.setIfInBounds_toArray, List.set_cons_zero, List.set_cons_succ])); ((refine wpAnyH_take (i := 8) (oi := { dst := some 88, op := Op.fieldAddr 40 (Operand.tmp 87) 0, type := 0, pos := "laws.go:433", after := #[{ on := 7, ground := Ground.data }], guard := none }) (v := ?_) rfl (by kernel_rfl) (by kernel_rfl) (by kernel_rfl) (fun _ _ _ h => h) (Or.inl ⟨by rfl, ?_⟩) (by assumption) ?_; rotate_left 1; (· (intro w hSw; (try dsimp only at hSw); go_simp; (try simp only [HQC.out]); (try with_reducible rfl)))); (try simp only [Act.put, List.setIfInBounds_toArray, List.set_cons_zero, List.set_cons_succ])); ((refine wpAnyH_take (i := 9) (oi := { dst := some 89, op := Op.load 3 (Operand.tmp 88), type := 3, pos := "laws.go:433", after := #[{ on := 8, ground := Ground.data }], guard := none }) (v := ?_) rfl (by kernel_rfl) (by kernel_rfl) (by kernel_rfl) (fun _ _ _ h => h) (Or.inl ⟨by rfl, ?_⟩) (by assumption) ?_; rotate_left 1; (· (intro w hSw; (try dsimp only at hSw); go_simp; (try simp only [HQC.out]); (try with_reducible rfl)))); (try simp only [Act.put, List.setIfInBounds_toArray, List.set_cons_zero, List.set_cons_succ])); ((refine wpAnyH_take (i := 10) (oi := { dst := some 90, op := Op.binOp BinOp.neq 3 (Operand.tmp 84) (Operand.tmp 89) 3, type := 4, pos := "laws.go:433", after := #[{ on := 4, ground := Ground.data }, { on := 9, ground := Ground.data }], guard := none }) (v := ?_) rfl (by kernel_rfl) (by kernel_rfl) (by kernel_rfl) (fun _ _ _ h => h) (Or.inl ⟨by rfl, ?_⟩) (by assumption) ?_; rotate_left 1; (· (intro w hSw; (try dsimp only at hSw); go_simp; (try simp only [HQC.out]); (try with_reducible rfl)))); (try simp only [Act.put, List.setIfInBounds_toArray, List.set_cons_zero, List.set_cons_succ])); ((refine wpAnyH_take (i := 11) (oi := { dst := some 91, op := Op.move (Operand.tmp 90), type := 4, pos := "laws.go:433", after := #[{ on := 10, ground := Ground.data }], guard := none }) (v := ?_) rfl (by kernel_rfl) (by kernel_rfl) (by kernel_rfl) (fun _ _ _ h => h) (Or.inl ⟨by rfl, ?_⟩) (by assumption) ?_; rotate_left 1; (· (intro w hSw; (try dsimp only at hSw); go_simp; (try simp only [HQC.out]); (try with_reducible rfl)))); (try simp only [Act.put, List.setIfInBounds_toArray, List.set_cons_zero, List.set_cons_succ])); ((refine wpAnyH_take (i := 12) (oi := { dst := some 92, op := Op.move (Operand.tmp 4), type := 25, pos := "laws.go:433", after := #[{ on := 11, ground := Ground.guard }], guard := some (11, false) }) (v := ?_) rfl (by kernel_rfl) (by kernel_rfl) (by kernel_rfl) (fun _ _ _ h => h) (Or.inl ⟨by rfl, ?_⟩) (by assumption) ?_; rotate_left 1; (· (intro w hSw; (try dsimp only at hSw); go_simp; (try simp only [HQC.out]); (try with_reducible rfl)))); (try simp only [Act.put, List.setIfInBounds_toArray, List.set_cons_zero, List.set_cons_succ])); ((refine wpAnyH_take (i := 13) (oi := { dst := some 93, op := Op.move (Operand.tmp 9), type := 3, pos := "laws.go:433", after := #[{ on := 11, ground := Ground.guard }], guard := some (11, false) }) (v := ?_) rfl (by kernel_rfl) (by kernel_rfl) (by kernel_rfl) (fun _ _ _ h => h) (Or.inl ⟨by rfl, ?_⟩) (by assumption) ?_; rotate_left 1; (· (intro w hSw; (try dsimp only at hSw); go_simp; (try simp only [HQC.out]); (try with_reducible rfl)))); (try simp only [Act.put, List.setIfInBounds_toArray, List.set_cons_zero, List.set_cons_succ])); ((refine wpAnyH_take (i := 14) (oi := { dst := some 94, op := Op.indexAddr 25 (Operand.tmp 92) (Operand.tmp 93), type := 0, pos := "laws.go:433", after := #[{ on := 12, ground := Ground.data }, { on := 13, ground := Ground.data }, { on := 11, ground := Ground.guard }], guard := some (11, false) }) (v := ?_) rfl (by kernel_rfl) (by kernel_rfl) (by kernel_rfl) (fun _ _ _ h => h) (Or.inl ⟨by rfl, ?_⟩) (by assumption) ?_; rotate_left 1; (· (intro w hSw; (try dsimp only at hSw); go_simp; (try simp only [HQC.out]); (try with_reducible rfl)))); (try simp only [Act.put, List.setIfInBounds_toArray, List.set_cons_zero, List.set_cons_succ])); ((refine wpAnyH_take (i := 15) (oi := { dst := some 95, op := Op.fieldAddr 40 (Operand.tmp 94) 2, type := 0, pos := "laws.go:433", after := #[{ on := 14, ground := Ground.data }, { on := 11, ground := Ground.guard }], guard := some (11, false) }) (v := ?_) rfl (by kernel_rfl) (by kernel_rfl) (by kernel_rfl) (fun _ _ _ h => h) (Or.inl ⟨by rfl, ?_⟩) (by assumption) ?_; rotate_left 1; (· (intro w hSw; (try dsimp only at hSw); go_simp; (try simp only [HQC.out]); (try with_reducible rfl)))); (try simp only [Act.put, List.setIfInBounds_toArray, List.set_cons_zero, List.set_cons_succ])); ((refine wpAnyH_take (i := 16) (oi := { dst := some 96, op := Op.load 3 (Operand.tmp 95), type := 3, pos := "laws.go:433", after := #[{ on := 15, ground := Ground.data }, { on := 11, ground := Ground.guard }], guard := some (11, false) }) (v := ?_) rfl (by kernel_rfl) (by kernel_rfl) (by kernel_rfl) (fun _ _ _ h => h) (Or.inl ⟨by rfl, ?_⟩) (by assumption) ?_; rotate_left 1; (· (intro w hSw; (try dsimp only at hSw); go_simp; (try simp only [HQC.out]); (try with_reducible rfl)))); (try simp only [Act.put, List.setIfInBounds_toArray, List.set_cons_zero, List.set_cons_succ])); ((refine wpAnyH_take (i := 17) (oi := { dst := some 97, op := Op.move (Operand.tmp 3), type := 25, pos := "laws.go:433", after := #[{ on := 11, ground := Ground.guard }], guard := some (11, false) }) (v := ?_) rfl (by kernel_rfl) (by kernel_rfl) (by kernel_rfl) (fun _ _ _ h => h) (Or.inl ⟨by rfl, ?_⟩) (by assumption) ?_; rotate_left 1; (· (intro w hSw; (try dsimp only at hSw); go_simp; (try simp only [HQC.out]); (try with_reducible rfl)))); (try simp only [Act.put, List.setIfInBounds_toArray, List.set_cons_zero, List.set_cons_succ])); ((refine wpAnyH_take (i := 18) (oi := { dst := some 98, op := Op.move (Operand.tmp 9), type := 3, pos := "laws.go:433", after := #[{ on := 11, ground := Ground.guard }], guard := some (11, false) }) (v := ?_) rfl (by kernel_rfl) (by kernel_rfl) (by kernel_rfl) (fun _ _ _ h => h) (Or.inl ⟨by rfl, ?_⟩) (by assumption) ?_; rotate_left 1; (· (intro w hSw; (try dsimp only at hSw); go_simp; (try simp only [HQC.out]); (try with_reducible rfl)))); (try simp only [Act.put, List.setIfInBounds_toArray, List.set_cons_zero, List.set_cons_succ])); ((refine wpAnyH_take (i := 19) (oi := { dst := some 99, op := Op.indexAddr 25 (Operand.tmp 97) (Operand.tmp 98), type := 0, pos := "laws.go:433", after := #[{ on := 17, ground := Ground.data }, { on := 18, ground := Ground.data }, { on := 11, ground := Ground.guard }], guard := some (11, false) }) (v := ?_) rfl (by kernel_rfl) (by kernel_rfl) (by kernel_rfl) (fun _ _ _ h => h) (Or.inl ⟨by rfl, ?_⟩) (by assumption) ?_; rotate_left 1; (· (intro w hSw; (try dsimp only at hSw); go_simp; (try simp only [HQC.out]); (try with_reducible rfl)))); (try simp only [Act.put, List.setIfInBounds_toArray, List.set_cons_zero, List.set_cons_succ])); ((refine wpAnyH_take (i := 20) (oi := { dst := some 100, op := Op.fieldAddr 40 (Operand.tmp 99) 2, type := 0, pos := "laws.go:433", after := #[{ on := 19, ground := Ground.data }, { on := 11, ground := Ground.guard }], guard := some (11, false) }) (v := ?_) rfl (by kernel_rfl) (by kernel_rfl) (by kernel_rfl) (fun _ _ _ h => h) (Or.inl ⟨by rfl, ?_⟩) (by assumption) ?_; rotate_left 1; (· (intro w hSw; (try dsimp only at hSw); go_simp; (try simp only [HQC.out]); (try with_reducible rfl)))); (try simp only [Act.put, List.setIfInBounds_toArray, List.set_cons_zero, List.set_cons_succ])); ((refine wpAnyH_take (i := 21) (oi := { dst := some 101, op := Op.load 3 (Operand.tmp 100), type := 3, pos := "laws.go:433", after := #[{ on := 20, ground := Ground.data }, { on := 11, ground := Ground.guard }], guard := some (11, false) }) (v := ?_) rfl (by kernel_rfl) (by kernel_rfl) (by kernel_rfl) (fun _ _ _ h => h) (Or.inl ⟨by rfl, ?_⟩) (by assumption) ?_; rotate_left 1; (· (intro w hSw; (try dsimp only at hSw); go_simp; (try simp only [HQC.out]); (try with_reducible rfl)))); (try simp only [Act.put, List.setIfInBounds_toArray, List.set_cons_zero, List.set_cons_succ])); ((refine wpAnyH_take (i := 22) (oi := { dst := some 102, op := Op.binOp BinOp.neq 3 (Operand.tmp 96) (Operand.tmp 101) 3, type := 4, pos := "laws.go:433", after := #[{ on := 16, ground := Ground.data }, { on := 21, ground := Ground.data }, { on := 11, ground := Ground.guard }], guard := some (11, false) }) (v := ?_) rfl (by kernel_rfl) (by kernel_rfl) (by kernel_rfl) (fun _ _ _ h => h) (Or.inl ⟨by rfl, ?_⟩) (by assumption) ?_; rotate_left 1; (· (intro w hSw; (try dsimp only at hSw); go_simp; (try simp only [HQC.out]); (try with_reducible rfl)))); (try simp only [Act.put, List.setIfInBounds_toArray, List.set_cons_zero, List.set_cons_succ])); ((refine wpAnyH_take (i := 23) (oi := { dst := some 103, op := Op.pick (Operand.tmp 91) (Operand.const (Value.bool true)) (Operand.tmp 102), type := 4, pos := "laws.go:433", after := #[{ on := 11, ground := Ground.data }, { on := 22, ground := Ground.data }], guard := none }) (v := ?_) rfl (by kernel_rfl) (by kernel_rfl) (by kernel_rfl) (fun _ _ _ h => h) (Or.inl ⟨by rfl, ?_⟩) (by assumption) ?_; rotate_left 1; (· (intro w hSw; (try dsimp only at hSw); go_simp; (try simp only [HQC.out]); (try with_reducible rfl)))); (try simp only [Act.put, List.setIfInBounds_toArray, List.set_cons_zero, List.set_cons_succ])); (refine wpAnyH_done (by kernel_rfl) ?_ _))
              go_wp2_with fail
              go_roundw
              case rel => exact ⟨k + 1, by omega, by go_num, by rw [HGG.out], by rw [HGG.out]; exact hp, HKP.out.trans (HKQ.out.drew)⟩
              case measure => simp [intOf]; omega
        · obtain rfl : k = m := by omega
          have HG1 := Lib.hid HZG.out
          rw [HG1.out]
          have HKP := Lib.hid (HK6.out.trans hkp)
          obtain ⟨T, hT⟩ : ∃ T, T = woM Z 0 := ⟨_, rfl⟩
          have HT := Lib.hid hT
          have t5 : q + 1 ≤ T := by rw [hT, ← HCA.out]; exact HZ5.out
          have t6 : ¬ (T = 0) := by have := HZ6.out; omega
          have HRZ' := Lib.hid (HRZ.out.kp (HK56.out.trans hkp))
          clear hkp hT
          go_wp2_with fail
          refine (iWeightOf_any _ k _ Z 0 _ HZL.out (by omega) HRZ'.out).mono ?_
          rw [← HT.out]
          rintro e w8 ⟨rfl, hk8⟩
          have HK8 := Lib.hid (HKP.out.trans hk8)
          clear hk8
          go_wp2_with fail
          refine (iIsBalanced_any _ k _ M _ HLM.out (by omega) (HRD.out.kp HK8.out)).mono ?_
          cases hbm : balB M with
          | false =>
            rintro e w9 ⟨rfl, hk9⟩
            go_wp2_with fail
            go_ret
            exact ⟨rfl, HK1.out.trans (HK8.out.trans hk9)⟩
          | true =>
            obtain ⟨W0, hW0⟩ : ∃ W0, W0 = woM M 0 := ⟨_, rfl⟩
            have hdv := HZ7.out hbm
            rw [← HT.out, ← hW0] at hdv
            have hmod : W0.tmod T = 0 := Int.tmod_eq_zero_of_dvd hdv
            have HW := Lib.hid hW0
            rintro e w9 ⟨rfl, hk9⟩
            have HK9 := Lib.hid (HK8.out.trans hk9)
            clear hk9 hdv hW0
            go_wp2_with fail
            refine (iWeightOf_any _ k _ M 0 _ HLM.out (by omega) (HRD.out.kp HK9.out)).mono ?_
            rw [← HW.out]
            rintro e w10 ⟨rfl, hk10⟩
            go_wp2_with fail
            go_ret
            exact ⟨rfl, HK1.out.trans (HK9.out.trans hk10)⟩
set_option maxRecDepth 100000 in
theorem lifted (os : Os) (started : os.Started) (H : Type) (enc : TypeId × Value → H) :
    ReturnsInHanded {} Try.checked os 9 .any (Rows.fnMobilesSpec.pre6 enc Try.prog Try.f9 Rows.fnMobilesRow.domain false) (Rows.fnMobilesSpec.post enc Try.prog Try.f9 false true false false) := by
  refine returnsInHanded_of_change (C := Try.checked) own started (by kernel_rfl) Try.func9
    (ChangeSpec.witness6 (enc := enc) (C := Try.checked) false ⟨#[], #[.slice none 0 0], []⟩ 8 (by kernel_rfl) (by kernel_rfl) (by kernel_rfl) (by kernel_rfl)) ?_
  intro W base args ds gs before hval hW _ _
  obtain ⟨p, q, hA0, hV, rfl, _, _⟩ := id hW
  have hA : DataW.TrodAll enc Try.prog W 0 (fun _ => true) true Try.f9.params.toList args.toList ds p := hA0
  rw [Try.params9] at hA hval
  obtain ⟨v0, vs0, d0, ds0, p0, q0, hargs, rfl, rfl, h0, r0⟩ := trodAll_cons hA
  obtain ⟨rfl, rfl, rfl⟩ := trodAll_nil r0
  obtain rfl : args = #[v0] := by cases args; simp_all
  obtain ⟨rfl, rfl⟩ := trodVars_none hV
  obtain ⟨A0, n0, c0, x0, rfl, l0, b0, rd0, wx0⟩ := open_intlist Try.underlying36 Try.underlying5 (by kernel_rfl) (hval 0 36 v0 rfl rfl) h0
  refine (walk A0 n0 c0 x0 W l0 b0 rd0 (fun x h => u8_wf (wx0 x h))).mono fun e W' ⟨he, hb⟩ => ⟨_, he, law_post laidOut (by kernel_rfl) rfl hW hb rfl rfl rfl (by kernel_rfl) (B := 4) Try.underlying4⟩
theorem proved : Rows.FnMobilesSaid :=
  OpenClaim.holds_of_wide 9 Try.f9 rfl rfl rfl rfl rfl rfl rfl ⟨rfl, rfl, rfl, rfl, rfl⟩ rfl rfl rfl rfl rfl (by kernel_rfl) Try.func9 (by kernel_rfl)
    (of_decide_eq_true (by kernel_rfl)) (by unfold Func.isWrapper; rw [if_neg (of_decide_eq_false (by kernel_rfl))]; exact ⟨rfl, rfl⟩)
    (fun os started H enc _ => lifted os started H enc)
#print axioms proved
end fnMobiles
end Go.Proofs.Ytajdppfngnpklaa
