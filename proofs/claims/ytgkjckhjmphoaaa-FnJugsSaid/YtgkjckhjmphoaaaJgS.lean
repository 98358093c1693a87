/- FewestPours: the walk of the reference's table of distances. -/
import Derived.Test.YtgkjckhjmphoaaaJgT
import Derived.Test.YtgkjckhjmphoaaaApp
import Derived.Test.YtgkjckhjmphoaaaPourS
import Derived.Deep.LoopGhost
import Derived.Deep.DeepMust
set_option linter.unusedVariables false
namespace Go.Proofs.Ytgkjckhjmphoaaa
open Go.RowKit
theorem cell_gb {w W : World} {r : Option Nat} {p : Addr} {v : Value} (h : w.grownBy W r) (hne : some p.block ≠ r) (hc : w.cell? p = some v) : W.cell? p = some v :=
  (World.cell?_of_block (h.block p.block (cell_lt hc) hne)).trans hc
theorem gb_kp {w w' : World} (h : Kp w w') (r : Option Nat) : w.grownBy w' r := ⟨h.os, h.tape, h.output, h.size, fun k hk _ => h.block k hk⟩
theorem gb_refl (w : World) (r : Option Nat) : w.grownBy w r := ⟨rfl, rfl, rfl, Nat.le_refl _, fun _ _ _ => rfl⟩
theorem introw_at {B : Nat} {w : World} {g n cap : Nat} {L : List Int} (h : w.ownsRow B 3 1 (.slice (some ⟨g, 0, none⟩) n cap) n (L.map (Value.int .i64))) (hl : L.length = n) {c : Nat} (hc : c < n) (v : Int) :
    w.cell? ⟨g, c, none⟩ = some (.int .i64 (L.getD c 0)) ∧ w.frozen? ⟨g, c, none⟩ = false ∧ (w.setCell ⟨g, c, none⟩ (.int .i64 v)).ownsRow B 3 1 (.slice (some ⟨g, 0, none⟩) n cap) n ((L.set c v).map (Value.int .i64)) ∧ w.grownBy (w.setCell ⟨g, c, none⟩ (.int .i64 v)) (some g) := by
  have hs := World.ownsRow.stored h c (.int .i64 v)
  refine ⟨?_, World.ownsRow.frozenAt h c, ?_, hs.2⟩
  · rw [World.ownsRow.cellAt h c (by omega), List.getElem?_map, List.getElem?_eq_getElem (by omega), List.getD_eq_getElem?_getD, List.getElem?_eq_getElem (by omega)]; rfl
  · rw [List.map_set]; exact hs.1
theorem key_any (f s : Int) (a b c : Nat) (ha : a ≤ 20) (hb : b ≤ 20) (hc : c = a * 21 + b) (w : World) :
    Calls Try.prog 30 #[.agg #[.int .i64 f, .int .i64 s, .int .i64 (a : Int), .int .i64 (b : Int)]] w fun e w' => e = .returned (.int .i64 (c : Int)) ∧ Kp w w' := by
  have hc' : (a : Int) * 21 + (b : Int) = (c : Int) := by omega
  have hcb : c ≤ 440 := by omega
  clear hc
  go_enter Try.func30, Try.ntmps30
  go_wp2_with fail
  go_ret
  exact ⟨rfl, (Kp.refl w).alloc _⟩
/-- What a pass has done so far. -/
def Ps (t t' : List Int) (ch : Bool) : Prop := (ch = false ∧ t' = t) ∨ (ch = true ∧ ngs t' + 1 ≤ ngs t)
theorem Ps.set {t t' : List Int} {ch : Bool} {p : Nat} {v : Int} (h : Ps t t' ch) (hp : p < t'.length) (h0 : t'.getD p 0 < 0) (hv : 0 ≤ v) : Ps t (t'.set p v) true := by
  have h1 := ngs_set t' p v hp h0 hv
  rcases h with ⟨_, rfl⟩ | ⟨_, h⟩
  · exact .inr ⟨rfl, by omega⟩
  · exact .inr ⟨rfl, by omega⟩
theorem tz_of {f s goal : Int} {L : List Int} (hl : L.length = 441) (h : ∀ c, c < 441 → L.getD c 0 = -1) : TZ f s goal 0 L := ⟨hl, fun c h => by omega, fun c _ hc => h c hc⟩
/-- The jugs in a block. -/
def JC (w : World) (b : Nat) (f s : Int) (p q : Nat) : Prop := w.cell? ⟨b, 0, none⟩ = some (.int .i64 f) ∧ w.cell? ⟨b, 1, none⟩ = some (.int .i64 s) ∧ w.cell? ⟨b, 2, none⟩ = some (.int .i64 (p : Int)) ∧ w.cell? ⟨b, 3, none⟩ = some (.int .i64 (q : Int))
theorem JC.gb {w w' : World} {b : Nat} {f s : Int} {p q : Nat} {r : Option Nat} (h : JC w b f s p q) (hg : w.grownBy w' r) (hne : some b ≠ r) : JC w' b f s p q :=
  ⟨cell_gb hg hne h.1, cell_gb hg hne h.2.1, cell_gb hg hne h.2.2.1, cell_gb hg hne h.2.2.2⟩
theorem JC.fresh (w : World) (f s : Int) (p q : Nat) (t : TypeId) : JC (w.alloc (.cells #[.int .i64 f, .int .i64 s, .int .i64 (p : Int), .int .i64 (q : Int)] t)) w.heap.size f s p q :=
  ⟨by simp [go_sem], by simp [go_sem], by simp [go_sem], by simp [go_sem]⟩
set_option maxRecDepth 20000 in
set_option maxHeartbeats 12800000 in
theorem dist_any (f s goal : Int) (hf : 1 ≤ f ∧ f ≤ 20) (hs : 1 ≤ s ∧ s ≤ 20) (hgo : 0 ≤ goal ∧ goal ≤ 20) (w : World) :
    Calls Try.prog 29 #[.int .i64 f, .int .i64 s, .int .i64 goal] w fun e w' => ∃ t, e = .returned (.slice (some ⟨w.heap.size, 0, none⟩) 441 441) ∧ TF f s goal t ∧ w'.ownsRow w.heap.size 3 1 (.slice (some ⟨w.heap.size, 0, none⟩) 441 441) 441 (t.map (.int .i64)) ∧ Kp w w' := by
  obtain ⟨i0, hi, hz0, hz1, hz2⟩ := info_parts int_info
  obtain ⟨F, rfl⟩ : ∃ F : Nat, f = (F : Int) := ⟨f.toNat, by omega⟩
  obtain ⟨S, rfl⟩ : ∃ S : Nat, s = (S : Int) := ⟨s.toNat, by omega⟩
  have hF : 1 ≤ F ∧ F ≤ 20 := by omega
  have hS : 1 ≤ S ∧ S ≤ 20 := by omega
  clear hf hs
  go_enter Try.func29, Try.ntmps29
  go_wp2_with (at_make; refine wpList_make_full _ rfl _ _ 32 rfl w.heap.size 3 i0 (.int .i64 0) 1 Try.underlying32 hi hz0 hz1 .i64 .i64 _ _ 441 rfl rfl (by omega) (by omega) (by rw [hz2]; omega) (by unfold maxLen; omega) (Nat.le_refl _) ?_; intro w2 hown2 hgrow2; have hk2 := (Kp.refl w).grown hgrow2 (fun k e => by cases e); rw [show (Value.int .i64 0).cells = #[.int .i64 0] from rfl, toList_madeCells_one, Nat.mul_one] at hown2; have HO2 := Lib.hid hown2; have HK2 := Lib.hid hk2; clear hown2 hk2 hgrow2)
  obtain ⟨g, hg⟩ : ∃ g, g = w.heap.size := ⟨_, rfl⟩
  have HG := Lib.hid hg
  have HO3 := Lib.hid (show w2.ownsRow g 3 1 (.slice (some ⟨g, 0, none⟩) 441 441) 441 ((List.replicate 441 (0 : Int)).map (Value.int .i64)) by rw [List.map_replicate, hg]; exact HO2.out)
  rw [← hg]
  clear hg HO2
  go_loopw [8] (fun kv wr => ∃ k : Nat, k ≤ 441 ∧ kv = .int .i64 (k : Int) ∧ ∃ L : List Int, L.length = 441 ∧ (∀ c, c < k → L.getD c 0 = -1) ∧ wr.ownsRow g 3 1 (.slice (some ⟨g, 0, none⟩) 441 441) 441 (L.map (Value.int .i64)) ∧ Kp w wr) (fun kv _ => 441 - (intOf kv).toNat)
  case atStart => exact ⟨0, by omega, rfl, _, List.length_replicate, fun c h => by omega, HO3.out, HK2.out⟩
  case round =>
    obtain ⟨k, hk, rfl, L, hl, hall, hrow, hkp⟩ := hrel
    by_cases hlt : k < 441
    · have hin := introw_at hrow hl hlt (-1)
      have ck := hin.1
      have fk := hin.2.1
      have hlt' : (k : Int) < 441 := by omega
      obtain ⟨X, hX⟩ : ∃ X, X = L.getD k 0 := ⟨_, rfl⟩
      rw [← hX] at ck
      have HRW := Lib.hid hin.2.2.1
      have HGB := Lib.hid (hkp.grown hin.2.2.2 (fun k e => by cases e; have := HG.out; omega))
      have HALL := Lib.hid (show ∀ c, c < k + 1 → (L.set k (-1)).getD c 0 = -1 from fun c hc => by
        by_cases e : c = k
        · subst e; exact getD_set_self (by omega) _
        · rw [getD_set_ne e]; exact hall c (by omega))
      have HLL := Lib.hid (show (L.set k (-1)).length = 441 by rw [List.length_set]; exact hl)
      clear hin hrow hkp hall hl hX
      go_wp2_with fail
      go_roundw
      case rel => exact ⟨k + 1, by omega, by go_num, _, HLL.out, HALL.out, HRW.out, HGB.out⟩
      case measure => simp [intOf]; omega
    · have hk4 : ¬ ((k : Int) < 441) := by omega
      have HZ0 := Lib.hid (tz_of (f := (F : Int)) (s := (S : Int)) (goal := goal) hl (fun c hc => hall c (by omega)))
      have HRW := Lib.hid hrow
      have HKP := Lib.hid hkp
      clear hl hall hrow hkp
      go_wp2_with fail
      go_loopw [9] (fun av wr => ∃ a : Nat, a ≤ F + 1 ∧ av = .int .i64 (a : Int) ∧ ∃ L : List Int, TZ (F : Int) (S : Int) goal (a * 21) L ∧ wr.ownsRow g 3 1 (.slice (some ⟨g, 0, none⟩) 441 441) 441 (L.map (Value.int .i64)) ∧ Kp w wr) (fun av _ => F + 1 - (intOf av).toNat)
      case atStart => exact ⟨0, by omega, rfl, L, by rw [Nat.zero_mul]; exact HZ0.out, HRW.out, HKP.out⟩
      case round =>
        obtain ⟨a, ha, rfl, L, htz, hrow, hkp⟩ := hrel
        have HTZ := Lib.hid htz
        have HRW := Lib.hid hrow
        have HKP := Lib.hid hkp
        clear htz hrow hkp
        by_cases hlt : a ≤ F
        · go_wp2_with fail
          go_loopw [10] (fun bv wr => ∃ b : Nat, b ≤ S + 1 ∧ bv = .int .i64 (b : Int) ∧ ∃ L : List Int, TZ (F : Int) (S : Int) goal (a * 21 + b) L ∧ wr.ownsRow g 3 1 (.slice (some ⟨g, 0, none⟩) 441 441) 441 (L.map (Value.int .i64)) ∧ Kp w wr) (fun bv _ => S + 1 - (intOf bv).toNat)
          case atStart => exact ⟨0, by omega, rfl, L, HTZ.out, HRW.out, HKP.out⟩
          case round =>
            obtain ⟨b, hb, rfl, L, htz, hrow, hkp⟩ := hrel
            by_cases hlb : b ≤ S
            · obtain ⟨p, hp⟩ : ∃ p, p = a * 21 + b := ⟨_, rfl⟩
              rw [← hp] at htz
              have eP : (a : Int) * 21 + (b : Int) = (p : Int) := by omega
              have eN : a * 21 + b = p := hp.symm
              have hp1 : p < 441 := by omega
              have hua := jc_of (u := a) (v := b) (by omega)
              rw [← hp] at hua
              have hok : okJ (F : Int) (S : Int) p := okJ_of (by omega) (by omega) (by rw [hua.1]; omega) (by rw [hua.2]; omega)
              by_cases hgl : Gl goal p
              · have HNX := Lib.hid (htz.set hok hgl)
                have hin := introw_at hrow htz.len hp1 0
                have cp := hin.1
                have fp := hin.2.1
                obtain ⟨X, hX⟩ : ∃ X, X = L.getD p 0 := ⟨_, rfl⟩
                rw [← hX] at cp
                have HRW2 := Lib.hid hin.2.2.1
                have HKP2 := Lib.hid (hkp.grown hin.2.2.2 (fun k e => by cases e; have := HG.out; omega))
                have hgl2 : (a : Int) = goal ∨ (b : Int) = goal := by unfold Gl at hgl; rw [hua.1, hua.2] at hgl; exact hgl
                have p0 : (0 : Int) ≤ (p : Int) := by omega
                have p1 : (p : Int) < 441 := by omega
                have HP := Lib.hid hp
                clear hin hrow hkp hgl htz hok hua hX hp
                by_cases e1 : (a : Int) = goal
                · have t1 : ((a : Int) == goal) = true := by simp [e1]
                  clear e1 hgl2
                  go_wp2_with fail
                  go_roundw
                  case rel => exact ⟨b + 1, by omega, by go_num, _, by rw [← Nat.add_assoc, ← HP.out]; exact HNX.out, HRW2.out, HKP2.out⟩
                  case measure => simp [intOf]; omega
                · have t1 : ((a : Int) == goal) = false := by simp [e1]
                  have t2 : ((b : Int) == goal) = true := by rcases hgl2 with h | h; exact absurd h e1; simp [h]
                  clear hgl2 e1
                  go_wp2_with fail
                  go_roundw
                  case rel => exact ⟨b + 1, by omega, by go_num, _, by rw [← Nat.add_assoc, ← HP.out]; exact HNX.out, HRW2.out, HKP2.out⟩
                  case measure => simp [intOf]; omega
              · have HNX := Lib.hid (htz.keep hgl)
                have HRW2 := Lib.hid hrow
                have HKP2 := Lib.hid hkp
                have t1 : ((a : Int) == goal) = false := by simp; exact fun h => hgl (.inl (by rw [hua.1]; exact h))
                have t2 : ((b : Int) == goal) = false := by simp; exact fun h => hgl (.inr (by rw [hua.2]; exact h))
                have HP := Lib.hid hp
                clear hrow hkp hgl htz hok hua hp eP eN
                go_wp2_with fail
                go_roundw
                case rel => exact ⟨b + 1, by omega, by go_num, _, by rw [← Nat.add_assoc, ← HP.out]; exact HNX.out, HRW2.out, HKP2.out⟩
                case measure => simp [intOf]; omega
            · obtain rfl : b = S + 1 := by omega
              have HNX := Lib.hid (htz.skipTo (p' := (a + 1) * 21) (by omega) (fun c h1 h2 => bad_row (a := a) (by simpa using h1) h2 (by omega)))
              have HRW2 := Lib.hid hrow
              have HKP2 := Lib.hid hkp
              clear htz hrow hkp
              go_wp2_with fail
              go_roundw
              case rel => exact ⟨a + 1, by omega, by go_num, _, HNX.out, HRW2.out, HKP2.out⟩
              case measure => simp [intOf]; omega
        · have ha4 : ¬ ((a : Int) ≤ (F : Int)) := by omega
          have HQ0 := Lib.hid (TZ.done (HTZ.out.skipTo (p' := 441) (by omega) (fun c h1 h2 => bad_end (by rw [Int.toNat_natCast]; omega) (by omega))))
          have hng := ngs_le L
          rw [HTZ.out.len] at hng
          go_wp2_with fail
          go_loopg [11, 12] 442 (fun gk cv nv wr => ∃ (n : Nat) (ch : Bool) (t : List Int), nv = .int .i64 (n : Int) ∧ cv = .bool ch ∧ wr.ownsRow g 3 1 (.slice (some ⟨g, 0, none⟩) 441 441) 441 (t.map (Value.int .i64)) ∧ Kp w wr ∧ ((ch = true ∧ TQ (F : Int) (S : Int) goal n 0 t ∧ n + ngs t ≤ 441 ∧ ngs t + 1 ≤ gk) ∨ (ch = false ∧ TF (F : Int) (S : Int) goal t)))
          case atStart => exact ⟨0, true, L, rfl, rfl, HRW.out, HKP.out, .inl ⟨rfl, HQ0.out, by omega, by omega⟩⟩
          case round =>
            obtain ⟨n, ch, t, rfl, rfl, hrow, hkp, hcase⟩ := hrel
            rcases hcase with ⟨rfl, htq, hn1, hn2⟩ | ⟨rfl, htf⟩
            · have HTQ := Lib.hid htq
              have HRW := Lib.hid hrow
              have HKP := Lib.hid hkp
              clear htq hrow hkp
              go_wp2_with fail
              go_loopw [11, 13] (fun cv av wr => ∃ (a : Nat) (ch : Bool) (t' : List Int), a ≤ F + 1 ∧ av = .int .i64 (a : Int) ∧ cv = .bool ch ∧ TQ (F : Int) (S : Int) goal n (a * 21) t' ∧ Ps t t' ch ∧ wr.ownsRow g 3 1 (.slice (some ⟨g, 0, none⟩) 441 441) 441 (t'.map (.int .i64)) ∧ Kp w wr) (fun _ av _ => F + 1 - (intOf av).toNat)
              case atStart => exact ⟨0, false, t, by omega, rfl, rfl, by rw [Nat.zero_mul]; exact HTQ.out, .inl ⟨rfl, rfl⟩, HRW.out, HKP.out⟩
              case round =>
                obtain ⟨a, ch, t1, ha, rfl, rfl, htq, hps, hrow, hkp⟩ := hrel
                have HTQ1 := Lib.hid htq
                have HPS := Lib.hid hps
                have HRW := Lib.hid hrow
                have HKP := Lib.hid hkp
                clear htq hps hrow hkp
                by_cases hlt : a ≤ F
                · go_wp2_with fail
                  go_loopw [11, 14] (fun cv bv wr => ∃ (b : Nat) (ch : Bool) (t' : List Int), b ≤ S + 1 ∧ bv = .int .i64 (b : Int) ∧ cv = .bool ch ∧ TQ (F : Int) (S : Int) goal n (a * 21 + b) t' ∧ Ps t t' ch ∧ wr.ownsRow g 3 1 (.slice (some ⟨g, 0, none⟩) 441 441) 441 (t'.map (.int .i64)) ∧ Kp w wr) (fun _ bv _ => S + 1 - (intOf bv).toNat)
                  case atStart => exact ⟨0, ch, t1, by omega, rfl, rfl, HTQ1.out, HPS.out, HRW.out, HKP.out⟩
                  case round =>
                    obtain ⟨b, ch, t2, hb, rfl, rfl, htq, hps, hrow, hkp⟩ := hrel
                    obtain ⟨wb, hwb⟩ : ∃ wb, wb = wr := ⟨_, rfl⟩
                    subst hwb
                    have HTQ2 := Lib.hid htq
                    have HPS2 := Lib.hid hps
                    have HRW2 := Lib.hid hrow
                    have HKP2 := Lib.hid hkp
                    have hgb : g < wb.heap.size := (World.ownsRow.lt hrow g rfl).2
                    clear htq hps hrow hkp
                    by_cases hlb : b ≤ S
                    · obtain ⟨p, hp⟩ : ∃ p, p = a * 21 + b := ⟨_, rfl⟩
                      have hp1 : p < 441 := by omega
                      have hua := jc_of (u := a) (v := b) (by omega)
                      rw [← hp] at hua
                      have HUA := Lib.hid hua
                      have HOK := Lib.hid (show okJ (F : Int) (S : Int) p from okJ_of (by omega) (by omega) (by rw [hua.1]; omega) (by rw [hua.2]; omega))
                      have HP := Lib.hid hp
                      have HTA := Lib.hid (show TA (F : Int) (S : Int) goal n p 1 t2 from TA.start (by rw [hp]; exact HTQ2.out) HOK.out)
                      have HJ0 := Lib.hid (JC.fresh wb (F : Int) (S : Int) a b 25)
                      have HRW3 := Lib.hid (HRW2.out.alloc (.cells #[.int .i64 (F : Int), .int .i64 (S : Int), .int .i64 (a : Int), .int .i64 (b : Int)] 25))
                      have HKP3 := Lib.hid (HKP2.out.alloc (.cells #[.int .i64 (F : Int), .int .i64 (S : Int), .int .i64 (a : Int), .int .i64 (b : Int)] 25))
                      have hne : wb.heap.size ≠ g := by omega
                      clear hp hua
                      go_wp2_with fail
                      go_loopw [11, 16] (fun cv kv wr => ∃ (act : Nat) (ch : Bool) (t' : List Int), (1 ≤ act ∧ act ≤ 7) ∧ kv = .int .i64 (act : Int) ∧ cv = .bool ch ∧ TA (F : Int) (S : Int) goal n p (act : Int) t' ∧ Ps t t' ch ∧ wr.ownsRow g 3 1 (.slice (some ⟨g, 0, none⟩) 441 441) 441 (t'.map (.int .i64)) ∧ JC wr wb.heap.size (F : Int) (S : Int) a b ∧ Kp w wr) (fun _ kv _ => 7 - (intOf kv).toNat)
                      case atStart => exact ⟨1, ch, t2, by omega, rfl, rfl, HTA.out, HPS2.out, HRW3.out, HJ0.out, HKP3.out⟩
                      case round =>
                        obtain ⟨act, ch, t3, hact, rfl, rfl, hta, hps, hrow, hjc, hkp⟩ := hrel
                        have hbp := hta.bd hp1
                        have cp := (introw_at hrow hta.len hp1 0).1
                        obtain ⟨b0, b1, b2, b3⟩ := id hjc
                        obtain ⟨X, hX⟩ : ∃ X, X = t3.getD p 0 := ⟨_, rfl⟩
                        rw [← hX] at cp hbp
                        have p0 : (0 : Int) ≤ (p : Int) := by omega
                        have p1 : (p : Int) < 441 := by omega
                        have HX := Lib.hid hX
                        have HTA := Lib.hid hta
                        have HPS3 := Lib.hid hps
                        have HRW3 := Lib.hid hrow
                        have HJC := Lib.hid hjc
                        have HKP3 := Lib.hid hkp
                        clear hta hps hrow hjc hkp hX
                        by_cases h6 : act ≤ 6
                        · by_cases hx0 : X < 0
                          · go_wp2_with (go_at_call 30; refine (key_any (F : Int) (S : Int) a b p (by omega) (by omega) HP.out _).mono ?_; rintro e w3 ⟨rfl, hk3⟩; have cp := hk3.at1 cp; have b0 := hk3.at1 b0; have b1 := hk3.at1 b1; have b2 := hk3.at1 b2; have b3 := hk3.at1 b3)
                            have HRW4 := Lib.hid (owns_kp HRW3.out hk3)
                            have HJC4 := Lib.hid (show JC w3 wb.heap.size (F : Int) (S : Int) a b from ⟨b0, b1, b2, b3⟩)
                            have HKP4 := Lib.hid (HKP3.out.trans hk3)
                            clear hk3
                            refine (specPour_any _ _ _ _ _ _).mono ?_
                            obtain ⟨ok, hok⟩ : ∃ ok, ok = pOk (F : Int) (S : Int) (a : Int) (b : Int) (act : Int) := ⟨_, rfl⟩
                            rw [← hok]
                            rintro e w4 ⟨rfl, hk4⟩
                            have HRW5 := Lib.hid (owns_kp HRW4.out hk4)
                            have HJC5 := Lib.hid (HJC4.out.gb (gb_kp hk4 none) (by simp))
                            have HKP5 := Lib.hid (HKP4.out.trans hk4)
                            clear hk4 cp b0 b1 b2 b3
                            cases ok with
                            | false =>
                              have HNX := Lib.hid (show TA (F : Int) (S : Int) goal n p ((act : Int) + 1) t3 from HTA.out.skip (fun x hx => by have h := hx.1; rw [HUA.out.1, HUA.out.2, ← hok] at h; cases h))
                              obtain ⟨R1, hR1⟩ : ∃ R1, R1 = rA (F : Int) (S : Int) (a : Int) (b : Int) (act : Int) := ⟨_, rfl⟩
                              obtain ⟨R2, hR2⟩ : ∃ R2, R2 = rB (F : Int) (S : Int) (a : Int) (b : Int) (act : Int) := ⟨_, rfl⟩
                              rw [← hR1, ← hR2]
                              have HRW6 := Lib.hid (HRW5.out.alloc (.cells #[.int .i64 (F : Int), .int .i64 (S : Int), .int .i64 R1, .int .i64 R2] 25))
                              have HJC6 := Lib.hid (HJC5.out.gb (World.grownBy_alloc w4 (.cells #[.int .i64 (F : Int), .int .i64 (S : Int), .int .i64 R1, .int .i64 R2] 25) none) (by simp))
                              have HKP6 := Lib.hid (HKP5.out.alloc (.cells #[.int .i64 (F : Int), .int .i64 (S : Int), .int .i64 R1, .int .i64 R2] 25))
                              clear hok hR1 hR2
                              go_wp2_with fail
                              go_roundw
                              case rel => exact ⟨act + 1, ch, t3, by omega, by go_num, rfl, HNX.out, HPS3.out, HRW6.out, HJC6.out, HKP6.out⟩
                              case measure => simp [intOf]; omega
                            | true =>
                              obtain ⟨e, he⟩ : ∃ e, Px (F : Int) (S : Int) p (act : Int) e := px_ex (by rw [HUA.out.1, HUA.out.2]; exact hok.symm)
                              obtain ⟨_, e1, e2⟩ := id he
                              rw [HUA.out.1, HUA.out.2] at e1 e2
                              rw [← e1, ← e2]
                              have heo := (px_ok he).2
                              have hel := (okJ_lt heo).1
                              have hue : ua e ≤ 20 ∧ vb e ≤ 20 := ⟨(okJ_lt heo).2.1, vb_le e⟩
                              have hYn := HTA.out.val (x := e) (by rw [← HX.out]; exact hx0) heo
                              have hYb := HTA.out.bd hel
                              have ce := (introw_at HRW5.out HTA.out.len hel 0).1
                              obtain ⟨Y, hY⟩ : ∃ Y, Y = t3.getD e 0 := ⟨_, rfl⟩
                              rw [← hY] at ce hYn hYb
                              have ce := cell_alloc ce (.cells #[.int .i64 (F : Int), .int .i64 (S : Int), .int .i64 ((ua e : Nat) : Int), .int .i64 ((vb e : Nat) : Int)] 25)
                              have HE := Lib.hid he
                              have HRW6 := Lib.hid (HRW5.out.alloc (.cells #[.int .i64 (F : Int), .int .i64 (S : Int), .int .i64 ((ua e : Nat) : Int), .int .i64 ((vb e : Nat) : Int)] 25))
                              have HJC6 := Lib.hid (HJC5.out.gb (World.grownBy_alloc w4 (.cells #[.int .i64 (F : Int), .int .i64 (S : Int), .int .i64 ((ua e : Nat) : Int), .int .i64 ((vb e : Nat) : Int)] 25) none) (by simp))
                              have HKP6 := Lib.hid (HKP5.out.alloc (.cells #[.int .i64 (F : Int), .int .i64 (S : Int), .int .i64 ((ua e : Nat) : Int), .int .i64 ((vb e : Nat) : Int)] 25))
                              have y0 : (0 : Int) ≤ (e : Int) := by omega
                              have y1 : (e : Int) < 441 := by omega
                              have HEE := Lib.hid (jc_eq e)
                              clear hok he e1 e2 heo hY
                              by_cases hyn : Y = (n : Int)
                              · have HDM := Lib.hid (hYn.1 hyn)
                                have t1 : (Y == (n : Int)) = true := by simp [hyn]
                                have HNX := Lib.hid (HTA.out.set (b := (act : Int) + 1) HOK.out (by rw [← HX.out]; exact hx0) HE.out HDM.out)
                                have HPN := Lib.hid (HPS3.out.set (p := p) (v := (n : Int) + 1) (by rw [HTA.out.len]; exact hp1) (by rw [← HX.out]; exact hx0) (by omega))
                                clear hYn hyn
                                go_wp2_with (first
                                  | (go_at_call 30; refine (key_any (F : Int) (S : Int) (ua e) (vb e) e hue.1 hue.2 HEE.out _).mono ?_; rintro e' w5 ⟨rfl, hk5⟩; have ce := hk5.at1 ce; have HJC7 := Lib.hid (HJC6.out.gb (gb_kp hk5 none) (by simp)); have b0 := HJC7.out.1; have b1 := HJC7.out.2.1; have b2 := HJC7.out.2.2.1; have b3 := HJC7.out.2.2.2)
                                  | (go_at_call 30; refine (key_any (F : Int) (S : Int) a b p (by omega) (by omega) HP.out _).mono ?_; rintro e' w6 ⟨rfl, hk6⟩; have HRW7 := Lib.hid (owns_kp (owns_kp HRW6.out hk5) hk6); have hin := introw_at HRW7.out HTA.out.len hp1 ((n : Int) + 1); have HIN := Lib.hid hin.2.2; have cp := hin.1; have fp := hin.2.1; clear hin))
                                go_roundw
                                case rel => exact ⟨act + 1, true, _, by omega, by go_num, rfl, HNX.out, HPN.out, HIN.out.1, (HJC7.out.gb (gb_kp hk6 none) (by simp)).gb HIN.out.2 (by simp; exact hne), ((HKP6.out.trans hk5).trans hk6).grown HIN.out.2 (fun k e => by cases e; have := HG.out; omega)⟩
                                case measure => simp [intOf]; omega
                              · have HNX := Lib.hid (show TA (F : Int) (S : Int) goal n p ((act : Int) + 1) t3 from HTA.out.skip (fun x hx hd => by rw [px_fun hx HE.out] at hd; exact hyn (hYn.2 hd)))
                                have t1 : (Y == (n : Int)) = false := by simp [hyn]
                                clear hYn hyn
                                go_wp2_with (go_at_call 30; refine (key_any (F : Int) (S : Int) (ua e) (vb e) e hue.1 hue.2 HEE.out _).mono ?_; rintro e' w5 ⟨rfl, hk5⟩; have ce := hk5.at1 ce)
                                go_roundw
                                case rel => exact ⟨act + 1, ch, t3, by omega, by go_num, rfl, HNX.out, HPS3.out, owns_kp HRW6.out hk5, HJC6.out.gb (gb_kp hk5 none) (by simp), HKP6.out.trans hk5⟩
                                case measure => simp [intOf]; omega
                          · have HDN := Lib.hid (HTA.out.done HOK.out (.inl (by rw [← HX.out]; omega)))
                            go_wp2_with (go_at_call 30; refine (key_any (F : Int) (S : Int) a b p (by omega) (by omega) HP.out _).mono ?_; rintro e w3 ⟨rfl, hk3⟩; have cp := hk3.at1 cp)
                            go_roundw
                            case rel => exact ⟨b + 1, ch, t3, by omega, by go_num, rfl, by rw [← Nat.add_assoc, ← HP.out]; exact HDN.out, HPS3.out, owns_kp HRW3.out hk3, HKP3.out.trans hk3⟩
                            case measure => simp [intOf]; omega
                        · obtain rfl : act = 7 := by omega
                          have HDN := Lib.hid (HTA.out.done HOK.out (.inr (by omega)))
                          go_wp2_with fail
                          go_roundw
                          case rel => exact ⟨b + 1, ch, t3, by omega, by go_num, rfl, by rw [← Nat.add_assoc, ← HP.out]; exact HDN.out, HPS3.out, HRW3.out, HKP3.out⟩
                          case measure => simp [intOf]; omega
                    · obtain rfl : b = S + 1 := by omega
                      have HNX := Lib.hid (HTQ2.out.skipTo (p' := (a + 1) * 21) (by omega) (fun c h1 h2 => bad_row (a := a) (by simpa using h1) h2 (by omega)))
                      go_wp2_with fail
                      go_roundw
                      case rel => exact ⟨a + 1, ch, t2, by omega, by go_num, rfl, HNX.out, HPS2.out, HRW2.out, HKP2.out⟩
                      case measure => simp [intOf]; omega
                · obtain rfl : a = F + 1 := by omega
                  have HDN := Lib.hid (HTQ1.out.skipTo (p' := 441) (by omega) (fun c h1 h2 => bad_end (by simpa using h1) (by omega)))
                  have hps := HPS.out
                  go_wp2_with fail
                  go_roundg (ngs t)
                  case measure => omega
                  case rel =>
                    refine ⟨n + 1, ch, t1, by go_num, rfl, HRW.out, HKP.out, ?_⟩
                    rcases hps with ⟨rfl, rfl⟩ | ⟨rfl, h⟩
                    · exact .inr ⟨rfl, HTQ.out.final HDN.out (by omega)⟩
                    · exact .inl ⟨rfl, HDN.out.next, by omega, h⟩
            · have HTF := Lib.hid htf
              have HRW := Lib.hid hrow
              have HKP := Lib.hid hkp
              clear htf hrow hkp
              go_wp2_with fail
              go_ret
              exact ⟨t, by rw [← HG.out] <;> rfl, HTF.out, by rw [← HG.out]; exact HRW.out, HKP.out⟩
end Go.Proofs.Ytgkjckhjmphoaaa
