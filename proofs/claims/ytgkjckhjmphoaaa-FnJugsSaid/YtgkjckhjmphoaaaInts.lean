/- Words for slices of ints, and the contracts of toIntS, eqIntS, markIntS, heldIntS. -/
import Derived.Test.YtgkjckhjmphoaaaWords
import Derived.Test.YtgkjckhjmphoaaaBase
set_option linter.unusedVariables false
namespace Go.Proofs.Ytgkjckhjmphoaaa
open Go.RowKit

theorem owns_kp {w w' : World} {B : Nat} {e : TypeId} {size : Nat} {v : Value} {n : Nat} {xs : List Value} (h : w.ownsRow B e size v n xs) (hk : Kp w w') : w'.ownsRow B e size v n xs :=
  h.kept (row := none) ⟨Below.os hk, Below.tape hk, Below.output hk, Below.size hk, fun k hk' _ => Below.block hk k hk'⟩ (by cases hv : v.ownBlock <;> simp)
theorem Reads.kp {w w' : World} {size n : Nat} {A : Option Addr} {xs : List Value} (h : Reads w w.heap.size size A n xs) (hk : Kp w w') : Reads w' w'.heap.size size A n xs :=
  (h.below hk).more hk.size
theorem Reads.cellOf {w : World} {B size n : Nat} {A : Option Addr} {xs : List Value} {k : Nat} (h : Reads w B size A n xs) (hk : k < n * size) :
    ∃ b off u, A = some ⟨b, off, none⟩ ∧ b < B ∧ xs[k]? = some u ∧ ∀ j u, xs[j]? = some u → w.cell? ⟨b, off + j, none⟩ = some u := by
  have hn : 0 < n := by
    rcases Nat.eq_zero_or_pos n with h0 | h0
    · subst h0; simp at hk
    · exact h0
  obtain ⟨ad, e, hb, hc⟩ := h.2 hn
  have hl : k < xs.length := by rw [h.1]; exact hk
  have h0 : 0 < xs.length := by omega
  have c0 := hc 0 _ (List.getElem?_eq_getElem h0)
  have hs : ad.spot = none := by
    have e0 : ad.add 0 = ad := by simp [Addr.add]
    rw [e0] at c0
    unfold World.cell? at c0
    split at c0
    · rename_i hh
      cases hsp : ad.spot with
      | none => rfl
      | some s => simp [hsp] at c0
    · cases c0
  obtain ⟨b, off, sp⟩ := ad
  simp only at hs
  subst hs
  refine ⟨b, off, xs[k], e, hb, List.getElem?_eq_getElem hl, fun j u hu => ?_⟩
  have := hc j u hu
  unfold Addr.add at this
  split at this
  · rename_i hj; subst hj; exact this
  · exact this

/-- A slice of ints that reads as the list; nil let in. -/
def RdI (w : World) (v : Value) (xs : List Int) : Prop := ∃ A c, v = .slice A xs.length c ∧ Reads w w.heap.size 1 A xs.length (xs.map (.int .i64))
/-- A slice of ints of the call's own. -/
def OwI (B : Nat) (w : World) (v : Value) (xs : List Int) : Prop := w.ownsRow B 3 1 v xs.length (xs.map (.int .i64))
theorem RdI.kp {w w' : World} {v : Value} {xs : List Int} (h : RdI w v xs) (hk : Kp w w') : RdI w' v xs := by
  obtain ⟨A, c, e, hr⟩ := h
  exact ⟨A, c, e, hr.kp hk⟩
theorem OwI.kp {B : Nat} {w w' : World} {v : Value} {xs : List Int} (h : OwI B w v xs) (hk : Kp w w') : OwI B w' v xs := owns_kp h hk
theorem OwI.rd {B : Nat} {w : World} {v : Value} {xs : List Int} (h : OwI B w v xs) : RdI w v xs := by
  rcases h.2 with ⟨rfl, h0⟩ | ⟨g, cap, cur, rfl, _⟩
  · have : xs = [] := List.eq_nil_of_length_eq_zero h0
    subst this
    exact ⟨none, 0, rfl, Reads.none_⟩
  · exact ⟨_, cap, rfl, Reads.of_own h⟩
theorem OwI.weak {B B' : Nat} {w : World} {v : Value} {xs : List Int} (h : OwI B w v xs) (hB : B' ≤ B) : OwI B' w v xs := by
  refine ⟨h.1, ?_⟩
  rcases h.2 with h0 | ⟨g, cap, cur, e, hb, r⟩
  · exact .inl h0
  · exact .inr ⟨g, cap, cur, e, by omega, r⟩
/-- The shape of an owned slice of ints that is not empty. -/
theorem OwI.form {B : Nat} {w : World} {v : Value} {xs : List Int} (h : OwI B w v xs) (hn : 0 < xs.length) : ∃ g cap, v = .slice (some ⟨g, 0, none⟩) xs.length cap ∧ B ≤ g ∧ g < w.heap.size := World.ownsRow.form h hn

theorem int_info : (Try.prog.info? 3).map (fun i => (i.zero, i.size, i.bytes)) = some (some (.int .i64 0), 1, 8) := by kernel_rfl

theorem get_map {xs : List Int} {k : Nat} (hk : k < xs.length) : (xs.map (Value.int .i64))[k]? = some (.int .i64 xs[k]) := by
  rw [List.getElem?_map, List.getElem?_eq_getElem hk]; rfl
theorem toIntS_step {xs : List Int} {k n : Nat} (hl : xs.length = n) (hk : k < n) :
    ((((xs.take k).map (Value.int .i64)) ++ List.replicate (n - k) (Value.int .i64 0)).set k (Value.int .i64 (xs[k]'(by omega)))) = ((xs.take (k + 1)).map (Value.int .i64)) ++ List.replicate (n - (k + 1)) (Value.int .i64 0) := by
  have h1 : ((xs.take k).map (Value.int .i64)).length = k := by simp; omega
  rw [List.set_append_right _ _ (by omega), h1, Nat.sub_self]
  obtain ⟨m, hm⟩ : ∃ m, n - k = m + 1 := ⟨n - k - 1, by omega⟩
  rw [hm, List.replicate_succ, List.set_cons_zero, show n - (k + 1) = m by omega, List.take_succ_eq_append_getElem (by omega), List.map_append, List.append_assoc]
  rfl
theorem toIntS_any (A : Option Addr) (n c : Nat) (xs : List Int) (w : World) (hl : xs.length = n) (hn : n ≤ 1048576) (hr : Reads w w.heap.size 1 A n (xs.map (.int .i64))) :
    Calls Try.prog 16 #[.slice A n c] w fun e w' => ∃ v, e = .returned v ∧ OwI w.heap.size w' v xs ∧ Kp w w' := by
  obtain ⟨i0, hi, hz0, hz1, hz2⟩ := info_parts int_info
  go_enter Try.func16, Try.ntmps16
  go_wp2_with (at_make; refine wpList_make_full _ rfl _ _ 32 rfl w.heap.size 3 i0 (.int .i64 0) 1 Try.underlying32 hi hz0 hz1 .i64 .i64 _ _ n rfl rfl rfl rfl (by rw [hz2]; omega) (by unfold maxLen; omega) (Nat.le_refl _) ?_; intro w1 hown1 hgrow1)
  have hk1 : Kp w w1 := (Kp.refl w).grown hgrow1 (by simp)
  rw [show (Value.int .i64 0).cells = #[.int .i64 0] from rfl, toList_madeCells_one] at hown1
  clear hgrow1
  go_loopw [4] (fun i wr => ∃ k : Nat, k ≤ n ∧ i = .int .i64 k ∧ wr.ownsRow w.heap.size 3 1 (.slice (some ⟨w.heap.size, 0, none⟩) n n) n (((xs.take k).map (Value.int .i64)) ++ List.replicate (n - k) (Value.int .i64 0)) ∧ Kp w wr)
    (fun i _ => n - (intOf i).toNat)
  case atStart => exact ⟨0, by omega, rfl, by simpa using hown1, hk1⟩
  case round =>
    obtain ⟨k, hk, rfl, hown, hkp⟩ := hrel
    by_cases hlt : k < n
    · obtain ⟨b, off, u, rfl, hb, hu, hc⟩ := (hr.kp hkp).cellOf (k := k) (by omega)
      have cx := hc k _ (get_map (by omega))
      have fg := hown.frozenAt k
      have hex : ∃ u, wr.cell? ⟨w.heap.size, k, none⟩ = some u := by
        rw [hown.cellAt k (by omega)]
        exact ⟨_, List.getElem?_eq_getElem (by rw [hown.1]; omega)⟩
      obtain ⟨u', cg⟩ := hex
      have hst := hown.stored k (.int .i64 (xs[k]'(by omega)))
      rw [toIntS_step hl hlt] at hst
      have HS := Lib.hid hst
      obtain ⟨y, hy⟩ : ∃ y, y = xs[k]'(by omega) := ⟨_, rfl⟩
      rw [← hy] at cx HS
      clear hst hy hc hu
      have HO := Lib.hid hown
      clear hown
      go_wp2
      go_roundw
      case rel => exact ⟨k + 1, by omega, by go_num, HS.out.1, hkp.setCell (by simp) _⟩
      case measure => simp [intOf]; omega
    · obtain rfl : k = n := by omega
      go_wp2
      go_ret
      refine ⟨_, rfl, ?_, hkp⟩
      unfold OwI
      rw [hl]
      simpa [List.take_of_length_le (Nat.le_of_eq hl)] using hown
theorem eqIntS_same (A A' : Option Addr) (n c c' : Nat) (xs : List Int) (w : World) (hl : xs.length = n) (hn : n ≤ 1048576) (hr : Reads w w.heap.size 1 A n (xs.map (.int .i64))) (hr' : Reads w w.heap.size 1 A' n (xs.map (.int .i64))) :
    Calls Try.prog 18 #[.slice A n c, .slice A' n c'] w fun e w' => e = .returned (.bool true) ∧ Kp w w' := by
  go_enter Try.func18, Try.ntmps18
  go_wp2
  go_loopw [5] (fun i wr => ∃ k : Nat, k ≤ n ∧ i = .int .i64 k ∧ Kp w wr) (fun i _ => n - (intOf i).toNat)
  case atStart => exact ⟨0, by omega, rfl, Kp.refl _⟩
  case round =>
    obtain ⟨k, hk, rfl, hkp⟩ := hrel
    by_cases hlt : k < n
    · obtain ⟨b, off, u, rfl, hb, hu, hc⟩ := (hr.kp hkp).cellOf (k := k) (by omega)
      obtain ⟨b', off', u', rfl, hb', hu', hc'⟩ := (hr'.kp hkp).cellOf (k := k) (by omega)
      have cx := hc k _ (get_map (by omega))
      have cy := hc' k _ (get_map (by omega))
      obtain ⟨y, hy⟩ : ∃ y, y = xs[k]'(by omega) := ⟨_, rfl⟩
      rw [← hy] at cx cy
      have i0 : (0 : Int) ≤ (k : Int) := by omega
      have i1 : (k : Int) < (n : Int) := by omega
      clear hy hc hc' hu hu'
      go_wp2
      go_quiet (fail)
      go_wp2
      go_roundw
      case rel => exact ⟨k + 1, by omega, by go_num, by (repeat (with_reducible first | exact Kp.refl _ | assumption | refine Kp.drew ?_ | refine Kp.drewN ?_ _ | refine Kp.alloc ?_ _ | refine Kp.setCell ?_ (by first | (simp; done) | (simp; omega) | (dsimp only; omega)) _ | refine Kp.trans ?_ (by assumption)))⟩
      case measure => simp [intOf]; omega
    · obtain rfl : k = n := by omega
      go_wp2
      go_ret
      exact ⟨rfl, hkp⟩
def marksI (k : Int) (n : Nat) : List Int := (List.range n).map fun i : Nat => k + (i : Int)
theorem marksI_length (k : Int) (n : Nat) : (marksI k n).length = n := by simp [marksI]
theorem marksI_get (k : Int) (n i : Nat) (h : i < n) : (marksI k n)[i]'(by rw [marksI_length]; exact h) = k + (i : Int) := by simp [marksI]
theorem OwI.far {B : Nat} {w w' : World} {v : Value} {xs : List Int} (h : OwI B w v xs) {row : Option Nat} (hg : w.grownBy w' row) (hne : v.ownBlock = none ∨ v.ownBlock ≠ row) : OwI B w' v xs := World.ownsRow.kept h hg hne
theorem OwI.lt {B : Nat} {w : World} {v : Value} {xs : List Int} (h : OwI B w v xs) : ∀ k, v.ownBlock = some k → B ≤ k ∧ k < w.heap.size := World.ownsRow.lt h
/-- Two slices of the call's own, the second made later: they lie apart. -/
theorem OwI.apart {B B' : Nat} {w w1 w2 : World} {v v' : Value} {xs ys : List Int} (h : OwI B w v xs) (h' : OwI B' w1 v' ys) (hB : w.heap.size ≤ B') : v.ownBlock = none ∨ v.ownBlock ≠ v'.ownBlock := by
  cases e : v.ownBlock with
  | none => exact .inl rfl
  | some k =>
    refine .inr fun e' => ?_
    have h1 := h.lt k e
    have h2 := h'.lt k e'.symm
    omega
theorem OwI.apart' {B B' : Nat} {w w1 w2 : World} {v v' : Value} {xs ys : List Int} (h : OwI B w v xs) (h' : OwI B' w1 v' ys) (hB : w.heap.size ≤ B') : v'.ownBlock = none ∨ v'.ownBlock ≠ v.ownBlock := by
  cases e : v'.ownBlock with
  | none => exact .inl rfl
  | some k =>
    refine .inr fun e' => ?_
    have h1 := h.lt k e'.symm
    have h2 := h'.lt k e
    omega
theorem mark_step {xs : List Int} {k : Nat} {q : Int} (hk : k < xs.length) :
    (((marksI q k ++ xs.drop k).map (Value.int .i64)).set k (Value.int .i64 (q + k))) = (marksI q (k + 1) ++ xs.drop (k + 1)).map (Value.int .i64) := by
  rw [← List.map_set]
  congr 1
  rw [List.set_append_right _ _ (by rw [marksI_length]; omega), marksI_length, Nat.sub_self, List.drop_eq_getElem_cons hk, List.set_cons_zero]
  simp [marksI, List.range_succ]
theorem markIntS_any (v : Value) (xs : List Int) (q : Int) (B : Nat) (w : World) (h : OwI B w v xs) (hn : xs.length ≤ 1048576) (hq : 0 ≤ q ∧ q ≤ 1000000000) :
    Calls Try.prog 21 #[v, .int .i64 q] w fun e w' => e = .returned (.int .i64 (q + xs.length)) ∧ OwI B w' v (marksI q xs.length) ∧ w.grownBy w' v.ownBlock := by
  rcases Nat.eq_zero_or_pos xs.length with h0 | h0
  · have hxs : xs = [] := List.eq_nil_of_length_eq_zero h0
    subst hxs
    obtain ⟨A, c, rfl, hr⟩ := h.rd
    have HH := Lib.hid h
    clear h
    go_enter Try.func21, Try.ntmps21
    go_wp2
    refine wp_loop_rounds 1 ?_
    rw [rounds_succ]
    go_wp2
    go_ret
    exact ⟨by simp, by simpa [marksI] using HH.out, ⟨rfl, rfl, rfl, Nat.le_refl _, fun _ _ _ => rfl⟩⟩
  · obtain ⟨n, hlen⟩ : ∃ n, n = xs.length := ⟨_, rfl⟩
    obtain ⟨g, cap, rfl, hg, hgl⟩ := h.form h0
    unfold OwI at h
    rw [← hlen] at h hn h0 ⊢
    have HL := Lib.hid hlen
    clear hlen
    go_enter Try.func21, Try.ntmps21
    go_wp2
    go_loopw [1, 5] (fun q' i wr => ∃ k : Nat, k ≤ n ∧ i = .int .i64 k ∧ q' = .int .i64 (q + k) ∧ wr.ownsRow B 3 1 (.slice (some ⟨g, 0, none⟩) n cap) n ((marksI q k ++ xs.drop k).map (Value.int .i64)) ∧ w.grownBy wr (some g))
      (fun _ i _ => n - (intOf i).toNat)
    case atStart => exact ⟨0, by omega, rfl, by simp, by simpa [marksI] using h, ⟨rfl, rfl, rfl, Nat.le_refl _, fun _ _ _ => rfl⟩⟩
    case round =>
      obtain ⟨k, hk, rfl, rfl, hown, hgr⟩ := hrel
      by_cases hlt : k < n
      · have fg := hown.frozenAt k
        have hex : ∃ u, wr.cell? ⟨g, k, none⟩ = some u := by
          rw [hown.cellAt k (by omega)]
          exact ⟨_, List.getElem?_eq_getElem (by rw [hown.1]; omega)⟩
        obtain ⟨u', cg⟩ := hex
        have hst := hown.stored k (.int .i64 (q + k))
        rw [mark_step (by rw [← HL.out]; exact hlt)] at hst
        have HS := Lib.hid hst
        have HG := Lib.hid hgr
        clear hst hown hgr
        go_wp2
        go_roundw
        case rel => exact ⟨k + 1, by omega, by go_num, by go_num, HS.out.1, HG.out.trans HS.out.2⟩
        case measure => simp [intOf]; omega
      · obtain rfl : k = n := by omega
        go_wp2
        go_ret
        refine ⟨rfl, ?_, hgr⟩
        unfold OwI
        rw [marksI_length]
        rw [List.drop_of_length_le (by rw [HL.out]; omega), List.append_nil] at hown
        exact hown
theorem heldIntS_any (A : Option Addr) (n c : Nat) (q : Int) (w : World) (hn : n ≤ 1048576) (hq : 0 ≤ q ∧ q ≤ 1000000000) (hr : Reads w w.heap.size 1 A n ((marksI q n).map (.int .i64))) :
    Calls Try.prog 22 #[.slice A n c, .int .i64 q] w fun e w' => e = .returned (.int .i64 (q + n)) ∧ Kp w w' := by
  go_enter Try.func22, Try.ntmps22
  go_wp2
  go_loopw [1, 5] (fun q' i wr => ∃ k : Nat, k ≤ n ∧ i = .int .i64 k ∧ q' = .int .i64 (q + k) ∧ Kp w wr) (fun _ i _ => n - (intOf i).toNat)
  case atStart => exact ⟨0, by omega, rfl, by simp, Kp.refl _⟩
  case round =>
    obtain ⟨k, hk, rfl, rfl, hkp⟩ := hrel
    by_cases hlt : k < n
    · obtain ⟨b, off, u, rfl, hb, hu, hc⟩ := (hr.kp hkp).cellOf (k := k) (by omega)
      have cx := hc k _ (get_map (by rw [marksI_length]; omega))
      rw [marksI_get q n k hlt] at cx
      have i0 : (0 : Int) ≤ (k : Int) := by omega
      have i1 : (k : Int) < (n : Int) := by omega
      clear hc hu
      go_wp2
      go_roundw
      case rel => exact ⟨k + 1, by omega, by go_num, by go_num, by (repeat (with_reducible first | exact Kp.refl _ | assumption | refine Kp.drew ?_ | refine Kp.drewN ?_ _ | refine Kp.alloc ?_ _ | refine Kp.setCell ?_ (by first | (simp; done) | (simp; omega) | (dsimp only; omega)) _ | refine Kp.trans ?_ (by assumption)))⟩
      case measure => simp [intOf]; omega
    · obtain rfl : k = n := by omega
      go_wp2
      go_ret
      exact ⟨rfl, hkp⟩
end Go.Proofs.Ytgkjckhjmphoaaa
