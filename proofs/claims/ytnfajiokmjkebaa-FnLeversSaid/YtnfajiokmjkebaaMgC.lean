/- sort.Slice by the place, at this program: the contract. -/
import Derived.Test.YtnfajiokmjkebaaMgS
import Derived.Test.YtnfajiokmjkebaaShelfLe
import Derived.Deep.QuietTactic
set_option linter.unusedVariables false
namespace Go.Proofs.Ytnfajiokmjkebaa
open Go.Shelf Go.RowKit Go.Lib Go.Sort
def encP (p : Int × Int) : List Value := [.int .i64 p.1, .int .i64 p.2]
def ltP (a b : Int × Int) : Bool := decide (a.1 < b.1)
theorem swo_ltP : SWO ltP where
  irrefl := fun x => by simp [ltP]
  trans := fun x y z h1 h2 => by simp [ltP] at *; omega
  ntrans := fun x y z h1 h2 => by simp [ltP] at *; omega
noncomputable def svT : TypeInfo := (Try.prog.info? 25).get (by kernel_rfl)
noncomputable def svE : TypeInfo := (Try.prog.info? 46).get (by kernel_rfl)
theorem svK (n : Nat) (h2 : 2 ≤ n) : Lib.swapperK n svE 25 = 9 := by
  have a : svE.hasPointers = false := by kernel_rfl
  have b : svE.bytes = 16 := by kernel_rfl
  have c : (n == 0) = false := by simp; omega
  have d : (n == 1) = false := by simp; omega
  simp [Lib.swapperK, a, b, c, d]
set_option maxHeartbeats 2000000 in
theorem less_any (blk off c Bs size : Nat) (W : World) (G : Nat → Int) (hs : W.cell? ⟨Bs, 0, none⟩ = some (.slice (some ⟨blk, off, none⟩) size c))
    (hc : ∀ t, t < size → W.cell? ⟨blk, off + t * 2, none⟩ = some (.int .i64 (G t))) (i j : Nat) (hi : i < size) (hj : j < size) (_hsz : size < 4611686018427387904) :
    Calls Try.prog 43 #[.int .i64 i, .int .i64 j, .pointer (some ⟨Bs, 0, none⟩)] W fun e w' => e = .returned (.bool (decide (G i < G j))) ∧ ∃ q, w' = W.drewN q := by
  have ci := hc i hi
  have cj := hc j hj
  go_enter Try.func43, Try.ntmps43
  go_wp2
  go_quiet (fail)
  go_wp2
  go_ret
  exact ⟨rfl, nq, rfl⟩
theorem flat_pC (Ls : List (Int × Int)) : (flatK encP 2 Ls.toArray).toList = pC Ls := by
  refine List.ext_getElem? fun j => ?_
  by_cases hj : j < Ls.length * 2
  · have e : (flatK encP 2 Ls.toArray)[j]! = (encP Ls.toArray[j / 2]!)[j % 2]! := get_flatK _ _ _ _ (by simpa using hj)
    have h1 : (flatK encP 2 Ls.toArray).toList[j]? = some (flatK encP 2 Ls.toArray)[j]! := by
      rw [Array.getElem?_toList, getElem!_pos _ j (by simpa using hj), Array.getElem?_eq_getElem (by simpa using hj)]
    rw [h1, e]
    obtain ⟨k, hk | hk⟩ : ∃ k, j = k * 2 ∨ j = k * 2 + 1 := ⟨j / 2, by omega⟩
    · subst hk
      rw [(pC_get Ls k (by omega)).1, show k * 2 / 2 = k by omega, show k * 2 % 2 = 0 by omega]
      simp [encP, pA, List.getD_eq_getElem?_getD, show k < Ls.length by omega]
    · subst hk
      rw [(pC_get Ls k (by omega)).2, show (k * 2 + 1) / 2 = k by omega, show (k * 2 + 1) % 2 = 1 by omega]
      simp [encP, pB, List.getD_eq_getElem?_getD, show k < Ls.length by omega]
  · rw [List.getElem?_eq_none (by simp; omega), List.getElem?_eq_none (by rw [pC_length]; omega)]
theorem heap_put {w : World} {g n : Nat} {os : Array Obj} {cur : Array Value} {e : TypeId} {fr : Nat × Nat} (d : Array Value) (hb : w.heap[g]? = some (.cells cur e fr)) :
    (grow (putRow id (Sort.ahead w n) g 0 d) os).heap[g]? = some (.cells (putCells id 0 d cur) e fr) := by
  have hg : g < w.heap.size := (Array.getElem?_eq_some_iff.1 hb).1
  rw [heap_grow_old _ _ (by simpa using hg)]
  simp [putRow, mapBlock, Sort.ahead, Array.getElem?_modify, hb, onCells]
theorem grown_put {w : World} {g n : Nat} {os : Array Obj} (d : Array Value) : w.grownBy (grow (putRow id (Sort.ahead w n) g 0 d) os) (some g) := by
  refine ⟨rfl, rfl, rfl, by simp, fun k hk hne => ?_⟩
  rw [heap_grow_old _ _ (by simpa using hk)]
  have : g ≠ k := fun e => hne (by rw [e])
  simp [putRow, mapBlock, Sort.ahead, Array.getElem?_modify, this]
theorem take_put (cur d : Array Value) (h : d.size ≤ cur.size) : (putCells id 0 d cur).toList.take d.size = d.toList := by
  apply List.ext_getElem?
  intro j
  by_cases hj : j < d.size
  · rw [List.getElem?_take_of_lt hj, Array.getElem?_toList, Array.getElem?_toList]
    simp [putCells, hj, show j < cur.size by omega]
  · rw [List.getElem?_take_eq_none (by omega), List.getElem?_eq_none (by simp; omega)]
theorem grown_grow (w : World) (os : Array Obj) (r : Option Nat) : w.grownBy (grow w os) r :=
  ⟨rfl, rfl, rfl, by simp, fun k hk _ => heap_grow_old _ _ hk⟩
theorem pw_small (Ls : List (Int × Int)) (h2 : ¬ 2 ≤ Ls.length) : Ls.Pairwise (fun a b => ¬ b.1 < a.1) := by
  match Ls, h2 with
  | [], _ => exact List.Pairwise.nil
  | [a], _ => exact List.pairwise_singleton _ _
  | a :: b :: l, h2 => simp at h2
theorem tiny_f0 : Try.prog.funcs.findIdx? (·.name == "internal/reflectlite" ++ ".Swapper$" ++ toString (swapperK 0 svE 25)) = some 57 := by
  have e : swapperK 0 svE 25 = 1 := by simp [swapperK]
  refine Eq.trans ?_ (Eq.refl _)
  rw [e]
  refine Eq.trans (b := _) ?_ (Eq.refl _)
  kernel_rfl
theorem tiny_f1 : Try.prog.funcs.findIdx? (·.name == "internal/reflectlite" ++ ".Swapper$" ++ toString (swapperK 1 svE 25)) = some 58 := by
  have e : swapperK 1 svE 25 = 2 := by simp [swapperK]
  refine Eq.trans ?_ (Eq.refl _)
  rw [e]
  refine Eq.trans (b := _) ?_ (Eq.refl _)
  kernel_rfl
theorem tiny_f (n : Nat) (h : n ≤ 1) : Try.prog.funcs.findIdx? (·.name == "internal/reflectlite" ++ ".Swapper$" ++ toString (swapperK n svE 25)) = some (if n = 0 then 57 else 58) := by
  have h3 : n = 0 ∨ n = 1 := by omega
  rcases h3 with rfl | rfl
  · exact tiny_f0
  · exact tiny_f1
set_option maxHeartbeats 3200000 in
theorem sort_any (B Bs : Nat) (v : Value) (Ls : List (Int × Int)) (w : World) (ho : OwP B w v Ls) (hBs : w.cell? ⟨Bs, 0, none⟩ = some v) (hne : v.ownBlock ≠ some Bs) (hlen : Ls.length ≤ 1000) :
    Calls Try.prog 42 #[.iface 25 v, .func (.func 43) #[] #[.pointer (some ⟨Bs, 0, none⟩)]] w fun e w' =>
      e = .returned (.tuple #[]) ∧ ∃ Ms, Ms.Perm Ls ∧ Ms.Pairwise (fun a b => ¬ b.1 < a.1) ∧ OwP B w' v Ms ∧ w.grownBy w' v.ownBlock := by
  have hB1 : Bs < w.heap.size := cell_lt hBs
  by_cases h2 : 2 ≤ Ls.length
  · obtain ⟨g, cap, rfl, hb, hg⟩ := ho.form (by omega)
    have hgne : Bs ≠ g := fun e => hne (by rw [e]; rfl)
    have hown : w.ownsRow B 46 2 (.slice (some ⟨g, 0, none⟩) Ls.length cap) Ls.length (pC Ls) := ho
    have hH : HoldsK encP 2 w g 0 Ls.toArray := by
      intro j hj
      rw [size_flatK, List.size_toArray] at hj
      rw [Nat.zero_add]
      refine ⟨?_, World.ownsRow.frozenAt hown j⟩
      rw [World.ownsRow.cellAt hown j (by omega), ← flat_pC, Array.getElem?_toList, Array.getElem?_eq_getElem (by simpa using hj), getElem!_pos _ j (by simpa using hj)]; rfl
    have hless : LessReadsK Try.prog 43 #[.pointer (some ⟨Bs, 0, none⟩)] encP 2 ltP g 0 Ls.toArray.size w := by
      intro m os dk hs i j hi hj
      have e : sortWorldK encP 2 w g 0 m dk os = putRowK encP 2 (grow (Sort.ahead w m) os) g 0 dk := by
        unfold sortWorldK; rw [putRowK_grow _ _ (Sort.ahead w m) _ g 0 _ hg]
      have hHg : HoldsK encP 2 (grow (Sort.ahead w m) os) g 0 Ls.toArray := holdsK_grow _ _ _ _ g 0 Ls.toArray hg (holdsK_ahead _ _ _ _ _ _ _ hH)
      refine less_any g 0 cap Bs Ls.toArray.size _ (fun t => dk[t]!.1) ?_ (fun t ht => ?_) i j hi hj (by simp; omega)
      · rw [e, cell?_putRowK_other _ _ _ g 0 dk _ (by exact hgne), cell?_grow _ _ _ (by exact hB1)]
        rw [List.size_toArray]; exact hBs
      · rw [e]; exact ((holdsK_putRowK _ _ _ g 0 Ls.toArray dk hHg hs).cell (i := t) (c := 0) (by omega) (by omega)).1
    have hc := Any.sort_Slice_cells_sorted Try.laysGg6 25 46 svT svE (by kernel_rfl) (by kernel_rfl) (by kernel_rfl) (by kernel_rfl) 25 (fun _ => by kernel_rfl) encP 2 (fun _ => rfl) (by kernel_rfl) (fun _ => by kernel_rfl)
      (fun x v hv => by simp [encP] at hv; rcases hv with rfl | rfl <;> rfl) ltP swo_ltP 43 #[.pointer (some ⟨Bs, 0, none⟩)]
      (enters_of Try.func43 (by kernel_rfl) rfl) g 0 cap Ls.toArray (by simpa using h2) (by simp; omega) 65 (by rw [svK _ (by simpa using h2)]; kernel_rfl) false
      (fun args W => run_callFunc_extern Try.func65 (by kernel_rfl) (by kernel_rfl) (by kernel_rfl) (e := Extern.ReflectliteSwapper.swap false) (by kernel_rfl) args W) w hless hH hg
    rw [List.size_toArray] at hc
    change Calls Try.prog 42 _ w _ at hc
    refine hc.mono ?_
    rintro e w' ⟨rfl, d', n, os, hp, hso, rfl⟩
    have hsz : d'.size = Ls.length := by have := hp.1; simpa using this
    refine ⟨rfl, d'.toList, ?_, ?_, ?_, grown_put _⟩
    · have h3 := hp.2.2
      rw [Array.extract_eq_self_of_le (by omega), Array.extract_eq_self_of_le (by simp)] at h3
      simpa using h3
    · rw [List.pairwise_iff_getElem]
      intro i j hi hj hij
      have h3 := hso i j (Nat.zero_le _) hij (by simpa [hsz] using hj)
      rw [Array.length_toList] at hi hj
      rw [getElem!_pos _ i hi, getElem!_pos _ j hj] at h3
      simpa [ltP] using h3
    · obtain ⟨hx, ⟨h8, _⟩ | ⟨g', cap', cur, hv, hbase, hbl, h4, h5, h6, h7⟩⟩ := hown
      · cases h8
      · injection hv with e1 e2 e3
        injection e1 with e1
        injection e1 with e1
        subst e1 e3
        have hfl := flat_pC d'.toList
        rw [Array.toArray_toList] at hfl
        have htk := take_put cur (flatK encP 2 d') (by rw [size_flatK, hsz, h6]; omega)
        rw [size_flatK, hsz, hfl] at htk
        have hl2 : d'.toList.length = Ls.length := by rw [Array.length_toList]; exact hsz
        show (grow (putRowK encP 2 (Sort.ahead w n) g 0 d') os).ownsRow B 46 2 (.slice (some ⟨g, 0, none⟩) Ls.length cap) d'.toList.length (pC d'.toList)
        rw [hl2]
        exact ⟨by rw [pC_length, hl2], .inr ⟨g, cap, _, rfl, hbase, heap_put _ hbl, h4, h5, by simp [putCells, h6], htk⟩⟩
  · obtain ⟨A, c, rfl, _⟩ := ho.rd
    have hc := Any.sort_Slice_tiny Try.laysGg6 25 46 svT svE (by kernel_rfl) (by kernel_rfl) (by kernel_rfl) (by kernel_rfl) 25 (fun _ => by kernel_rfl) A Ls.length c (by omega) (if Ls.length = 0 then 57 else 58)
      (tiny_f Ls.length (by omega)) (.func 43) #[] #[.pointer (some ⟨Bs, 0, none⟩)] w
    change Calls Try.prog 42 _ w _ at hc
    refine hc.mono ?_
    rintro e w' ⟨rfl, os, rfl⟩
    refine ⟨rfl, Ls, List.Perm.refl _, pw_small Ls h2, ho.far (grown_grow w os none) (by cases h : (Value.slice A Ls.length c).ownBlock <;> simp), grown_grow w os _⟩
end Go.Proofs.Ytnfajiokmjkebaa
