/- A queue: a slice of the call's own that is cut at its front and appended to at its end. -/
import Derived.Test.YtgkjckhjmphoaaaApp
set_option linter.unusedVariables false
namespace Go.Proofs.Ytgkjckhjmphoaaa
open Go.RowKit
def ownsQ (w : World) (base : Nat) (e : TypeId) (size : Nat) (v : Value) (n : Nat) (xs : List Value) : Prop :=
  xs.length = n * size ∧ ∃ g o cap cur, v = .slice (some ⟨g, o, none⟩) n cap ∧ base ≤ g ∧ w.heap[g]? = some (.cells cur e (0, 0)) ∧ n ≤ cap ∧ cap ≤ maxLen ∧ o + cap * size ≤ cur.size ∧ (cur.toList.drop o).take (n * size) = xs
theorem ownsQ.of_row {w : World} {base : Nat} {e : TypeId} {size : Nat} {g n cap : Nat} {xs : List Value} (h : w.ownsRow base e size (.slice (some ⟨g, 0, none⟩) n cap) n xs) : ownsQ w base e size (.slice (some ⟨g, 0, none⟩) n cap) n xs := by
  obtain ⟨hx, ⟨h8, _⟩ | ⟨g', cap', cur, hv, hb, hbl, h4, h5, h6, h7⟩⟩ := h
  · cases h8
  · injection hv with e1 e2 e3
    injection e1 with e1
    injection e1 with e1
    subst e1 e3
    exact ⟨hx, g, 0, cap, cur, rfl, hb, hbl, h4, h5, by rw [Nat.zero_add]; exact Nat.le_of_eq h6.symm, h7⟩
theorem ownsQ.kept {w w' : World} {base : Nat} {e : TypeId} {size : Nat} {v : Value} {n : Nat} {xs : List Value} {row : Option Nat} (h : ownsQ w base e size v n xs) (hg : w.grownBy w' row) (hne : v.ownBlock ≠ row) : ownsQ w' base e size v n xs := by
  obtain ⟨hx, g, o, cap, cur, rfl, hb, hbl, r⟩ := h
  exact ⟨hx, g, o, cap, cur, rfl, hb, (hg.block g (Array.getElem?_eq_some_iff.1 hbl).1 (fun e => hne (by rw [← e]; rfl))).trans hbl, r⟩
theorem ownsQ.lt {w : World} {base : Nat} {e : TypeId} {size : Nat} {v : Value} {n : Nat} {xs : List Value} (h : ownsQ w base e size v n xs) : ∃ g, v.ownBlock = some g ∧ base ≤ g ∧ g < w.heap.size := by
  obtain ⟨hx, g, o, cap, cur, rfl, hb, hbl, r⟩ := h
  exact ⟨g, rfl, hb, (Array.getElem?_eq_some_iff.1 hbl).1⟩
theorem cells_at {w : World} {g o m : Nat} {e : TypeId} {cur : Array Value} {xs : List Value} (hbl : w.heap[g]? = some (.cells cur e (0, 0))) (ht : (cur.toList.drop o).take m = xs) : ∀ j u, xs[j]? = some u → w.cell? ⟨g, o + j, none⟩ = some u := by
  intro j u hu
  rw [cell_of_row w g (o + j) cur e (0, 0) hbl]
  rw [← ht, List.getElem?_take] at hu
  split at hu
  · rw [List.getElem?_drop] at hu
    simpa using hu
  · cases hu
theorem ownsQ.cells {w : World} {base : Nat} {e : TypeId} {size : Nat} {g o n cap : Nat} {xs : List Value} (h : ownsQ w base e size (.slice (some ⟨g, o, none⟩) n cap) n xs) : ∀ j u, xs[j]? = some u → w.cell? ⟨g, o + j, none⟩ = some u := by
  obtain ⟨hx, g', o', cap', cur, hv, hb, hbl, _, _, _, ht⟩ := h
  injection hv with e1 e2 e3
  injection e1 with e1
  injection e1 with e1 e4
  subst e1 e4
  exact cells_at hbl ht
/-- Cut at its front. -/
theorem ownsQ.front {w : World} {base : Nat} {e : TypeId} {size : Nat} {g o n cap : Nat} {xs ys : List Value} (h : ownsQ w base e size (.slice (some ⟨g, o, none⟩) (n + 1) cap) (n + 1) (xs ++ ys)) (hx : xs.length = size) : ownsQ w base e size (.slice (some ⟨g, o + size, none⟩) n (cap - 1)) n ys := by
  obtain ⟨hl, g', o', cap', cur, hv, hb, hbl, h4, h5, h6, ht⟩ := h
  injection hv with e1 e2 e3
  injection e1 with e1
  injection e1 with e1 e4
  subst e1 e4 e3
  have hy : ys.length = n * size := by
    rw [List.length_append, hx, Nat.add_mul, Nat.one_mul] at hl; omega
  obtain ⟨c', rfl⟩ : ∃ c', cap = c' + 1 := ⟨cap - 1, by omega⟩
  refine ⟨hy, g, o + size, c', cur, rfl, hb, hbl, by omega, by omega, ?_, ?_⟩
  · rw [Nat.add_mul, Nat.one_mul] at h6; omega
  · have h7 := congrArg (List.drop size) ht
    have e9 : List.drop size xs = [] := List.drop_eq_nil_of_le (by omega)
    rw [List.drop_take, List.drop_drop, List.drop_append_of_le_length (by omega), e9, List.nil_append] at h7
    rw [← h7]
    congr 1
    rw [Nat.add_mul, Nat.one_mul]; omega
theorem ownsQ.front0 {w : World} {base : Nat} {e : TypeId} {size : Nat} {g o n : Nat} {xs ys : List Value} (h : ownsQ w base e size (.slice (some ⟨g, o, none⟩) (n + 1) 1) (n + 1) (xs ++ ys)) (hx : xs.length = size) : ownsQ w base e size (.slice (some ⟨g, o, none⟩) n 0) n ys := by
  obtain ⟨hl, g', o', cap', cur, hv, hb, hbl, h4, h5, h6, ht⟩ := h
  injection hv with e1 e2 e3
  injection e1 with e1
  injection e1 with e1 e4
  subst e1 e4 e3
  have hn : n = 0 := by omega
  subst hn
  have hy : ys = [] := by
    rw [List.length_append, hx] at hl
    exact List.eq_nil_of_length_eq_zero (by omega)
  subst hy
  exact ⟨by simp, g, o, 0, cur, rfl, hb, hbl, Nat.le_refl _, by omega, by omega, by simp⟩
section
variable {P : Program} (w : World)
theorem run_slice_q (base : Nat) (t e : TypeId) (size : Nat) (ht : P.underlying t = some (.slice e)) (hi : (P.info? e).map (·.size) = some size)
    (v : Value) (n : Nat) (xs ys : List Value) (hown : ownsQ w base e size v (n + 1) (xs ++ ys)) (hx : xs.length = size) :
    ∃ v', (Instr.slice t v (some (.int .i64 1)) none none).run P w = .ok v' w ∧ ownsQ w base e size v' n ys ∧ v'.ownBlock = v.ownBlock := by
  obtain ⟨hl, g, o, cap, cur, rfl, hb, hbl, h4, h5, h6, htk⟩ := id hown
  have he : P.elem t = e := by rw [Program.elem, ht]
  obtain ⟨i, hi1, hi2⟩ : ∃ i, P.info? e = some i ∧ i.size = size := by
    cases h : P.info? e with
    | none => rw [h] at hi; cases hi
    | some i => rw [h] at hi; injection hi with hi; exact ⟨i, rfl, hi⟩
  have hs : ∀ w, (sizeOf e).run P w = .ok size w := by
    intro w; simp [sizeOf, typeInfo, hi1, hi2]
  have hr := run_slice_l (P := P) w t (some ⟨g, o, none⟩) (n + 1) cap (by rw [he]; exact ht) .i64 1 (by omega) (by omega)
  rw [he, hs, Result.andThen_ok] at hr
  by_cases hc : cap = 1
  · subst hc
    have h0 := hown.front0 hx
    refine ⟨_, hr, ?_, ?_⟩
    · simpa [sliced] using h0
    · simp [sliced, Value.ownBlock]
  · have h0 := hown.front hx
    have hadd : ∀ j, (⟨g, o, none⟩ : Addr).add j = ⟨g, o + j, none⟩ := fun j => by unfold Addr.add; split <;> simp_all
    refine ⟨_, hr, ?_, ?_⟩
    · simpa [sliced, hc, hadd] using h0
    · simp [sliced, Value.ownBlock, hc, hadd]
theorem wpList_slice_q {ops : Array Oper} {rest : List Oper} {o : Oper} {a : Act} {Q : Exit → Act → World → Prop} (hgd : o.guard = none) (t : TypeId) (x : Operand)
    (ho : o.op = .slice t x (some (.const (.int .i64 1))) none none)
    (base : Nat) (e : TypeId) (size : Nat) (ht : P.underlying t = some (.slice e)) (hi : (P.info? e).map (·.size) = some size)
    (v : Value) (n : Nat) (xs ys : List Value) (hv : a.eval x = v) (hown : ownsQ w base e size v (n + 1) (xs ++ ys)) (hx : xs.length = size)
    (h : ∀ v', ownsQ w base e size v' n ys → v'.ownBlock = v.ownBlock → wpList P ops Q rest (a.put o.dst v') w) : wpList P ops Q (o :: rest) a w := by
  obtain ⟨v', hr, h1, h2⟩ := run_slice_q (P := P) w base t e size ht hi v n xs ys hown hx
  refine wpList_plain hgd fun K hK => ?_
  have hsl := run_sliceAt_slice (P := P) w t v (some (.int .i64 1)) none none (by rw [Program.elem, ht])
  unfold Oper.wp execOp
  have hc1 : a.eval (.const (.int .i64 1)) = .int .i64 1 := rfl
  simp only [ho, Sem.run_bind, hv, Option.map_some, Option.map_none, hc1, hsl, hr, Result.andThen_ok, Sem.run_pure]
  exact hK _ _ (h v' h1 h2)
theorem run_append_q (base : Nat) (t ty e : TypeId) (i : TypeInfo) (z : Value) (size bytes : Nat) (ht : P.underlying t = some (.slice e)) (hi : P.info? e = some i) (hz : i.zero = some z)
    (hsize : i.size = size) (hby : i.bytes = bytes) (hzs : z.cells.size = size)
    (v : Value) (n : Nat) (xs : List Value) (hown : ownsQ w base e size v n xs)
    (a : Addr) (m c : Nat) (news : List Value) (hl : news.length = m * size) (hnews : ∀ j u, news[j]? = some u → w.cell? (a.add j) = some u) (h1 : ∀ u ∈ news, u.oneCell' = true)
    (h63 : n + m ≤ maxLen) (hbytes : (n + m) * bytes ≤ 140737488355328) (hbase : base ≤ w.heap.size) :
    ∃ v' w', (Builtin.append_ #[t, t] ty #[v, .slice (some a) m c]).run P w = .ok v' w' ∧ ownsQ w' base e size v' (n + m) (xs ++ news) ∧ w.grownBy w' v.ownBlock ∧ (v'.ownBlock = v.ownBlock ∨ v'.ownBlock = some w.heap.size) := by
  subst hsize
  subst hby
  have hlen : (xs ++ news).length = (n + m) * i.size := by rw [List.length_append, hown.1, hl, Nat.add_mul]
  obtain ⟨hx, g, o, cap, cur, rfl, hb, hbl, h4, h5, h6, htk⟩ := hown
  by_cases hroom : n + m ≤ cap
  · have hfit : o + n * i.size + news.length ≤ cur.size := by
      rw [hl]
      have := Nat.mul_le_mul_right i.size hroom
      rw [Nat.add_mul] at this
      omega
    have hf := run_firstCells_some (P := P) w i.size m a m c news hl hnews
    have hst := run_storeCells_at P g (o + n * i.size) e news 0 cur w hbl (by simpa using hfit) h1
    simp only [Nat.add_zero] at hst
    have hr : (Builtin.append_ #[t, t] ty #[.slice (some ⟨g, o, none⟩) n cap, .slice (some a) m c]).run P w = .ok (.slice (some ⟨g, o, none⟩) (n + m) cap) (w.setRow g (cur.toList.take (o + n * i.size) ++ news ++ cur.toList.drop (o + n * i.size + news.length)).toArray) := by
      simp [Builtin.append_, run_underlying ht, sizeOf, typeInfo, hi, Builtin.lenOf, hroom, hf, Addr.add_lit, hst]
    refine ⟨_, _, hr, ⟨hlen, g, o, cap, _, rfl, hb, setRow_heap w g cur _ e _ hbl, hroom, h5, ?_, ?_⟩, ⟨rfl, rfl, rfl, by simp, fun k _ hk => setRow_other w g k _ (fun e => hk (by simp [Value.ownBlock, e]))⟩, .inl rfl⟩
    · simp only [List.size_toArray, List.length_append, List.length_take, List.length_drop, Array.length_toList]
      omega
    · have hlt : (cur.toList.take (o + n * i.size)).length = o + n * i.size := by rw [List.length_take, Array.length_toList]; omega
      have hd : (cur.toList.take (o + n * i.size)).drop o = xs := by
        rw [← htk, List.drop_take]; congr 1; omega
      rw [List.append_assoc, List.drop_append_of_le_length (by rw [hlt]; omega), hd, ← List.append_assoc, ← hlen]
      exact List.take_left
  · have hsmall : n + m ≤ 9223372036854775807 := by simp only [maxLen] at h63; omega
    have hcells := cells_at hbl htk
    have hadd : ∀ j, (⟨g, o, none⟩ : Addr).add j = ⟨g, o + j, none⟩ := fun j => by unfold Addr.add; split <;> simp_all
    have hr := run_append_grow (P := P) w t ty e i z ht hi hz ⟨g, o, none⟩ n cap xs hx (fun j u hu => by rw [hadd]; exact hcells j u hu) a m c news hl hnews (by omega) (by omega) (growslice_fits (by omega) hbytes)
    have hge := grownCap_ge w (n + m) cap e
    have hcm : grownCap w (n + m) cap e ≤ maxLen := grownCap_le_maxLen w (n + m) cap e h63
    refine ⟨_, _, hr, ⟨hlen, w.heap.size, 0, _, _, rfl, hbase, heap_alloc_new w.drew _, hge, hcm, ?_, ?_⟩, ⟨rfl, rfl, rfl, by simp, fun k hk _ => heap_alloc_old w.drew _ hk⟩, .inr rfl⟩
    · apply Nat.le_of_eq
      simp only [Array.size_append, List.size_toArray, size_zeroCells, hzs, hx, hl, ← Nat.add_mul, Nat.zero_add]
      congr 1
      omega
    · simp only [Array.toList_append, List.append_assoc, List.drop_zero]
      rw [← List.append_assoc, ← hlen]
      exact List.take_left
theorem wp_append_q {o : Oper} {a : Act} {K : Act → World → Prop} {Q : Exit → Act → World → Prop} (s x : Operand) (t : TypeId)
    (ho : o.op = .call { callee := .builtin .append, args := #[s, x], argTypes := #[t, t] })
    (base : Nat) (e : TypeId) (i : TypeInfo) (z : Value) (size bytes : Nat) (ht : P.underlying t = some (.slice e)) (hi : P.info? e = some i) (hz : i.zero = some z)
    (hsize : i.size = size) (hby : i.bytes = bytes) (hzs : z.cells.size = size)
    (v : Value) (n : Nat) (xs : List Value) (hs : a.eval s = v) (hown : ownsQ w base e size v n xs)
    (ad : Addr) (m c : Nat) (news : List Value) (hx : a.eval x = .slice (some ad) m c) (hl : news.length = m * size) (hnews : ∀ j u, news[j]? = some u → w.cell? (ad.add j) = some u) (h1 : ∀ u ∈ news, u.oneCell' = true)
    (h63 : n + m ≤ maxLen) (hbytes : (n + m) * bytes ≤ 140737488355328) (hbase : base ≤ w.heap.size)
    (h : ∀ v' w', ownsQ w' base e size v' (n + m) (xs ++ news) → w.grownBy w' v.ownBlock → (v'.ownBlock = v.ownBlock ∨ v'.ownBlock = some w.heap.size) → K (a.put o.dst v') w') : o.wp P a w K Q := by
  obtain ⟨v', w', hrun, h2, h3, h4⟩ := run_append_q (P := P) w base t o.type e i z size bytes ht hi hz hsize hby hzs v n xs hown ad m c news hl hnews h1 h63 hbytes hbase
  unfold Oper.wp execOp
  simp only [ho, resolve, invoke, builtin, Sem.run_bind, Sem.run_pure, Result.andThen_ok, List.map_toArray, List.map_cons, List.map_nil, hs, hx, hrun]
  exact h v' w' h2 h3 h4
theorem wpList_append_q {ops : Array Oper} {rest : List Oper} {o : Oper} {a : Act} {Q : Exit → Act → World → Prop} (hgd : o.guard = none) (s x : Operand) (t : TypeId)
    (ho : o.op = .call { callee := .builtin .append, args := #[s, x], argTypes := #[t, t] })
    (base : Nat) (e : TypeId) (i : TypeInfo) (z : Value) (size bytes : Nat) (ht : P.underlying t = some (.slice e)) (hi : P.info? e = some i) (hz : i.zero = some z)
    (hsize : i.size = size) (hby : i.bytes = bytes) (hzs : z.cells.size = size)
    (v : Value) (n : Nat) (xs : List Value) (hs : a.eval s = v) (hown : ownsQ w base e size v n xs)
    (ad : Addr) (m c : Nat) (news : List Value) (hx : a.eval x = .slice (some ad) m c) (hl : news.length = m * size) (hnews : ∀ j u, news[j]? = some u → w.cell? (ad.add j) = some u) (h1 : ∀ u ∈ news, u.oneCell' = true)
    (h63 : n + m ≤ maxLen) (hbytes : (n + m) * bytes ≤ 140737488355328) (hbase : base ≤ w.heap.size)
    (h : ∀ v' w', ownsQ w' base e size v' (n + m) (xs ++ news) → w.grownBy w' v.ownBlock → (v'.ownBlock = v.ownBlock ∨ v'.ownBlock = some w.heap.size) → wpList P ops Q rest (a.put o.dst v') w') : wpList P ops Q (o :: rest) a w :=
  wpList_plain hgd fun _ hK => wp_append_q w s x t ho base e i z size bytes ht hi hz hsize hby hzs v n xs hs hown ad m c news hx hl hnews h1 h63 hbytes hbase fun v' w' h2 h3 h4 => hK _ _ (h v' w' h2 h3 h4)
end
end Go.Proofs.Ytgkjckhjmphoaaa
