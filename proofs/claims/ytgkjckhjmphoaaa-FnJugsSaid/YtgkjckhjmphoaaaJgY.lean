/- FewestPours: laws for the walk of the program's. -/
import Derived.Test.YtgkjckhjmphoaaaJgK
import Derived.Test.YtgkjckhjmphoaaaJgR
set_option linter.unusedVariables false
namespace Go.Proofs.Ytgkjckhjmphoaaa
open Go.RowKit Go.Maps
open Go.ChangeShapes (lits)
theorem nil_own {w : World} {base : Nat} {e : TypeId} {v : Value} {zs : List Int} (h : w.ownsInts base e .i64 v zs) (hd : rowDatum (H := Unit) .i64 v zs = .nil) : v.ownBlock = none := by
  rcases h.1.2 with ⟨rfl, _⟩ | ⟨g, cap, cur, rfl, _⟩
  · rfl
  · cases hd
/-- A store at a key that is not there. -/
theorem groups_store {w0 w : World} {t k E : TypeId} {base : Nat} {e : TypeId} {b n : Nat} {D : DataW Unit} {key : Value} {kl : Lit} {v' : Value} {zs' : List Int} {No : Nat → Prop}
    (K : Keyed Try.prog k) (ht : Try.prog.underlying t = some (.map k E)) (hz : (zeroValue E).run Try.prog w0 = .ok (.slice none 0 0) w0) (hkey : keyOf Try.prog k key = some kl) (hown0 : w0.ownsGroups Try.prog k base e .i64 b n D) (hn : n < maxLen) (hno : ∀ d : DataW Unit, D.atKey kl d = d) (hsh : w0.Shuns b No) (hnn : ∀ g, v'.ownBlock = some g → ¬ No g)
    (hgr : w0.grownBy w none) (hown' : w.ownsInts base e .i64 v' zs') (hl' : zs'.length ≤ n + 1) (hloc : v'.ownBlock = none ∨ ∃ g, v'.ownBlock = some g ∧ w0.heap.size ≤ g) :
    ∃ w2, (Instr.mapUpdate t (.map (some b)) key v').run Try.prog w = .ok () w2 ∧ w2.ownsGroups Try.prog k base e .i64 b (n + 1) (D.put kl (rowDatum .i64 v' zs')) ∧ w.grownBy w2 (some b) ∧ w2.Shuns b No := by
  obtain ⟨u, zs, _, hat, hoi, _, hback⟩ := hown0.at K ht hz hn hkey
  have hu : u.ownBlock = none := nil_own hoi (by rw [← hat, hno])
  exact back_shuns K ht hkey hown0 hn hoi hsh hnn hback (by rw [hu]; exact hgr) hown' hl' (by rw [hu]; exact hloc)
section
variable {P : Program} (w : World)
theorem wpList_insert_eq {ops : Array Oper} {rest : List Oper} {o : Oper} {a : Act} {Q : Exit → Act → World → Prop}
    (hg : o.guard = none) (m x v : Operand) (t : TypeId) (hop : o.op = Op.insert t m x v) {mv key v' : Value} {w2 : World}
    (hm : a.eval m = mv) (hx : a.eval x = key) (hv : a.eval v = v') (hrun : (Instr.mapUpdate t mv key v').run P w = .ok () w2)
    (hK : wpList P ops Q rest (a.put o.dst undef) w2) : wpList P ops Q (o :: rest) a w := by
  refine wpList_plain hg fun K' hK' => ?_
  unfold Oper.wp
  simp [execOp, hop, hm, hx, hv, hrun, Result.andThen]
  exact hK' _ _ hK
theorem wp_mapUpdate_eq {o : Oper} {a : Act} {K : Act → World → Prop} {Q : Exit → Act → World → Prop}
    (m x v : Operand) (t : TypeId) (hop : o.op = Op.mapUpdate t m x v) {mv key v' : Value} {w2 : World}
    (hm : a.eval m = mv) (hx : a.eval x = key) (hv : a.eval v = v') (hrun : (Instr.mapUpdate t mv key v').run P w = .ok () w2)
    (hK : K (a.put o.dst undef) w2) : o.wp P a w K Q := by
  unfold Oper.wp
  simp [execOp, hop, hm, hx, hv, hrun, Result.andThen]
  exact hK
theorem wp_lookup_eq {o : Oper} {a : Act} {K : Act → World → Prop} {Q : Exit → Act → World → Prop}
    (m x : Operand) (t : TypeId) (hop : o.op = Op.lookup t m x false) {mv key v' : Value}
    (hm : a.eval m = mv) (hx : a.eval x = key) (hrun : (Instr.lookup t mv key false).run P w = .ok v' w)
    (hK : K (a.put o.dst v') w) : o.wp P a w K Q := by
  unfold Oper.wp
  simp [execOp, hop, hm, hx, hrun, Result.andThen]
  exact hK
end
theorem jugs_info : (Try.prog.info? 25).map (fun i => (i.zero, i.size, i.bytes)) = some (some (.agg #[.int .i64 0, .int .i64 0, .int .i64 0, .int .i64 0]), 4, 32) := by kernel_rfl
/-- The cells of a state in the queue. -/
def cV (f s : Int) (c : Nat) : List Value := [.int .i64 f, .int .i64 s, .int .i64 ((ua c : Nat) : Int), .int .i64 ((vb c : Nat) : Int)]
def cVs (f s : Int) (Q : List (Nat × List Int)) : List Value := Q.flatMap fun e => cV f s e.1
theorem cVs_snoc (f s : Int) (Q : List (Nat × List Int)) (e : Nat × List Int) : cVs f s (Q ++ [e]) = cVs f s Q ++ cV f s e.1 := by simp [cVs]
theorem cv_cells (w : World) (f s : Int) (d : Nat) : ∀ j u, (cV f s d)[j]? = some u → (w.alloc (.cells #[.int .i64 f, .int .i64 s, .int .i64 ((ua d : Nat) : Int), .int .i64 ((vb d : Nat) : Int)] 25)).cell? ((⟨w.heap.size, 0, none⟩ : Addr).add j) = some u := by
  intro j u h
  have hadd : ∀ j, (⟨w.heap.size, 0, none⟩ : Addr).add j = ⟨w.heap.size, 0 + j, none⟩ := fun j => by unfold Addr.add; split <;> simp_all
  rw [hadd]
  exact cells_at (w := w.alloc _) (heap_alloc_new w _) (m := 4) (xs := cV f s d) rfl j u h
theorem cv_one (f s : Int) (d : Nat) : ∀ u ∈ cV f s d, u.oneCell' = true := by
  intro u hu
  simp only [cV, List.mem_cons, List.mem_nil_iff, or_false] at hu
  rcases hu with rfl | rfl | rfl | rfl <;> rfl
theorem q_new (B : Nat) (w : World) (f s : Int) (hB : B ≤ w.heap.size) : ownsQ (w.alloc (.cells #[.int .i64 f, .int .i64 s, .int .i64 0, .int .i64 0] 25)) B 25 4 (.slice (some ⟨w.heap.size, 0, none⟩) 1 1) 1 (cVs f s [(0, [])]) :=
  ⟨rfl, w.heap.size, 0, 1, _, rfl, hB, heap_alloc_new w _, Nat.le_refl _, by unfold maxLen; omega, by simp, by simp [cVs, cV, ua, vb]⟩
theorem ints_wf {l : List Int} (h : ∀ a ∈ l, 1 ≤ a ∧ a ≤ 6) : ∀ z ∈ l, (Lit.int .i64 z).wf = true := fun z hz => wf_small (by have := h z hz; omega)
theorem wk_acts {f s : Int} : ∀ (l : List Int) (c d : Nat), Wk f s c l d → ∀ a ∈ l, 1 ≤ a ∧ a ≤ 6 := by
  intro l
  induction l with
  | nil => intro c d _ a ha; simp at ha
  | cons b l ih =>
    rintro c d ⟨x, h1, h2⟩ a ha
    rcases List.mem_cons.1 ha with rfl | ha
    · exact px_act h1
    · exact ih x d h2 a ha
theorem wk_ok {f s : Int} : ∀ (l : List Int) (c d : Nat), okJ f s c → Wk f s c l d → okJ f s d := by
  intro l
  induction l with
  | nil => intro c d h e; rw [← show c = d from e]; exact h
  | cons b l ih =>
    rintro c d _ ⟨x, h1, h2⟩
    exact ih x d (px_ok h1).2 h2
/-- What the groups read as, behind whatever leaves their map and shuns their rows. -/
theorem groups_kept {w w' : World} {base b n : Nat} {k e : TypeId} {D : DataW Unit} {No : Nat → Prop} {row : Option Nat} (h : w.ownsGroups Try.prog k base e .i64 b n D) (hsh : w.Shuns b No) (hg : w.grownBy w' row) (hb : some b ≠ row) (hr : ∀ j, row = some j → No j) : w'.ownsGroups Try.prog k base e .i64 b n D ∧ w'.Shuns b No := by
  have hlt : b < w.heap.size := by obtain ⟨es, clock, hb', _⟩ := h; exact (Array.getElem?_eq_some_iff.1 hb').1
  exact ⟨h.kept hg hb (hsh.rowsOff hr), hsh.kept hg hlt hb⟩
theorem groups_lt {w : World} {base b n : Nat} {k e : TypeId} {D : DataW Unit} (h : w.ownsGroups Try.prog k base e .i64 b n D) : b < w.heap.size ∧ b < base := by
  obtain ⟨es, clock, hb', _, _, _, hbb, _⟩ := h
  exact ⟨(Array.getElem?_eq_some_iff.1 hb').1, hbb⟩
theorem unS_pos {S : List Nat} {d : Nat} (hd : d ∉ S) (m : Nat) (h : d < m) : 1 ≤ unS S m := (unS_add hd m).1 h
theorem Kp.undrew {W W' : World} (h : Kp W W') : Kp W.drew W' := ⟨h.os, h.tape, h.output, h.size, h.block⟩
theorem wp_lookup_ex {P : Program} (w : World) {o : Oper} {a : Act} {K : Act → World → Prop} {Q : Exit → Act → World → Prop} {R : Value → Prop}
    (m x : Operand) (t : TypeId) (hop : o.op = Op.lookup t m x false) {mv key : Value}
    (hm : a.eval m = mv) (hx : a.eval x = key) (hex : ∃ v, (Instr.lookup t mv key false).run P w = .ok v w ∧ R v)
    (hK : ∀ v, R v → K (a.put o.dst v) w) : o.wp P a w K Q := by
  obtain ⟨v, hrun, hr⟩ := hex
  exact wp_lookup_eq w m x t hop hm hx hrun (hK v hr)
theorem reads_one_kp {W W' : World} {y : Int} {t : TypeId} (hk : Kp (W.alloc (.cells #[.int .i64 y] t)) W') : Reads W' (W.heap.size + 1) 1 (some ⟨W.heap.size, 0, none⟩) 1 [.int .i64 y] := by
  unfold Kp at hk
  rw [show (W.alloc (.cells #[.int .i64 y] t)).heap.size = W.heap.size + 1 by simp] at hk
  exact (reads_one W y t).below hk
theorem keep8 {W W' : World} {bm b1 b2 : Nat} {f s : Int} {p q p' q' : Nat} (h1 : JC W b1 f s p q) (h2 : JC W b2 f s p' q') (hg : W.grownBy W' (some bm)) (n1 : b1 ≠ bm) (n2 : b2 ≠ bm) :
    W'.cell? ⟨b1, 0, none⟩ = some (.int .i64 f) ∧ W'.cell? ⟨b1, 1, none⟩ = some (.int .i64 s) ∧ W'.cell? ⟨b1, 2, none⟩ = some (.int .i64 (p : Int)) ∧ W'.cell? ⟨b1, 3, none⟩ = some (.int .i64 (q : Int)) ∧
    W'.cell? ⟨b2, 0, none⟩ = some (.int .i64 f) ∧ W'.cell? ⟨b2, 1, none⟩ = some (.int .i64 s) ∧ W'.cell? ⟨b2, 2, none⟩ = some (.int .i64 (p' : Int)) ∧ W'.cell? ⟨b2, 3, none⟩ = some (.int .i64 (q' : Int)) := by
  obtain ⟨a0, a1, a2, a3⟩ := h1.gb hg (by simp [n1])
  obtain ⟨b0, b1, b2, b3⟩ := h2.gb hg (by simp [n2])
  exact ⟨a0, a1, a2, a3, b0, b1, b2, b3⟩
/-- Behind a store and an append to the queue. -/
theorem bfs_end {f s goal : Int} {D Q' : List (Nat × List Int)} {c d : Nat} {l : List Int} {act : Nat} {gk bm B2 jb : Nat} {w w9 w11 : World} {v' u10 : Value} {o : Obj}
    (hact : 1 ≤ act ∧ act ≤ 7) (h6 : act ≤ 6) (hk1 : 2 * unS ((D ++ (c, l) :: Q').map Prod.fst) 441 + Q'.length + 1 ≤ gk) (hk2 : (D ++ (c, l) :: Q').length + unS ((D ++ (c, l) :: Q').map Prod.fst) 441 ≤ 442)
    (hbk : Bk f s goal D (c, l) Q' (act : Int)) (hd : Px f s c (act : Int) d) (hdl : d < 441) (hin : ¬ ∃ e ∈ D ++ (c, l) :: Q', e.1 = d)
    (hjb : u10.ownBlock ≠ some jb) (hjl : jb < w9.heap.size) (hq9 : ∃ g', u10.ownBlock = some g' ∧ B2 ≤ g') (hB : w.heap.size ≤ B2) (hqb : u10.ownBlock ≠ some bm)
    (hown9 : w9.ownsGroups Try.prog 25 (bm + 1) 3 .i64 bm ((D ++ (c, l) :: Q').length + 1) ((DJ f s (D ++ (c, l) :: Q')).put (ckey f s d) (rowv (l ++ [(act : Int)])))) (hsh9 : w9.Shuns bm (fun g => u10.ownBlock = some g))
    (hqq : ownsQ w11 B2 25 4 v' (Q'.length + 1) (cVs f s Q' ++ cV f s d)) (hgg : (w9.alloc o).grownBy w11 u10.ownBlock) (hvv : v'.ownBlock = u10.ownBlock ∨ v'.ownBlock = some (w9.alloc o).heap.size)
    (hjc : JC w9 jb f s (ua c) (vb c)) (hkp : Kp w w9) :
    ∃ a' : Nat, (1 ≤ a' ∧ a' ≤ 7) ∧ Value.int .i64 ((act : Int) + 1) = .int .i64 (a' : Int) ∧ ∃ Q'' : List (Nat × List Int), 2 * unS ((D ++ (c, l) :: Q'').map Prod.fst) 441 + Q''.length + 1 ≤ gk ∧ (D ++ (c, l) :: Q'').length + unS ((D ++ (c, l) :: Q'').map Prod.fst) 441 ≤ 442 ∧ Bk f s goal D (c, l) Q'' (a' : Int) ∧ ownsQ w11 B2 25 4 v' Q''.length (cVs f s Q'') ∧ v'.ownBlock ≠ some jb ∧ w11.ownsGroups Try.prog 25 (bm + 1) 3 .i64 bm (D ++ (c, l) :: Q'').length (DJ f s (D ++ (c, l) :: Q'')) ∧ w11.Shuns bm (fun g => v'.ownBlock = some g) ∧ JC w11 jb f s (ua c) (vb c) ∧ Kp w w11 := by
  have he : D ++ (c, l) :: (Q' ++ [(d, l ++ [(act : Int)])]) = (D ++ (c, l) :: Q') ++ [(d, l ++ [(act : Int)])] := by simp
  have hds : d ∉ (D ++ (c, l) :: Q').map Prod.fst := fun h => by
    obtain ⟨e, h1, h2⟩ := List.mem_map.1 h
    exact hin ⟨e, h1, h2⟩
  obtain ⟨hp, ha⟩ := unS_add hds 441
  have hp := hp hdl
  rw [if_pos hdl] at ha
  have hal : w9.grownBy (w9.alloc o) none := World.grownBy_alloc w9 o none
  have hg1 := groups_kept hown9 hsh9 hal (by simp) (fun j e => by cases e)
  have hsh2 : (w9.alloc o).Shuns bm (fun g => u10.ownBlock = some g ∨ v'.ownBlock = some g) := World.Shuns.reno hg1.2 hg1.1 (fun g h => by
    rcases h with h | h
    · exact .inl h
    · rcases hvv with h2 | h2
      · exact .inl (by rw [← h2]; exact h)
      · rw [h2] at h; injection h with h; exact .inr (Nat.le_of_eq h))
  have hg2 := groups_kept hg1.1 hsh2 hgg (fun e => hqb e.symm) (fun j e => .inl e)
  refine ⟨act + 1, by omega, by simp, Q' ++ [(d, l ++ [(act : Int)])], ?_, ?_, ?_, ?_, ?_, ?_, ?_, ?_, ?_⟩
  · rw [he, List.map_append, List.map_singleton, ha, List.length_append, List.length_singleton]; omega
  · rw [he, List.map_append, List.map_singleton, ha, List.length_append, List.length_singleton]; omega
  · have h := hbk.add hd (fun e h1 h2 => hin ⟨e, h1, h2⟩)
    rw [show ((act + 1 : Nat) : Int) = (act : Int) + 1 by simp]
    exact h
  · rw [List.length_append, List.length_singleton, cVs_snoc]; exact hqq
  · rcases hvv with e | e
    · rw [e]; exact hjb
    · rw [e]; intro e2; injection e2 with e2; simp at e2; omega
  · rw [he, dj_snoc, List.length_append, List.length_singleton]; exact hg2.1
  · exact fun es clock hb x hx g hg hN => hg2.2 es clock hb x hx g hg (.inr hN)
  · exact (hjc.gb hal (by simp)).gb hgg (fun e => hjb e.symm)
  · obtain ⟨g', e, hge⟩ := hq9
    exact (hkp.alloc o).grown hgg (fun k e2 => by rw [e] at e2; injection e2 with e2; omega)
end Go.Proofs.Ytgkjckhjmphoaaa
