/- FewestPours: the keys of the program's map, and what the map reads as. -/
import Derived.Test.YtgkjckhjmphoaaaJgP
import Derived.Test.YtgkjckhjmphoaaaGlQ
import Derived.Test.YtgkjckhjmphoaaaClose
import Derived.Maps.OwnOps
import Derived.Maps.Views
import Derived.Maps.GroupsBeside
import Derived.DeepKeys4
set_option linter.unusedVariables false
namespace Go.Proofs.Ytgkjckhjmphoaaa
open Go.RowKit Go.Maps
open Go.ChangeShapes (lits)
theorem rowM : (25 : TypeId) < Try.prog.types.size := of_decide_eq_true (by kernel_rfl)
theorem wideM : (match Try.prog.underlying 25 with | some (.array _ _) | some (.struct _) => true | _ => false) = true := by kernel_rfl
theorem deepM : Try.prog.keyTypeAt (Try.prog.types.size + 1) 25 = true := by kernel_rfl
theorem lawM : Keyed Try.prog 25 := Keyed.of_law (deep_law_laid laidOut (m := 2) (by omega) rowM (by kernel_rfl) wideM)
theorem cG : Try.prog.cellsOf 25 = 4 := by kernel_rfl
theorem cI : Try.prog.cellsOf 3 = 1 := by kernel_rfl
def sLits (f s u v : Int) : List Lit := [.int .i64 f, .int .i64 s, .int .i64 u, .int .i64 v]
def skey (f s u v : Int) : Lit := .string (keyBytes (sLits f s u v))
theorem keyM (f s u v : Int) (hf : (Lit.int .i64 f).wf = true) (hs : (Lit.int .i64 s).wf = true) (hu : (Lit.int .i64 u).wf = true) (hv : (Lit.int .i64 v).wf = true) :
    keyOf Try.prog 25 (.agg #[.int .i64 f, .int .i64 s, .int .i64 u, .int .i64 v]) = some (skey f s u v) := by
  have h1 : Try.prog.keyType 25 = true := deepM
  have h2 : (Value.agg #[.int .i64 f, .int .i64 s, .int .i64 u, .int .i64 v]).formed Try.prog 25 = true := by kernel_rfl
  obtain ⟨m, hm⟩ : ∃ m, Try.prog.types.size = m + 2 := ⟨Try.prog.types.size - 2, by have h : (25 : Nat) < Try.prog.types.size := rowM; omega⟩
  have h3 : Try.prog.keyLits (Try.prog.types.size + 1) 25 (Value.agg #[.int .i64 f, .int .i64 s, .int .i64 u, .int .i64 v]).cells.toList = some (sLits f s u v) := by
    rw [hm]
    simp [Program.keyLits, Try.underlying25, Try.underlying3, Value.cells, sLits, cG, cI, hf, hs, hu, hv]
  unfold keyOf
  rw [h1, h2, h3, Try.underlying25]
  rfl
theorem skey_inj {f s u v u' v' : Int} (hf : (Lit.int .i64 f).wf = true) (hs : (Lit.int .i64 s).wf = true) (hu : (Lit.int .i64 u).wf = true) (hv : (Lit.int .i64 v).wf = true)
    (hu' : (Lit.int .i64 u').wf = true) (hv' : (Lit.int .i64 v').wf = true) (e : skey f s u v = skey f s u' v') : u = u' ∧ v = v' := by
  have h := lawM.inj (keyM f s u v hf hs hu hv) (by rw [e]; exact keyM f s u' v' hf hs hu' hv')
  injection h with h
  injection h with h
  simp at h
  exact h
/-- The key of a state. -/
def ckey (f s : Int) (c : Nat) : Lit := skey f s (ua c) (vb c)
theorem wf_small {x : Int} (h : -1000000 ≤ x ∧ x ≤ 1000000) : (Lit.int .i64 x).wf = true := WalkArith.wf_i64 (by omega)
theorem ckey_lit (f s : Int) (c : Nat) : WideAt.IsKeyLit (ckey f s c) := trivial
theorem ckey_inj {f s : Int} (hf : 1 ≤ f ∧ f ≤ 20) (hs : 1 ≤ s ∧ s ≤ 20) {c d : Nat} (hc : c < 441) (hd : d < 441) (e : ckey f s c = ckey f s d) : c = d := by
  have a := jc_eq c
  have b := jc_eq d
  obtain ⟨h1, h2⟩ := skey_inj (wf_small (by omega)) (wf_small (by omega)) (wf_small (by omega)) (wf_small (by omega)) (wf_small (by omega)) (wf_small (by omega)) e
  exact jc_inj (by omega) (by omega)
theorem ckey_of {f s : Int} (hf : 1 ≤ f ∧ f ≤ 20) (hs : 1 ≤ s ∧ s ≤ 20) {c : Nat} (hc : c < 441) : keyOf Try.prog 25 (.agg #[.int .i64 f, .int .i64 s, .int .i64 ((ua c : Nat) : Int), .int .i64 ((vb c : Nat) : Int)]) = some (ckey f s c) := by
  have a := jc_eq c
  exact keyM _ _ _ _ (wf_small (by omega)) (wf_small (by omega)) (wf_small (by omega)) (wf_small (by omega))
/-! ### What the map of the ways reads as -/
def rowv (l : List Int) : DataW Unit := if l = [] then .nil else .slice (lits .i64 l) []
theorem rowv_datum {w : World} {base : Nat} {e : TypeId} {v : Value} {zs : List Int} (h : w.ownsInts base e .i64 v zs) (hv : zs = [] → v = .slice none 0 0) : rowDatum (H := Unit) .i64 v zs = rowv zs := by
  by_cases e0 : zs = []
  · rw [rowv, if_pos e0, hv e0]; rfl
  · rw [rowv, if_neg e0]
    exact h.datum_pos e0
theorem lits_inj {a b : List Int} (h : lits (H := Unit) .i64 a = lits (H := Unit) .i64 b) : a = b := by
  unfold lits at h
  exact (List.map_inj_right (fun x y e => by injection e with e; injection e with _ e)).1 h
theorem rowv_inj {w : World} {base : Nat} {e : TypeId} {v : Value} {zs l : List Int} (h : w.ownsInts base e .i64 v zs) (hd : rowv l = rowDatum (H := Unit) .i64 v zs) : zs = l := by
  rcases h.datum (H := Unit) with ⟨h1, h2⟩ | h1
  · rw [h1] at hd
    by_cases e0 : l = []
    · rw [h2, e0]
    · rw [rowv, if_neg e0] at hd; cases hd
  · rw [h1] at hd
    by_cases e0 : l = []
    · rw [rowv, if_pos e0] at hd; cases hd
    · rw [rowv, if_neg e0] at hd
      injection hd with hd _
      exact (lits_inj hd).symm
def DJ (f s : Int) (E : List (Nat × List Int)) : DataW Unit := E.foldl (fun m e => m.put (ckey f s e.1) (rowv e.2)) (.map [])
theorem dj_snoc (f s : Int) (E : List (Nat × List Int)) (e : Nat × List Int) : DJ f s (E ++ [e]) = (DJ f s E).put (ckey f s e.1) (rowv e.2) := by simp [DJ]
section
variable {f s : Int} (hf : 1 ≤ f ∧ f ≤ 20) (hs : 1 ≤ s ∧ s ≤ 20)
include hf hs
theorem dj_has_gen {c : Nat} (hc : c < 441) : ∀ (E : List (Nat × List Int)) (m : DataW Unit), IsMap m → (∀ e ∈ E, e.1 < 441) → Maps.has (E.foldl (fun m e => m.put (ckey f s e.1) (rowv e.2)) m) (ckey f s c) = (Maps.has m (ckey f s c) || decide (∃ e ∈ E, e.1 = c)) := by
  intro E
  induction E with
  | nil => intro m _ _; simp only [List.foldl_nil]; simp
  | cons x E ih =>
    intro m hm hE
    rw [List.foldl_cons, ih _ (hm.put _ _) (fun e he => hE e (by simp [he]))]
    by_cases e : x.1 = c
    · rw [e, has_put_same hm (ckey_lit _ _ _)]; simp [e]
    · rw [has_put_other (fun h => e (ckey_inj hf hs hc (hE x (by simp)) h).symm)]
      congr 1
      refine decide_eq_decide.2 ⟨fun ⟨y, hy, h⟩ => ⟨y, by simp [hy], h⟩, fun ⟨y, hy, h⟩ => ?_⟩
      rcases List.mem_cons.1 hy with rfl | hy
      · exact absurd h e
      · exact ⟨y, hy, h⟩
theorem dj_has {c : Nat} (hc : c < 441) (E : List (Nat × List Int)) (hE : ∀ e ∈ E, e.1 < 441) : Maps.has (DJ f s E) (ckey f s c) = decide (∃ e ∈ E, e.1 = c) := by
  rw [DJ, dj_has_gen hf hs hc E _ isMap_empty hE]
  rfl
theorem dj_at_gen {c : Nat} (hc : c < 441) {d : DataW Unit} : ∀ (E : List (Nat × List Int)) (m : DataW Unit), IsMap m → (∀ e ∈ E, e.1 < 441) → (∀ e ∈ E, e.1 ≠ c) → (E.foldl (fun m e => m.put (ckey f s e.1) (rowv e.2)) m).atKey (ckey f s c) d = m.atKey (ckey f s c) d := by
  intro E
  induction E with
  | nil => intro m _ _ _; rfl
  | cons x E ih =>
    intro m hm hE hn
    rw [List.foldl_cons, ih _ (hm.put _ _) (fun e he => hE e (by simp [he])) (fun e he => hn e (by simp [he]))]
    rw [atKey_put_other (fun h => hn x (by simp) (ckey_inj hf hs hc (hE x (by simp)) h).symm)]
theorem dj_at_in {d : DataW Unit} {e : Nat × List Int} : ∀ (E : List (Nat × List Int)) (m : DataW Unit), IsMap m → (∀ e ∈ E, e.1 < 441) → E.Pairwise (fun x y => x.1 ≠ y.1) → e ∈ E → (E.foldl (fun m e => m.put (ckey f s e.1) (rowv e.2)) m).atKey (ckey f s e.1) d = rowv e.2 := by
  intro E
  induction E with
  | nil => intro m _ _ _ h; simp at h
  | cons x E ih =>
    intro m hm hE hp he
    rw [List.pairwise_cons] at hp
    rw [List.foldl_cons]
    rcases List.mem_cons.1 he with rfl | he
    · rw [dj_at_gen hf hs (hE e (by simp)) E _ (hm.put _ _) (fun y hy => hE y (by simp [hy])) (fun y hy => (hp.1 y hy).symm), atKey_put_same hm (ckey_lit _ _ _)]
    · exact ih _ (hm.put _ _) (fun y hy => hE y (by simp [hy])) hp.2 he
theorem dj_at {e : Nat × List Int} {E : List (Nat × List Int)} {d : DataW Unit} (hE : ∀ e ∈ E, e.1 < 441) (hp : E.Pairwise (fun x y => x.1 ≠ y.1)) (he : e ∈ E) : (DJ f s E).atKey (ckey f s e.1) d = rowv e.2 := dj_at_in hf hs E _ isMap_empty hE hp he
theorem dj_no {c : Nat} {E : List (Nat × List Int)} {d : DataW Unit} (hc : c < 441) (hE : ∀ e ∈ E, e.1 < 441) (hn : ∀ e ∈ E, e.1 ≠ c) : (DJ f s E).atKey (ckey f s c) d = d := by
  rw [DJ, dj_at_gen hf hs hc E _ isMap_empty hE hn]
  rfl
end
/-! ### The laws at the map's operations -/
theorem zeroL (w : World) : (zeroValue 32).run Try.prog w = .ok (.slice none 0 0) w := by kernel_rfl
theorem wpList_insert_back {H : Type} {P : Program} (w : World) {ops : Array Oper} {rest : List Oper} {o : Oper} {a : Act} {Q : Exit → Act → World → Prop}
    (hg : o.guard = none) (m x v : Operand) (t : TypeId) (hop : o.op = Op.insert t m x v)
    {w0 : World} {k : TypeId} {base : Nat} {e : TypeId} {q : IntKind} {b n : Nat} {D : DataW H} {key : Value} {kl : Lit} {u v' : Value} {zs' : List Int}
    (hback : w0.groupBack P t k base e q b n D key kl u) (hm : a.eval m = .map (some b)) (hx : a.eval x = key) (hv : a.eval v = v')
    (hgr : w0.grownBy w u.ownBlock) (hown' : w.ownsInts base e q v' zs') (hl' : zs'.length ≤ n + 1) (hloc : v'.ownBlock = u.ownBlock ∨ ∃ g, v'.ownBlock = some g ∧ w0.heap.size ≤ g)
    (hK : ∀ w2, w2.ownsGroups P k base e q b (n + 1) (D.put kl (rowDatum q v' zs')) → w.grownBy w2 (some b) → wpList P ops Q rest (a.put o.dst undef) w2) :
    wpList P ops Q (o :: rest) a w := by
  refine wpList_plain hg fun K' hK' => ?_
  obtain ⟨w2, hrun, r1, r2⟩ := hback w v' zs' hgr hown' hl' hloc
  unfold Oper.wp
  simp [execOp, hop, hm, hx, hv, hrun, Result.andThen]
  exact hK' _ _ (hK w2 r1 r2)
/-- The store of a slice made since, and what the groups shun. -/
theorem back_shuns {H : Type} {P : Program} {w0 w : World} {t k E : TypeId} {base : Nat} {e : TypeId} {q : IntKind} {b n : Nat} {D : DataW H} {key : Value} {kl : Lit} {u v' : Value} {zs zs' : List Int} {No : Nat → Prop}
    (K : Keyed P k) (ht : P.underlying t = some (.map k E)) (hkey : keyOf P k key = some kl) (hown0 : w0.ownsGroups P k base e q b n D) (hn : n < maxLen) (hu : w0.ownsInts base e q u zs) (hsh : w0.Shuns b No) (hno : ∀ g, v'.ownBlock = some g → ¬ No g)
    (hback : w0.groupBack P t k base e q b n D key kl u)
    (hgr : w0.grownBy w u.ownBlock) (hown' : w.ownsInts base e q v' zs') (hl' : zs'.length ≤ n + 1) (hloc : v'.ownBlock = u.ownBlock ∨ ∃ g, v'.ownBlock = some g ∧ w0.heap.size ≤ g) :
    ∃ w2, (Instr.mapUpdate t (.map (some b)) key v').run P w = .ok () w2 ∧ w2.ownsGroups P k base e q b (n + 1) (D.put kl (rowDatum q v' zs')) ∧ w.grownBy w2 (some b) ∧ w2.Shuns b No := by
  obtain ⟨w2, hrun, r1, r2⟩ := hback w v' zs' hgr hown' hl' hloc
  refine ⟨w2, hrun, r1, r2, ?_⟩
  obtain ⟨es, clock, hb, F, hs, _, hbb, _⟩ := hown0
  have hblt : b < w0.heap.size := (Array.getElem?_eq_some_iff.1 hb).1
  have hb1 : w.heap[b]? = some (.map es clock) := (hgr.block b hblt (fun e1 => by have := (hu.1.lt b e1.symm).1; omega)).trans hb
  obtain ⟨es', clock', hb2, hwho⟩ := stored_who K ht hb1 F (Nat.lt_of_le_of_lt hs hn) hkey hrun
  intro es2 clock2 hb2' y hy g hyg
  obtain ⟨rfl, rfl⟩ : es' = es2 ∧ clock' = clock2 := by rw [hb2] at hb2'; simpa using hb2'
  rcases hwho y hy with ⟨hy0, _⟩ | ⟨_, hval⟩
  · exact hsh es clock hb y hy0 g hyg
  · exact hno g (hval ▸ hyg)
end Go.Proofs.Ytgkjckhjmphoaaa
