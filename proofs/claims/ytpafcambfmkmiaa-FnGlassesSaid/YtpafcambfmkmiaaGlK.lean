/- TimesWith: the keys of the program's map. -/
import Derived.Test.YtpafcambfmkmiaaGlP
import Derived.Test.YtpafcambfmkmiaaClose
import Derived.Maps.OwnOps
import Derived.Maps.Views
import Derived.DeepKeys4
set_option linter.unusedVariables false
namespace Go.Proofs.Ytpafcambfmkmiaa
open Go.RowKit Go.Maps
theorem rowM : (45 : TypeId) < Try.prog.types.size := of_decide_eq_true (by kernel_rfl)
theorem wideM : (match Try.prog.underlying 45 with | some (.array _ _) | some (.struct _) => true | _ => false) = true := by kernel_rfl
theorem deepM : Try.prog.keyTypeAt (Try.prog.types.size + 1) 45 = true := by kernel_rfl
theorem lawM : Keyed Try.prog 45 := Keyed.of_law (deep_law_laid laidOut (m := 3) (by omega) rowM (by kernel_rfl) wideM)
theorem cM : Try.prog.cellsOf 45 = 5 := by kernel_rfl
theorem cG : Try.prog.cellsOf 25 = 4 := by kernel_rfl
theorem cI : Try.prog.cellsOf 3 = 1 := by kernel_rfl
def sLits (f s u v t : Int) : List Lit := [.int .i64 f, .int .i64 s, .int .i64 u, .int .i64 v, .int .i64 t]
def skey (f s u v t : Int) : Lit := .string (keyBytes (sLits f s u v t))
theorem keyM (f s u v t : Int) (hf : (Lit.int .i64 f).wf = true) (hs : (Lit.int .i64 s).wf = true) (hu : (Lit.int .i64 u).wf = true) (hv : (Lit.int .i64 v).wf = true) (ht : (Lit.int .i64 t).wf = true) :
    keyOf Try.prog 45 (.agg #[.int .i64 f, .int .i64 s, .int .i64 u, .int .i64 v, .int .i64 t]) = some (skey f s u v t) := by
  have h1 : Try.prog.keyType 45 = true := deepM
  have h2 : (Value.agg #[.int .i64 f, .int .i64 s, .int .i64 u, .int .i64 v, .int .i64 t]).formed Try.prog 45 = true := by kernel_rfl
  obtain ⟨m, hm⟩ : ∃ m, Try.prog.types.size = m + 2 := ⟨Try.prog.types.size - 2, by have h : (45 : Nat) < Try.prog.types.size := rowM; omega⟩
  have h3 : Try.prog.keyLits (Try.prog.types.size + 1) 45 (Value.agg #[.int .i64 f, .int .i64 s, .int .i64 u, .int .i64 v, .int .i64 t]).cells.toList = some (sLits f s u v t) := by
    rw [hm]
    simp [Program.keyLits, Try.underlying45, Try.underlying25, Try.underlying3, Value.cells, sLits, cM, cG, cI, hf, hs, hu, hv, ht]
    rw [if_pos (by
      intro i hi
      match i, hi with
      | 0, _ => simp
      | 1, _ => simp
      | 2, _ => simp
      | 3, _ => simp)]
    rfl
  unfold keyOf
  rw [h1, h2, h3, Try.underlying45]
  rfl
/-- Two states with one key are one. -/
theorem skey_inj {f s u v t u' v' t' : Int} (hf : (Lit.int .i64 f).wf = true) (hs : (Lit.int .i64 s).wf = true) (hu : (Lit.int .i64 u).wf = true) (hv : (Lit.int .i64 v).wf = true) (ht : (Lit.int .i64 t).wf = true)
    (hu' : (Lit.int .i64 u').wf = true) (hv' : (Lit.int .i64 v').wf = true) (ht' : (Lit.int .i64 t').wf = true) (e : skey f s u v t = skey f s u' v' t') : u = u' ∧ v = v' ∧ t = t' := by
  have h := lawM.inj (keyM f s u v t hf hs hu hv ht) (by rw [e]; exact keyM f s u' v' t' hf hs hu' hv' ht')
  injection h with h
  injection h with h
  simp at h
  exact h
/-- The key of a state. -/
def ckey (f s : Int) (c : Nat) : Lit := skey f s (uc c) (vc c) (tc c)
theorem wf_small {x : Int} (h : -1000000 ≤ x ∧ x ≤ 1000000) : (Lit.int .i64 x).wf = true := WalkArith.wf_i64 (by omega)
theorem ckey_lit (f s : Int) (c : Nat) : WideAt.IsKeyLit (ckey f s c) := trivial
theorem ckey_inj {f s : Int} (hf : 1 ≤ f ∧ f ≤ 12) (hs : 1 ≤ s ∧ s ≤ 12) {c d : Nat} (hc : tc c ≤ 60) (hd : tc d ≤ 60) (e : ckey f s c = ckey f s d) : c = d := by
  have a := uv_bd c
  have b := uv_bd d
  obtain ⟨h1, h2, h3⟩ := skey_inj (wf_small (by omega)) (wf_small (by omega)) (wf_small (by omega)) (wf_small (by omega)) (wf_small (by omega)) (wf_small (by omega)) (wf_small (by omega)) (wf_small (by omega)) e
  exact code_inj (by omega) (by omega) (by omega)
theorem ckey_of {f s : Int} (hf : 1 ≤ f ∧ f ≤ 12) (hs : 1 ≤ s ∧ s ≤ 12) {c : Nat} (hc : tc c ≤ 60) : keyOf Try.prog 45 (.agg #[.int .i64 f, .int .i64 s, .int .i64 ((uc c : Nat) : Int), .int .i64 ((vc c : Nat) : Int), .int .i64 ((tc c : Nat) : Int)]) = some (ckey f s c) := by
  have a := uv_bd c
  exact keyM _ _ _ _ _ (wf_small (by omega)) (wf_small (by omega)) (wf_small (by omega)) (wf_small (by omega)) (wf_small (by omega))
/-! ### What the map of the states seen reads as -/
def DS (f s : Int) : List Nat → DataW Unit
  | [] => .map []
  | c :: S => (DS f s S).put (ckey f s c) (.lit (.int .i64 1))
theorem ds_map (f s : Int) (S : List Nat) : IsMap (DS f s S) := by
  induction S with
  | nil => exact isMap_empty
  | cons c S ih => exact ih.put _ _
theorem ds_at {f s : Int} (hf : 1 ≤ f ∧ f ≤ 12) (hs : 1 ≤ s ∧ s ≤ 12) {c : Nat} (hc : tc c ≤ 60) : ∀ S : List Nat, (∀ d ∈ S, tc d ≤ 60) → (DS f s S).atKey (ckey f s c) (.lit (.int .i64 0)) = .lit (.int .i64 (if c ∈ S then 1 else 0)) := by
  intro S
  induction S with
  | nil => intro _; rfl
  | cons d S ih =>
    intro h
    rw [DS]
    by_cases e : c = d
    · subst e
      rw [atKey_put_same (ds_map f s S) (ckey_lit f s c), if_pos (by simp)]
    · rw [atKey_put_other (fun x => e (ckey_inj hf hs hc (h d (by simp)) x)), ih (fun y hy => h y (by simp [hy]))]
      have : (if c ∈ d :: S then (1 : Int) else 0) = if c ∈ S then 1 else 0 := by simp [e]
      rw [this]
/-! ### What the map of the times reads as -/
def ikey (p : Int) : Lit := .int .i64 p
theorem ikey_lit (p : Int) : WideAt.IsKeyLit (ikey p) := trivial
def DT : List Nat → DataW Unit
  | [] => .map []
  | t :: T => (DT T).put (ikey (t : Int)) (.lit (.int .i64 1))
theorem dt_map (T : List Nat) : IsMap (DT T) := by
  induction T with
  | nil => exact isMap_empty
  | cons t T ih => exact ih.put _ _
theorem dt_has (p : Int) : ∀ T : List Nat, Maps.has (DT T) (ikey p) = decide (∃ t ∈ T, (t : Int) = p) := by
  intro T
  induction T with
  | nil => simp [DT]; rfl
  | cons t T ih =>
    rw [DT]
    by_cases e : (t : Int) = p
    · rw [← e, has_put_same (dt_map T) (ikey_lit _)]; simp
    · rw [has_put_other (by unfold ikey; intro h; injection h with _ h; exact e h.symm), ih]
      simp [e]
end Go.Proofs.Ytpafcambfmkmiaa
