/- TimesWith: the contract of the program's. -/
import Derived.Test.YtpafcambfmkmiaaGlK
import Derived.Test.YtpafcambfmkmiaaGlQ
import Derived.Test.YtpafcambfmkmiaaGlT
import Derived.Test.YtpafcambfmkmiaaShelfGl
import Derived.Maps.RangeWalk
import Derived.Maps.OwnSet
import Derived.Sort.OwnSortedInts
set_option linter.unusedVariables false
namespace Go.Proofs.Ytpafcambfmkmiaa
open Go.RowKit Go.Maps
/-- An entry of a map's literal. -/
theorem wpList_insert_own {H : Type} {P : Program} (w : World) {ops : Array Oper} {rest : List Oper} {o : Oper} {a : Act} {Q : Exit → Act → World → Prop}
    (hg : o.guard = none) (m x v : Operand) (t : TypeId) (hop : o.op = Op.insert t m x v)
    (k e : TypeId) (K : Keyed P k) (ht : P.underlying t = some (.map k e)) (R : Value → Option (DataW H × List MemPlace)) (b n : Nat) (D : DataW H)
    (hm : a.eval m = .map (some b)) (hown : w.ownsMap P k R b n D) (hn : n < maxLen) (key val : Value) (kl : Lit) (hx : a.eval x = key) (hv : a.eval v = val) (hkey : keyOf P k key = some kl)
    (d : DataW H) (ps : List MemPlace) (hval : R val = some (d, ps))
    (hK : ∀ w', w'.ownsMap P k R b (n + 1) (D.put kl d) → w.grownBy w' (some b) → wpList P ops Q rest (a.put o.dst undef) w') :
    wpList P ops Q (o :: rest) a w := by
  refine wpList_plain hg fun K' hK' => ?_
  obtain ⟨w', hrun, r1, r2⟩ := hown.update K ht hn hkey hval
  unfold Oper.wp
  simp [execOp, hop, hm, hx, hv, hrun, Result.andThen]
  exact hK' _ _ (hK w' r1 r2)
theorem law3 : Keyed Try.prog 3 := int_keyed Try.underlying3
theorem zero3 (w : World) : (zeroValue 3).run Try.prog w = .ok (.int .i64 0) w := by kernel_rfl
theorem moment_info : (Try.prog.info? 45).map (fun i => (i.zero, i.size, i.bytes)) = some (some (.agg #[.int .i64 0, .int .i64 0, .int .i64 0, .int .i64 0, .int .i64 0]), 5, 40) := by kernel_rfl
/-- The cells of a state in the queue. -/
def cV (f s : Int) (c : Nat) : List Value := [.int .i64 f, .int .i64 s, .int .i64 ((uc c : Nat) : Int), .int .i64 ((vc c : Nat) : Int), .int .i64 ((tc c : Nat) : Int)]
def cVs (f s : Int) (Q : List Nat) : List Value := Q.flatMap (cV f s)
theorem cVs_len (f s : Int) (Q : List Nat) : (cVs f s Q).length = Q.length * 5 := by
  induction Q with
  | nil => rfl
  | cons c Q ih => rw [cVs, List.flatMap_cons, List.length_append]; show (cV f s c).length + (cVs f s Q).length = _; rw [ih, List.length_cons, Nat.add_mul]; simp [cV]; omega
/-- Where the search stands: S: seen, Q: to do, T: times met. -/
structure Bf (f s : Int) (M : Nat) (S Q T : List Nat) : Prop where
  zero : 0 ∈ S
  re : ∀ c ∈ S, Re f s M c
  sub : ∀ c ∈ Q, c ∈ S
  clo : ∀ c ∈ S, c ∉ Q → ∀ w, w ≤ 3 → ∀ d, Nx f s M c w d → d ∈ S
  tim : ∀ t, t ∈ T ↔ ∃ c ∈ S, c ≠ 0 ∧ tc c = t
/-- In the midst of a state's four turns. -/
structure Bw (f s : Int) (M p j : Nat) (S Q T : List Nat) : Prop where
  zero : 0 ∈ S
  re : ∀ c ∈ S, Re f s M c
  sub : ∀ c ∈ Q, c ∈ S
  me : p ∈ S
  clo : ∀ c ∈ S, c ≠ p → c ∉ Q → ∀ w, w ≤ 3 → ∀ d, Nx f s M c w d → d ∈ S
  mine : p ∉ Q → ∀ w, w < j → ∀ d, Nx f s M p w d → d ∈ S
  tim : ∀ t, t ∈ T ↔ ∃ c ∈ S, c ≠ 0 ∧ tc c = t
theorem bf_start (f s : Int) (M : Nat) : Bf f s M [0] [0] [] :=
  ⟨by simp, fun c hc => by rw [List.mem_singleton] at hc; subst hc; exact .zero, fun c hc => hc, fun c hc hq => absurd hc hq, fun t => by simp⟩
theorem Bf.pop {f s : Int} {M p : Nat} {S Q T : List Nat} (h : Bf f s M S (p :: Q) T) : Bw f s M p 0 S Q T :=
  { zero := h.zero, re := h.re, sub := fun c hc => h.sub c (by simp [hc]), me := h.sub p (by simp)
    clo := fun c hc hp hq => h.clo c hc (by simp [hp, hq])
    mine := fun _ w hw => by omega, tim := h.tim }
theorem Bw.done {f s : Int} {M p : Nat} {S Q T : List Nat} (h : Bw f s M p 4 S Q T) : Bf f s M S Q T :=
  { zero := h.zero, re := h.re, sub := h.sub, tim := h.tim
    clo := fun c hc hq w hw d hn => by
      by_cases e : c = p
      · subst e; exact h.mine hq w (by omega) d hn
      · exact h.clo c hc e hq w hw d hn }
theorem Bw.skip {f s : Int} {M p j : Nat} {S Q T : List Nat} (h : Bw f s M p j S Q T) (hn : ∀ d, Nx f s M p j d → d ∈ S) : Bw f s M p (j + 1) S Q T :=
  { h with
    mine := fun hq w hw d hd => by
      by_cases e : w = j
      · subst e; exact hn d hd
      · exact h.mine hq w (by omega) d hd }
theorem Bw.add {f s : Int} {M p j d : Nat} {S Q T : List Nat} (h : Bw f s M p j S Q T) (hj : j ≤ 3) (hd : Nx f s M p j d) : Bw f s M p (j + 1) (d :: S) (Q ++ [d]) (tc d :: T) :=
  { zero := by simp [h.zero]
    re := fun c hc => by
      rcases List.mem_cons.1 hc with rfl | hc
      · exact .step (h.re p h.me) hj hd
      · exact h.re c hc
    sub := fun c hc => by
      rcases List.mem_append.1 hc with hc | hc
      · exact List.mem_cons_of_mem _ (h.sub c hc)
      · rw [List.mem_singleton] at hc; subst hc; simp
    me := List.mem_cons_of_mem _ h.me
    clo := fun c hc hp hq w hw e he => by
      rcases List.mem_cons.1 hc with rfl | hc
      · exact absurd (List.mem_append_right _ (by simp)) hq
      · exact List.mem_cons_of_mem _ (h.clo c hc hp (fun x => hq (List.mem_append_left _ x)) w hw e he)
    mine := fun hq w hw e he => by
      by_cases x : w = j
      · subst x; rw [nx_fun he hd]; simp
      · exact List.mem_cons_of_mem _ (h.mine (fun y => hq (List.mem_append_left _ y)) w (by omega) e he)
    tim := fun t => by
      have hpos : d ≠ 0 := by have := (nx_lt hd).2.2; omega
      rw [List.mem_cons, h.tim t]
      constructor
      · rintro (rfl | ⟨c, hc, h0, e⟩)
        · exact ⟨d, by simp, hpos, rfl⟩
        · exact ⟨c, List.mem_cons_of_mem _ hc, h0, e⟩
      · rintro ⟨c, hc, h0, e⟩
        rcases List.mem_cons.1 hc with rfl | hc
        · exact .inl e.symm
        · exact .inr ⟨c, hc, h0, e⟩ }
/-- Nothing is left to do: the times are the times. -/
theorem Bf.times {f s : Int} {M : Nat} {S T : List Nat} (h : Bf f s M S [] T) (t : Nat) : t ∈ T ↔ 1 ≤ t ∧ At f s M t := by
  rw [h.tim]
  constructor
  · rintro ⟨c, hc, h0, e⟩
    have hr := h.re c hc
    exact ⟨by rw [← e]; exact hr.pos h0, c, e, hr⟩
  · rintro ⟨h1, c, e, hr⟩
    refine ⟨c, re_in (S := (· ∈ S)) h.zero (fun c hc w hw d hd => h.clo c hc (by simp) w hw d hd) hr, fun x => ?_, e⟩
    subst x
    unfold tc at e; omega
end Go.Proofs.Ytpafcambfmkmiaa
