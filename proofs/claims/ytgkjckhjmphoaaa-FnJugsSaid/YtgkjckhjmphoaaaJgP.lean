/- FewestPours: the plain law. A state is a code: first * 21 + second. -/
import Derived.Test.YtgkjckhjmphoaaaJug
set_option linter.unusedVariables false
namespace Go.Proofs.Ytgkjckhjmphoaaa
def ua (c : Nat) : Nat := c / 21
def vb (c : Nat) : Nat := c % 21
theorem jc_eq (c : Nat) : c = ua c * 21 + vb c := by unfold ua vb; omega
theorem vb_le (c : Nat) : vb c ≤ 20 := by unfold vb; omega
theorem jc_of {u v : Nat} (hv : v ≤ 20) : ua (u * 21 + v) = u ∧ vb (u * 21 + v) = v := by unfold ua vb; omega
theorem jc_inj {c d : Nat} (h1 : ua c = ua d) (h2 : vb c = vb d) : c = d := by rw [jc_eq c, jc_eq d, h1, h2]
def okJ (f s : Int) (c : Nat) : Prop := jugsB f s (ua c) (vb c) = true
theorem okJ_lt {f s : Int} {c : Nat} (h : okJ f s c) : c < 441 ∧ ua c ≤ 20 ∧ (ua c : Int) ≤ f ∧ (vb c : Int) ≤ s := by
  obtain ⟨h1, h2, h3, h4⟩ := jugsB_bd h
  have := jc_eq c
  have := vb_le c
  omega
theorem okJ_of {f s : Int} {c : Nat} (h1 : 1 ≤ f ∧ f ≤ 20) (h2 : 1 ≤ s ∧ s ≤ 20) (h3 : (ua c : Int) ≤ f) (h4 : (vb c : Int) ≤ s) : okJ f s c := by
  unfold okJ
  simp only [jugsB, Bool.and_eq_true]
  exact ⟨⟨⟨inB_true.2 h1, inB_true.2 h2⟩, inB_true.2 (by omega)⟩, inB_true.2 (by omega)⟩
theorem ok_pour {f s a b : Int} (act : Int) (h : jugsB f s a b = true) : (0 ≤ rA f s a b act ∧ rA f s a b act ≤ f) ∧ 0 ≤ rB f s a b act ∧ rB f s a b act ≤ s := by
  obtain ⟨h1, h2, h3, h4⟩ := jugsB_bd h
  unfold rA rB
  rw [if_pos h, if_pos h]
  unfold pA pB
  constructor
  · repeat' split
    all_goals omega
  · repeat' split
    all_goals omega
theorem pok_act {f s a b act : Int} (h : pOk f s a b act = true) : 1 ≤ act ∧ act ≤ 6 := by
  by_cases c : 1 ≤ act ∧ act ≤ 6
  · exact c
  · exfalso
    simp only [pOk, Bool.and_eq_true] at h
    have e1 : pA f s a b act = a := by
      unfold pA
      rw [if_neg (by omega), if_neg (by omega), if_neg (by omega), if_neg (by omega)]
    have e2 : pB f s a b act = b := by
      unfold pB
      rw [if_neg (by omega), if_neg (by omega), if_neg (by omega), if_neg (by omega)]
    rw [e1, e2] at h
    simp at h
def Px (f s : Int) (c : Nat) (a : Int) (d : Nat) : Prop := pOk f s (ua c) (vb c) a = true ∧ (ua d : Int) = rA f s (ua c) (vb c) a ∧ (vb d : Int) = rB f s (ua c) (vb c) a
theorem px_act {f s a : Int} {c d : Nat} (h : Px f s c a d) : 1 ≤ a ∧ a ≤ 6 := pok_act h.1
theorem px_fun {f s a : Int} {c d d' : Nat} (h : Px f s c a d) (h' : Px f s c a d') : d = d' := by
  obtain ⟨_, h1, h2⟩ := h
  obtain ⟨_, h3, h4⟩ := h'
  exact jc_inj (by omega) (by omega)
theorem px_ok {f s a : Int} {c d : Nat} (h : Px f s c a d) : okJ f s c ∧ okJ f s d := by
  obtain ⟨h0, h1, h2⟩ := h
  have hc : okJ f s c := by
    unfold okJ
    simp only [pOk, Bool.and_eq_true] at h0
    exact h0.1
  obtain ⟨b1, b2, _⟩ := jugsB_bd hc
  have h3 := ok_pour a hc
  exact ⟨hc, okJ_of b1 b2 (by omega) (by omega)⟩
theorem px_ex {f s a : Int} {c : Nat} (h : pOk f s (ua c) (vb c) a = true) : ∃ d, Px f s c a d := by
  have hc : okJ f s c := by
    unfold okJ
    simp only [pOk, Bool.and_eq_true] at h
    exact h.1
  obtain ⟨b1, b2, _⟩ := jugsB_bd hc
  have h3 := ok_pour a hc
  refine ⟨(rA f s (ua c) (vb c) a).toNat * 21 + (rB f s (ua c) (vb c) a).toNat, h, ?_⟩
  obtain ⟨e1, e2⟩ := jc_of (u := (rA f s (ua c) (vb c) a).toNat) (v := (rB f s (ua c) (vb c) a).toNat) (by omega)
  rw [e1, e2]
  omega
/-- A walk of pours. -/
def Wk (f s : Int) : Nat → List Int → Nat → Prop
  | c, [], d => c = d
  | c, a :: l, d => ∃ x, Px f s c a x ∧ Wk f s x l d
theorem wk_app {f s : Int} {m : List Int} {d : Nat} : ∀ (l : List Int) (c : Nat), Wk f s c (l ++ m) d ↔ ∃ x, Wk f s c l x ∧ Wk f s x m d := by
  intro l
  induction l with
  | nil => intro c; simp [Wk]
  | cons a l ih =>
    intro c
    simp only [List.cons_append, Wk, ih]
    constructor
    · rintro ⟨x, h1, y, h2, h3⟩; exact ⟨y, ⟨x, h1, h2⟩, h3⟩
    · rintro ⟨y, ⟨x, h1, h2⟩, h3⟩; exact ⟨x, h1, y, h2, h3⟩
theorem wk_snoc {f s : Int} {l : List Int} {a : Int} {c d : Nat} : Wk f s c (l ++ [a]) d ↔ ∃ x, Wk f s c l x ∧ Px f s x a d := by
  rw [wk_app]
  simp [Wk]
theorem wk_fun {f s : Int} : ∀ (l : List Int) (c d d' : Nat), Wk f s c l d → Wk f s c l d' → d = d' := by
  intro l
  induction l with
  | nil => intro c d d' h h'; exact h.symm.trans h'
  | cons a l ih =>
    rintro c d d' ⟨x, h1, h2⟩ ⟨y, h3, h4⟩
    obtain rfl := px_fun h1 h3
    exact ih _ _ _ h2 h4
/-! ### The order: shorter first, then by the first difference -/
def Lx : List Int → List Int → Prop
  | a :: l, b :: m => a < b ∨ (a = b ∧ Lx l m)
  | _, _ => False
def SL (l m : List Int) : Prop := l.length < m.length ∨ (l.length = m.length ∧ Lx l m)
def SLe (l m : List Int) : Prop := l = m ∨ SL l m
theorem lx_irrefl : ∀ l, ¬ Lx l l := by
  intro l
  induction l with
  | nil => simp [Lx]
  | cons a l ih => simp [Lx, ih]
theorem lx_trans : ∀ l m n, Lx l m → Lx m n → Lx l n := by
  intro l
  induction l with
  | nil => intro m n h; simp [Lx] at h
  | cons a l ih =>
    intro m n h1 h2
    cases m with
    | nil => simp [Lx] at h1
    | cons b m =>
      cases n with
      | nil => simp [Lx] at h2
      | cons c n =>
        simp only [Lx] at h1 h2 ⊢
        rcases h1 with h1 | ⟨rfl, h1⟩
        · rcases h2 with h2 | ⟨rfl, h2⟩
          · exact .inl (by omega)
          · exact .inl h1
        · rcases h2 with h2 | ⟨rfl, h2⟩
          · exact .inl h2
          · exact .inr ⟨rfl, ih _ _ h1 h2⟩
theorem lx_total : ∀ l m, l.length = m.length → l = m ∨ Lx l m ∨ Lx m l := by
  intro l
  induction l with
  | nil => intro m h; exact .inl (List.eq_nil_of_length_eq_zero h.symm).symm
  | cons a l ih =>
    intro m h
    cases m with
    | nil => simp at h
    | cons b m =>
      simp only [List.length_cons, Nat.add_right_cancel_iff] at h
      simp only [Lx]
      rcases Int.lt_trichotomy a b with c | c | c
      · exact .inr (.inl (.inl c))
      · subst c
        rcases ih m h with e | e | e
        · exact .inl (by rw [e])
        · exact .inr (.inl (.inr ⟨rfl, e⟩))
        · exact .inr (.inr (.inr ⟨rfl, e⟩))
      · exact .inr (.inr (.inl c))
theorem sl_irrefl (l : List Int) : ¬ SL l l := by
  rintro (h | ⟨_, h⟩)
  · omega
  · exact lx_irrefl _ h
theorem sl_trans {l m n : List Int} (h1 : SL l m) (h2 : SL m n) : SL l n := by
  rcases h1 with h1 | ⟨e1, h1⟩
  · rcases h2 with h2 | ⟨e2, h2⟩
    · exact .inl (by omega)
    · exact .inl (by omega)
  · rcases h2 with h2 | ⟨e2, h2⟩
    · exact .inl (by omega)
    · exact .inr ⟨by omega, lx_trans _ _ _ h1 h2⟩
theorem sl_total (l m : List Int) : l = m ∨ SL l m ∨ SL m l := by
  rcases Nat.lt_trichotomy l.length m.length with h | h | h
  · exact .inr (.inl (.inl h))
  · rcases lx_total l m h with e | e | e
    · exact .inl e
    · exact .inr (.inl (.inr ⟨h, e⟩))
    · exact .inr (.inr (.inr ⟨h.symm, e⟩))
  · exact .inr (.inr (.inl h))
theorem sle_lt {l m n : List Int} (h1 : SLe l m) (h2 : SL m n) : SL l n := by
  rcases h1 with rfl | h1
  · exact h2
  · exact sl_trans h1 h2
theorem sle_trans {l m n : List Int} (h1 : SLe l m) (h2 : SLe m n) : SLe l n := by
  rcases h2 with rfl | h2
  · exact h1
  · exact .inr (sle_lt h1 h2)
theorem sle_asymm {l m : List Int} (h1 : SLe l m) (h2 : SLe m l) : l = m := by
  rcases h1 with h1 | h1
  · exact h1
  · exact absurd (sle_lt h2 h1) (sl_irrefl _)
theorem sle_of_not {l m : List Int} (h : ¬ SL m l) : SLe l m := by
  rcases sl_total l m with e | e | e
  · exact .inl e
  · exact .inr e
  · exact absurd e h
theorem lx_snoc {a b : Int} : ∀ l m : List Int, l.length = m.length → (Lx (l ++ [a]) (m ++ [b]) ↔ Lx l m ∨ (l = m ∧ a < b)) := by
  intro l
  induction l with
  | nil =>
    intro m h
    obtain rfl := List.eq_nil_of_length_eq_zero h.symm
    simp [Lx]
  | cons x l ih =>
    intro m h
    cases m with
    | nil => simp at h
    | cons y m =>
      simp only [List.length_cons, Nat.add_right_cancel_iff] at h
      simp only [List.cons_append, Lx, ih m h]
      constructor
      · rintro (h1 | ⟨rfl, h1 | ⟨rfl, h1⟩⟩)
        · exact .inl (.inl h1)
        · exact .inl (.inr ⟨rfl, h1⟩)
        · exact .inr ⟨rfl, h1⟩
      · rintro ((h1 | ⟨rfl, h1⟩) | ⟨e, h1⟩)
        · exact .inl h1
        · exact .inr ⟨rfl, .inl h1⟩
        · injection e with e1 e2
          exact .inr ⟨e1, .inr ⟨e2, h1⟩⟩
theorem sl_snoc {a b : Int} {l m : List Int} : SL (l ++ [a]) (m ++ [b]) ↔ SL l m ∨ (l = m ∧ a < b) := by
  unfold SL
  rw [List.length_append, List.length_append, List.length_singleton, List.length_singleton]
  constructor
  · rintro (h | ⟨h, h2⟩)
    · exact .inl (.inl (by omega))
    · have hl : l.length = m.length := by omega
      rcases (lx_snoc l m hl).1 h2 with h3 | h3
      · exact .inl (.inr ⟨hl, h3⟩)
      · exact .inr h3
  · rintro ((h | ⟨h, h2⟩) | ⟨rfl, h2⟩)
    · exact .inl (by omega)
    · exact .inr ⟨by omega, (lx_snoc l m h).2 (.inl h2)⟩
    · exact .inr ⟨rfl, (lx_snoc l l rfl).2 (.inr ⟨rfl, h2⟩)⟩
theorem sle_snoc {a : Int} {l m : List Int} (h : SLe l m) : SLe (l ++ [a]) (m ++ [a]) := by
  rcases h with rfl | h
  · exact .inl rfl
  · exact .inr (sl_snoc.2 (.inl h))
theorem sl_app (l : List Int) (a : Int) : SL l (l ++ [a]) := .inl (by simp)
/-! ### What both look for -/
def Gl (goal : Int) (c : Nat) : Prop := (ua c : Int) = goal ∨ (vb c : Int) = goal
def Best (f s goal : Int) (l : List Int) : Prop := (∃ d, Wk f s 0 l d ∧ Gl goal d) ∧ ∀ q d, Wk f s 0 q d → Gl goal d → SLe l q
theorem best_fun {f s goal : Int} {l m : List Int} (h : Best f s goal l) (h' : Best f s goal m) : l = m := by
  obtain ⟨⟨d, h1, h2⟩, h3⟩ := h
  obtain ⟨⟨d', h4, h5⟩, h6⟩ := h'
  exact sle_asymm (h3 _ _ h4 h5) (h6 _ _ h1 h2)
def fewIn (f s goal : Int) : Bool := jugsB f s 0 0 && inB goal 0 20
open Classical in
noncomputable def few (f s goal : Int) : List Int := if h : fewIn f s goal = true ∧ ∃ l, Best f s goal l then Classical.choose h.2 else []
open Classical in
noncomputable def fewOk (f s goal : Int) : Bool := decide (fewIn f s goal = true ∧ ∃ l, Best f s goal l)
open Classical in
theorem few_best {f s goal : Int} {l : List Int} (h : fewIn f s goal = true) (hb : Best f s goal l) : few f s goal = l ∧ fewOk f s goal = true := by
  have h2 : fewIn f s goal = true ∧ ∃ l, Best f s goal l := ⟨h, l, hb⟩
  refine ⟨?_, decide_eq_true h2⟩
  unfold few
  rw [dif_pos h2]
  exact best_fun (Classical.choose_spec h2.2) hb
open Classical in
theorem few_none {f s goal : Int} (h : ¬ (fewIn f s goal = true ∧ ∃ l, Best f s goal l)) : few f s goal = [] ∧ fewOk f s goal = false := by
  refine ⟨?_, decide_eq_false h⟩
  unfold few
  rw [dif_neg h]
theorem few_not_in {f s goal : Int} (h : fewIn f s goal = false) : few f s goal = [] ∧ fewOk f s goal = false := few_none (fun h' => by rw [h] at h'; exact absurd h'.1 (by simp))
theorem few_no_way {f s goal : Int} (h : ∀ q d, Wk f s 0 q d → ¬ Gl goal d) : few f s goal = [] ∧ fewOk f s goal = false :=
  few_none (fun ⟨_, l, ⟨d, h1, h2⟩, _⟩ => h l d h1 h2)
/-! ### The search of the program -/
structure Bj (f s goal : Int) (D Q : List (Nat × List Int)) : Prop where
  zero : (0, []) ∈ D ++ Q
  wk : ∀ e ∈ D ++ Q, Wk f s 0 e.2 e.1
  sl : (D ++ Q).Pairwise fun x y => SL x.2 y.2
  dis : (D ++ Q).Pairwise fun x y => x.1 ≠ y.1
  cl : ∀ e ∈ D, ∀ a d, Px f s e.1 a d → ∃ e' ∈ D ++ Q, e'.1 = d ∧ SLe e'.2 (e.2 ++ [a])
  lim : ∀ e ∈ D ++ Q, ∀ h ∈ Q, SL e.2 (h.2 ++ [1])
  no : ∀ e ∈ D, ¬ Gl goal e.1
theorem bj_start (f s goal : Int) : Bj f s goal [] [(0, [])] := by
  refine ⟨by simp, ?_, by simp, by simp, by simp, ?_, by simp⟩
  · intro e he; simp at he; subst he; rfl
  · intro e he h hh; simp at he hh; subst he; subst hh; exact sl_app _ _
theorem Bj.claim {f s goal : Int} {D Q : List (Nat × List Int)} (B : Bj f s goal D Q) : ∀ (n : Nat) (q : List Int) (d : Nat), q.length = n → Wk f s 0 q d → (∃ e ∈ D ++ Q, e.1 = d ∧ SLe e.2 q) ∨ ∃ e ∈ Q, SL e.2 q := by
  intro n
  induction n with
  | zero =>
    intro q d hl hw
    obtain rfl := List.eq_nil_of_length_eq_zero hl
    exact .inl ⟨_, B.zero, hw, .inl rfl⟩
  | succ n ih =>
    intro q d hl hw
    rcases List.eq_nil_or_concat q with rfl | ⟨r, a, rfl⟩
    · simp at hl
    · rw [List.concat_eq_append] at hl hw ⊢
      simp only [List.length_append, List.length_singleton, Nat.add_right_cancel_iff] at hl
      obtain ⟨x, h1, h2⟩ := wk_snoc.1 hw
      rcases ih r x hl h1 with ⟨e, he, rfl, hle⟩ | ⟨e, he, hlt⟩
      · rcases List.mem_append.1 he with hD | hQ
        · obtain ⟨e', h3, h4, h5⟩ := B.cl e hD a d h2
          exact .inl ⟨e', h3, h4, sle_trans h5 (sle_snoc hle)⟩
        · exact .inr ⟨e, hQ, sle_lt hle (sl_app _ _)⟩
      · exact .inr ⟨e, he, sl_trans hlt (sl_app _ _)⟩
theorem Bj.none {f s goal : Int} {D : List (Nat × List Int)} (B : Bj f s goal D []) : few f s goal = [] ∧ fewOk f s goal = false := by
  refine few_no_way fun q d hw hg => ?_
  rcases B.claim _ q d rfl hw with ⟨e, he, rfl, _⟩ | ⟨e, he, _⟩
  · rw [List.append_nil] at he
    exact B.no e he hg
  · simp at he
theorem Bj.found {f s goal : Int} {D Q : List (Nat × List Int)} {p : Nat × List Int} (B : Bj f s goal D (p :: Q)) (h : fewIn f s goal = true) (hg : Gl goal p.1) : few f s goal = p.2 ∧ fewOk f s goal = true := by
  refine few_best h ⟨⟨p.1, B.wk p (by simp), hg⟩, fun q d hw hgd => sle_of_not fun hlt => ?_⟩
  have hmin : ∀ e ∈ p :: Q, SLe p.2 e.2 := fun e he => by
    rcases List.mem_cons.1 he with rfl | he
    · exact .inl rfl
    · have h1 := (List.pairwise_append.1 B.sl).2.1
      exact .inr ((List.pairwise_cons.1 h1).1 e he)
  rcases B.claim _ q d rfl hw with ⟨e, he, rfl, hle⟩ | ⟨e, he, hl2⟩
  · rcases List.mem_append.1 he with hD | hQ
    · exact B.no e hD hgd
    · exact sl_irrefl _ (sle_lt (hmin e hQ) (sle_lt hle hlt))
  · exact sl_irrefl _ (sle_lt (hmin e he) (sl_trans hl2 hlt))
structure Bk (f s goal : Int) (D : List (Nat × List Int)) (p : Nat × List Int) (Q : List (Nat × List Int)) (a : Int) : Prop where
  zero : (0, []) ∈ D ++ p :: Q
  wk : ∀ e ∈ D ++ p :: Q, Wk f s 0 e.2 e.1
  sl : (D ++ p :: Q).Pairwise fun x y => SL x.2 y.2
  dis : (D ++ p :: Q).Pairwise fun x y => x.1 ≠ y.1
  cl : ∀ e ∈ D, ∀ a d, Px f s e.1 a d → ∃ e' ∈ D ++ p :: Q, e'.1 = d ∧ SLe e'.2 (e.2 ++ [a])
  clp : ∀ b d, b < a → Px f s p.1 b d → ∃ e' ∈ D ++ p :: Q, e'.1 = d ∧ SLe e'.2 (p.2 ++ [b])
  lim : ∀ e ∈ D ++ p :: Q, SL e.2 (p.2 ++ [a])
  no : ∀ e ∈ D, ¬ Gl goal e.1
  np : ¬ Gl goal p.1
theorem Bj.pop {f s goal : Int} {D Q : List (Nat × List Int)} {p : Nat × List Int} (B : Bj f s goal D (p :: Q)) (hg : ¬ Gl goal p.1) : Bk f s goal D p Q 1 :=
  ⟨B.zero, B.wk, B.sl, B.dis, B.cl, fun b d hb hp => by have := (px_act hp).1; omega, fun e he => B.lim e he p (by simp), B.no, hg⟩
theorem Bk.skip {f s goal : Int} {D Q : List (Nat × List Int)} {p : Nat × List Int} {a : Int} (B : Bk f s goal D p Q a) (h : ∀ d, Px f s p.1 a d → ∃ e ∈ D ++ p :: Q, e.1 = d) : Bk f s goal D p Q (a + 1) := by
  refine ⟨B.zero, B.wk, B.sl, B.dis, B.cl, fun b d hb hp => ?_, fun e he => sl_trans (B.lim e he) (sl_snoc.2 (.inr ⟨rfl, by omega⟩)), B.no, B.np⟩
  by_cases c : b < a
  · exact B.clp b d c hp
  · obtain rfl : b = a := by omega
    obtain ⟨e, he, h1⟩ := h d hp
    exact ⟨e, he, h1, .inr (B.lim e he)⟩
theorem Bk.add {f s goal : Int} {D Q : List (Nat × List Int)} {p : Nat × List Int} {a : Int} {d : Nat} (B : Bk f s goal D p Q a) (hp : Px f s p.1 a d) (hn : ∀ e ∈ D ++ p :: Q, e.1 ≠ d) : Bk f s goal D p (Q ++ [(d, p.2 ++ [a])]) (a + 1) := by
  have he : D ++ p :: (Q ++ [(d, p.2 ++ [a])]) = (D ++ p :: Q) ++ [(d, p.2 ++ [a])] := by simp
  have hin : ∀ e, e ∈ D ++ p :: Q → e ∈ (D ++ p :: Q) ++ [(d, p.2 ++ [a])] := fun e h => List.mem_append_left _ h
  refine ⟨?_, ?_, ?_, ?_, ?_, ?_, ?_, B.no, B.np⟩
  · rw [he]; exact hin _ B.zero
  · rw [he]
    intro e h
    rcases List.mem_append.1 h with h | h
    · exact B.wk e h
    · rw [List.mem_singleton] at h
      subst h
      exact wk_snoc.2 ⟨p.1, B.wk p (by simp), hp⟩
  · rw [he, List.pairwise_append]
    refine ⟨B.sl, by simp, fun x hx y hy => ?_⟩
    rw [List.mem_singleton] at hy
    subst hy
    exact B.lim x hx
  · rw [he, List.pairwise_append]
    refine ⟨B.dis, by simp, fun x hx y hy => ?_⟩
    rw [List.mem_singleton] at hy
    subst hy
    exact hn x hx
  · rw [he]
    intro e h b d' h'
    obtain ⟨e', h1, h2⟩ := B.cl e h b d' h'
    exact ⟨e', hin _ h1, h2⟩
  · rw [he]
    intro b d' hb h'
    by_cases c : b < a
    · obtain ⟨e', h1, h2⟩ := B.clp b d' c h'
      exact ⟨e', hin _ h1, h2⟩
    · obtain rfl : b = a := by omega
      obtain rfl := px_fun h' hp
      exact ⟨_, List.mem_append_right _ (List.mem_singleton.2 rfl), rfl, .inl rfl⟩
  · rw [he]
    intro e h
    rcases List.mem_append.1 h with h | h
    · exact sl_trans (B.lim e h) (sl_snoc.2 (.inr ⟨rfl, by omega⟩))
    · rw [List.mem_singleton] at h
      subst h
      exact sl_snoc.2 (.inr ⟨rfl, by omega⟩)
theorem Bk.done {f s goal : Int} {D Q : List (Nat × List Int)} {p : Nat × List Int} (B : Bk f s goal D p Q 7) : Bj f s goal (D ++ [p]) Q := by
  have he : (D ++ [p]) ++ Q = D ++ p :: Q := by simp
  refine ⟨?_, ?_, ?_, ?_, ?_, ?_, ?_⟩
  · rw [he]; exact B.zero
  · rw [he]; exact B.wk
  · rw [he]; exact B.sl
  · rw [he]; exact B.dis
  · rw [he]
    intro e h a d hp
    rcases List.mem_append.1 h with h | h
    · exact B.cl e h a d hp
    · rw [List.mem_singleton] at h
      subst h
      exact B.clp a d (by have := (px_act hp).2; omega) hp
  · rw [he]
    intro e h y hy
    have h1 := (List.pairwise_append.1 B.sl).2.1
    have h2 : SL p.2 y.2 := (List.pairwise_cons.1 h1).1 y hy
    exact sl_trans (B.lim e h) (sl_snoc.2 (.inl h2))
  · intro e h
    rcases List.mem_append.1 h with h | h
    · exact B.no e h
    · rw [List.mem_singleton] at h
      subst h
      exact B.np
/-! ### How many are not yet seen -/
def unS (S : List Nat) : Nat → Nat
  | 0 => 0
  | c + 1 => unS S c + if c ∈ S then 0 else 1
theorem unS_le (S : List Nat) : ∀ m, unS S m ≤ m := by
  intro m
  induction m with
  | zero => exact Nat.le_refl _
  | succ m ih => rw [unS]; split <;> omega
theorem unS_add {S : List Nat} {d : Nat} (hd : d ∉ S) : ∀ m, (d < m → 1 ≤ unS S m) ∧ unS (S ++ [d]) m = unS S m - if d < m then 1 else 0 := by
  have hle : ∀ m, d < m → 1 ≤ unS S m := fun m => by
    induction m with
    | zero => intro h; omega
    | succ m ih =>
      intro h
      rw [unS]
      by_cases e : d = m
      · subst e; rw [if_neg hd]; omega
      · have := ih (by omega); omega
  intro m
  refine ⟨hle m, ?_⟩
  induction m with
  | zero => rw [if_neg (by omega)]; rfl
  | succ m ih =>
    rw [unS, unS, ih]
    by_cases e : d = m
    · subst e
      rw [if_neg (Nat.lt_irrefl _), if_pos (by simp), if_neg hd, if_pos (Nat.lt_succ_self _)]; omega
    · have hmd : ¬ m = d := fun h => e h.symm
      have h1 : (if m ∈ S ++ [d] then 0 else 1) = (if m ∈ S then 0 else 1) := by simp [hmd]
      rw [h1]
      generalize (if m ∈ S then 0 else 1) = X
      by_cases c : d < m
      · have := hle m c
        rw [if_pos c, if_pos (show d < m + 1 by omega)]; omega
      · rw [if_neg c, if_neg (show ¬ d < m + 1 by omega)]; omega
end Go.Proofs.Ytgkjckhjmphoaaa
