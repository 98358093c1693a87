/- FnJugs: what can be measured, the plain law. -/
import Derived.Test.YtgkjckhjmphoaaaJgL
import Derived.Test.YtgkjckhjmphoaaaPourA
set_option linter.unusedVariables false
namespace Go.Proofs.Ytgkjckhjmphoaaa
/-! ### One road that meets every amount -/
def nA (f s a b : Nat) : Nat := if a = 0 then f else if b = s then a else a - min a (s - b)
def nB (f s a b : Nat) : Nat := if a = 0 then b else if b = s then 0 else b + min a (s - b)
def nI (s a b : Nat) : Int := if a = 0 then 1 else if b = s then 4 else 5
theorem road_step {f s a b : Nat} (hf : 1 ≤ f ∧ f ≤ 20) (hs : 1 ≤ s ∧ s ≤ 20) (ha : a ≤ f) (hb : b ≤ s) : Px (f : Int) (s : Int) (a * 21 + b) (nI s a b) (nA f s a b * 21 + nB f s a b) ∧ nA f s a b ≤ f ∧ nB f s a b ≤ s := by
  obtain ⟨e1, e2⟩ := jc_of (u := a) (v := b) (by omega)
  have hj : jugsB (f : Int) (s : Int) ((a : Nat) : Int) ((b : Nat) : Int) = true := by
    simp only [jugsB, Bool.and_eq_true]
    exact ⟨⟨⟨inB_true.2 (by omega), inB_true.2 (by omega)⟩, inB_true.2 (by omega)⟩, inB_true.2 (by omega)⟩
  have hA : nA f s a b ≤ f := by unfold nA; split; omega; split <;> omega
  have hB : nB f s a b ≤ s := by unfold nB; split; omega; split <;> omega
  obtain ⟨e3, e4⟩ := jc_of (u := nA f s a b) (v := nB f s a b) (by omega)
  refine ⟨⟨?_, ?_, ?_⟩, hA, hB⟩
  · rw [e1, e2, pOk, hj]
    unfold nI
    by_cases c1 : a = 0
    · rw [if_pos c1]
      have : ¬ (f : Int) = (a : Int) := by omega
      simp [pA, this]
    · rw [if_neg c1]
      by_cases c2 : b = s
      · rw [if_pos c2]
        have : ¬ (0 : Int) = (b : Int) := by omega
        simp [pB, this]
      · rw [if_neg c2]
        have h1 : pA (f : Int) (s : Int) (a : Int) (b : Int) 5 = (a : Int) - min (a : Int) ((s : Int) - (b : Int)) := by simp [pA]
        have : ¬ (a : Int) - min (a : Int) ((s : Int) - (b : Int)) = (a : Int) := by omega
        rw [h1]
        simp [this]
  · rw [e1, e2, e3, rA, if_pos hj]
    unfold nI nA
    by_cases c1 : a = 0
    · rw [if_pos c1, if_pos c1]; simp [pA]
    · rw [if_neg c1, if_neg c1]
      by_cases c2 : b = s
      · rw [if_pos c2, if_pos c2]; simp [pA]
      · rw [if_neg c2, if_neg c2]
        have h1 : pA (f : Int) (s : Int) (a : Int) (b : Int) 5 = (a : Int) - min (a : Int) ((s : Int) - (b : Int)) := by simp [pA]
        rw [h1]; omega
  · rw [e1, e2, e4, rB, if_pos hj]
    unfold nI nB
    by_cases c1 : a = 0
    · rw [if_pos c1, if_pos c1]; simp [pB]
    · rw [if_neg c1, if_neg c1]
      by_cases c2 : b = s
      · rw [if_pos c2, if_pos c2]; simp [pB]
      · rw [if_neg c2, if_neg c2]
        have h1 : pB (f : Int) (s : Int) (a : Int) (b : Int) 5 = (b : Int) + min (a : Int) ((s : Int) - (b : Int)) := by simp [pB]
        rw [h1]; omega
def meets (f s goal : Nat) : Nat → Nat → Nat → Bool
  | 0, a, b => Nat.beq a goal || Nat.beq b goal
  | n + 1, a, b => (Nat.beq a goal || Nat.beq b goal) || meets f s goal n (nA f s a b) (nB f s a b)
theorem meets_wk {f s goal : Nat} (hf : 1 ≤ f ∧ f ≤ 20) (hs : 1 ≤ s ∧ s ≤ 20) : ∀ (n a b : Nat), a ≤ f → b ≤ s → meets f s goal n a b = true → ∃ l d, l.length ≤ n ∧ Wk (f : Int) (s : Int) (a * 21 + b) l d ∧ Gl (goal : Int) d := by
  have now : ∀ a b : Nat, b ≤ 20 → (Nat.beq a goal || Nat.beq b goal) = true → Gl (goal : Int) (a * 21 + b) := fun a b hb h => by
    obtain ⟨e1, e2⟩ := jc_of (u := a) (v := b) hb
    unfold Gl
    rw [e1, e2]
    rcases Bool.or_eq_true_iff.1 h with h | h
    · exact .inl (by rw [Nat.eq_of_beq_eq_true h])
    · exact .inr (by rw [Nat.eq_of_beq_eq_true h])
  intro n
  induction n with
  | zero =>
    intro a b ha hb h
    exact ⟨[], _, Nat.le_refl _, rfl, now a b (by omega) h⟩
  | succ n ih =>
    intro a b ha hb h
    rw [meets] at h
    rcases Bool.or_eq_true_iff.1 h with h | h
    · exact ⟨[], _, Nat.zero_le _, rfl, now a b (by omega) h⟩
    · obtain ⟨hp, h1, h2⟩ := road_step hf hs ha hb
      obtain ⟨l, d, h3, h4, h5⟩ := ih _ _ h1 h2 h
      exact ⟨nI s a b :: l, d, by rw [List.length_cons]; omega, ⟨_, hp, h4⟩, h5⟩
def roadsOk : Bool := (List.range 20).all fun f => (List.range 20).all fun s => (List.range 21).all fun g => !(Nat.beq (g % Nat.gcd (f + 1) (s + 1)) 0 && Nat.ble g (max (f + 1) (s + 1))) || meets (f + 1) (s + 1) g 72 0 0
set_option maxRecDepth 100000 in
theorem roadsOk_true : roadsOk = true := by kernel_rfl
theorem road {f s g : Nat} (hf : 1 ≤ f ∧ f ≤ 20) (hs : 1 ≤ s ∧ s ≤ 20) (hg : g ≤ 20) (h1 : g % Nat.gcd f s = 0) (h2 : g ≤ max f s) : meets f s g 72 0 0 = true := by
  have h := roadsOk_true
  unfold roadsOk at h
  rw [List.all_eq_true] at h
  have h := h (f - 1) (List.mem_range.2 (by omega))
  rw [List.all_eq_true] at h
  have h := h (s - 1) (List.mem_range.2 (by omega))
  rw [List.all_eq_true] at h
  have h := h g (List.mem_range.2 (by omega))
  rw [Nat.sub_add_cancel hf.1, Nat.sub_add_cancel hs.1] at h
  have e1 : Nat.beq (g % Nat.gcd f s) 0 = true := by rw [h1]; rfl
  have e2 : Nat.ble g (max f s) = true := Nat.ble_eq_true_of_le h2
  rw [e1, e2] at h
  simpa using h
/-! ### There is a best way where there is any -/
theorem least_act {P : Int → Prop} : ∀ (n : Nat) (a : Int), P a → (∀ b, P b → 1 ≤ b) → a.toNat ≤ n → ∃ b, P b ∧ ∀ c, c < b → ¬ P c := by
  intro n
  induction n with
  | zero => intro a h h1 hn; have := h1 a h; omega
  | succ n ih =>
    intro a h h1 hn
    by_cases e : ∃ c, c < a ∧ P c
    · obtain ⟨c, hc, hp⟩ := e
      exact ih c hp h1 (by have := h1 c hp; omega)
    · exact ⟨a, h, fun c hc hp => e ⟨c, hc, hp⟩⟩
theorem fg_all {f s goal : Int} {N : Nat} : ∀ (n c : Nat) (l : List Int), FG f s goal N n c l → ∃ c' l', FG f s goal N 0 c' l' := by
  intro n
  induction n with
  | zero => intro c l h; exact ⟨c, l, h⟩
  | succ n ih =>
    intro c l h
    obtain ⟨a, x, hp, hx⟩ := dm_step h.dm
    obtain ⟨b, ⟨y, hy1, hy2⟩, hmin⟩ := least_act (P := fun a => ∃ x, Px f s c a x ∧ Dm f s goal x n) a.toNat a ⟨x, hp, hx⟩ (fun b ⟨x, h, _⟩ => (px_act h).1) (Nat.le_refl _)
    exact ih y (l ++ [b]) (h.step hy1 hy2 (fun b' y' hlt hp' hd' => hmin b' hlt ⟨y', hp', hd'⟩))
theorem few_ex {f s goal : Int} {m : Nat} (hin : fewIn f s goal = true) (h : Rn f s goal 0 m) : fewOk f s goal = true ∧ (few f s goal).length ≤ m ∧ ∃ d, Wk f s 0 (few f s goal) d ∧ Gl goal d := by
  obtain ⟨N, hN, hd⟩ := rn_dm m h
  obtain ⟨c, l, hfg⟩ := fg_all N 0 [] (fg_start hd)
  obtain ⟨h1, h2⟩ := hfg.done hin
  have h3 := hfg.len
  rw [h1]
  exact ⟨h2, by omega, c, hfg.wk, dm_zero.1 hfg.dm⟩
/-! ### What is met along any way -/
theorem dvd_step {e f s : Int} {c d : Nat} {a : Int} (hf : e ∣ f) (hs : e ∣ s) (hp : Px f s c a d) (h1 : e ∣ ((ua c : Nat) : Int)) (h2 : e ∣ ((vb c : Nat) : Int)) : e ∣ ((ua d : Nat) : Int) ∧ e ∣ ((vb d : Nat) : Int) := by
  have hok := (px_ok hp).1
  unfold okJ at hok
  obtain ⟨_, h3, h4⟩ := hp
  rw [h3, h4, rA, rB, if_pos hok, if_pos hok]
  have m1 : e ∣ min ((ua c : Nat) : Int) (s - ((vb c : Nat) : Int)) := by
    rw [Int.min_def]; split
    · exact h1
    · exact Int.dvd_sub hs h2
  have m2 : e ∣ min ((vb c : Nat) : Int) (f - ((ua c : Nat) : Int)) := by
    rw [Int.min_def]; split
    · exact h2
    · exact Int.dvd_sub hf h1
  constructor
  · unfold pA
    repeat' split
    all_goals first | exact hf | exact Int.dvd_zero e | exact Int.dvd_sub h1 m1 | exact Int.dvd_add h1 m2 | exact h1
  · unfold pB
    repeat' split
    all_goals first | exact hs | exact Int.dvd_zero e | exact Int.dvd_add h2 m1 | exact Int.dvd_sub h2 m2 | exact h2
theorem dvd_walk {e f s : Int} (hf : e ∣ f) (hs : e ∣ s) : ∀ (l : List Int) (c d : Nat), e ∣ ((ua c : Nat) : Int) → e ∣ ((vb c : Nat) : Int) → Wk f s c l d → e ∣ ((ua d : Nat) : Int) ∧ e ∣ ((vb d : Nat) : Int) := by
  intro l
  induction l with
  | nil => intro c d h1 h2 e; rw [← show c = d from e]; exact ⟨h1, h2⟩
  | cons a l ih =>
    rintro c d h1 h2 ⟨x, hp, hw⟩
    obtain ⟨h3, h4⟩ := dvd_step hf hs hp h1 h2
    exact ih x d h3 h4 hw
def Edge (f s : Int) (d : Nat) : Prop := ((ua d : Nat) : Int) = 0 ∨ ((ua d : Nat) : Int) = f ∨ ((vb d : Nat) : Int) = 0 ∨ ((vb d : Nat) : Int) = s
theorem edge_step {f s a : Int} {c d : Nat} (hp : Px f s c a d) : Edge f s d := by
  have hok := (px_ok hp).1
  unfold okJ at hok
  have ha := px_act hp
  obtain ⟨b1, b2, b3, b4⟩ := jugsB_bd hok
  obtain ⟨_, h3, h4⟩ := hp
  unfold Edge
  rw [h3, h4, rA, rB, if_pos hok, if_pos hok]
  unfold pA pB
  rcases (show a = 1 ∨ a = 2 ∨ a = 3 ∨ a = 4 ∨ a = 5 ∨ a = 6 by omega) with e | e | e | e | e | e <;> subst e <;> simp <;> omega
theorem wk_edge {f s : Int} {l : List Int} {d : Nat} (h : Wk f s 0 l d) : Edge f s d := by
  rcases List.eq_nil_or_concat l with rfl | ⟨r, a, rfl⟩
  · rw [← show (0 : Nat) = d from h]; exact .inl rfl
  · rw [List.concat_eq_append] at h
    obtain ⟨x, _, hp⟩ := wk_snoc.1 h
    exact edge_step hp
/-! ### Pouring the way again -/
theorem stK_cons {f s a b x : Int} {l : List Int} : ∀ k : Nat, stK f s a b (x :: l) (k + 1) = stK f s (rA f s a b x) (rB f s a b x) l k := by
  intro k
  induction k with
  | zero => simp [stK]
  | succ k ih =>
    rw [stK, ih]
    simp [stK]
theorem wk_pour {f s : Int} : ∀ (l : List Int) (c d : Nat), Wk f s c l d → stK f s ((ua c : Nat) : Int) ((vb c : Nat) : Int) l l.length = (((ua d : Nat) : Int), ((vb d : Nat) : Int)) ∧ ∀ k, k < l.length → stOk f s ((ua c : Nat) : Int) ((vb c : Nat) : Int) l k = true := by
  intro l
  induction l with
  | nil => intro c d e; rw [← show c = d from e]; exact ⟨rfl, fun k hk => by simp at hk⟩
  | cons x l ih =>
    rintro c d ⟨y, hp, hw⟩
    obtain ⟨h1, h2⟩ := ih y d hw
    obtain ⟨p1, p2, p3⟩ := hp
    rw [p2, p3] at h1 h2
    refine ⟨by rw [List.length_cons, stK_cons]; exact h1, fun k hk => ?_⟩
    cases k with
    | zero => unfold stOk; simpa [stK] using p1
    | succ k =>
      have h3 := h2 k (by simpa using hk)
      unfold stOk at h3 ⊢
      rw [stK_cons]
      simpa using h3
/-! ### The law -/
theorem jugs_law {F S G : Nat} (hF : 1 ≤ F ∧ F ≤ 20) (hS : 1 ≤ S ∧ S ≤ 20) (hG : G ≤ 20) :
    (G % Nat.gcd F S = 0 ∧ G ≤ max F S ∧ fewOk (F : Int) (S : Int) (G : Int) = true ∧ ∃ d : Nat, paOk (F : Int) (S : Int) 0 0 (few (F : Int) (S : Int) (G : Int)) = true ∧ paA (F : Int) (S : Int) 0 0 (few (F : Int) (S : Int) (G : Int)) = ((ua d : Nat) : Int) ∧ paB (F : Int) (S : Int) 0 0 (few (F : Int) (S : Int) (G : Int)) = ((vb d : Nat) : Int) ∧ Gl (G : Int) d ∧ okJ (F : Int) (S : Int) d ∧ Edge (F : Int) (S : Int) d) ∨
    (¬ (G % Nat.gcd F S = 0 ∧ G ≤ max F S) ∧ fewOk (F : Int) (S : Int) (G : Int) = false ∧ few (F : Int) (S : Int) (G : Int) = []) := by
  have hj : jugsB (F : Int) (S : Int) 0 0 = true := by
    simp only [jugsB, Bool.and_eq_true]
    exact ⟨⟨⟨inB_true.2 (by omega), inB_true.2 (by omega)⟩, inB_true.2 (by omega)⟩, inB_true.2 (by omega)⟩
  have hin : fewIn (F : Int) (S : Int) (G : Int) = true := by
    unfold fewIn
    rw [hj, inB_true.2 (by omega)]; rfl
  have ho : okJ (F : Int) (S : Int) 0 := hj
  by_cases h : G % Nat.gcd F S = 0 ∧ G ≤ max F S
  · refine .inl ⟨h.1, h.2, ?_⟩
    obtain ⟨l, d, h1, h2, h3⟩ := meets_wk hF hS 72 0 0 (Nat.zero_le _) (Nat.zero_le _) (road hF hS hG h.1 h.2)
    obtain ⟨h4, h5, d', h6, h7⟩ := few_ex hin ⟨l, d, rfl, h2, h3⟩
    obtain ⟨h8, h9⟩ := wk_pour _ _ _ h6
    have hok : paOk (F : Int) (S : Int) 0 0 (few (F : Int) (S : Int) (G : Int)) = true := paOk_all rfl hj (by omega) h9
    refine ⟨h4, d', hok, ?_, ?_, h7, ?_, wk_edge h6⟩
    · rw [paA, if_pos hok]; exact congrArg Prod.fst h8
    · rw [paB, if_pos hok]; exact congrArg Prod.snd h8
    · have key : ∀ (l : List Int) (c d : Nat), okJ (F : Int) (S : Int) c → Wk (F : Int) (S : Int) c l d → okJ (F : Int) (S : Int) d := by
        intro l
        induction l with
        | nil => intro c d h e; rw [← show c = d from e]; exact h
        | cons a l ih => rintro c d _ ⟨x, hp, hw⟩; exact ih x d (px_ok hp).2 hw
      exact key _ _ _ ho h6
  · refine .inr ⟨h, (few_no_way ?_).2, (few_no_way ?_).1⟩
    all_goals
      intro q d hw hg
      refine h ?_
      obtain ⟨k1, k2⟩ := dvd_walk (e := ((Nat.gcd F S : Nat) : Int)) (Int.natCast_dvd_natCast.2 (Nat.gcd_dvd_left F S)) (Int.natCast_dvd_natCast.2 (Nat.gcd_dvd_right F S)) q 0 d (Int.dvd_zero _) (Int.dvd_zero _) hw
      have key : ∀ (l : List Int) (c d : Nat), okJ (F : Int) (S : Int) c → Wk (F : Int) (S : Int) c l d → okJ (F : Int) (S : Int) d := by
        intro l
        induction l with
        | nil => intro c d h e; rw [← show c = d from e]; exact h
        | cons a l ih => rintro c d _ ⟨x, hp, hw⟩; exact ih x d (px_ok hp).2 hw
      have hod := okJ_lt (key _ _ _ ho hw)
      rcases hg with hg | hg
      · rw [hg] at k1
        exact ⟨Nat.mod_eq_zero_of_dvd (Int.natCast_dvd_natCast.1 k1), by omega⟩
      · rw [hg] at k2
        exact ⟨Nat.mod_eq_zero_of_dvd (Int.natCast_dvd_natCast.1 k2), by omega⟩
end Go.Proofs.Ytgkjckhjmphoaaa
