/- FewestPours: the reference's table of distances, the plain law. -/
import Derived.Test.YtgkjckhjmphoaaaJgP
set_option linter.unusedVariables false
namespace Go.Proofs.Ytgkjckhjmphoaaa
def Rn (f s goal : Int) (c n : Nat) : Prop := ∃ q d, q.length = n ∧ Wk f s c q d ∧ Gl goal d
def Dm (f s goal : Int) (c n : Nat) : Prop := Rn f s goal c n ∧ ∀ m, m < n → ¬ Rn f s goal c m
section
variable {f s goal : Int}
theorem dm_fun {c n m : Nat} (h : Dm f s goal c n) (h' : Dm f s goal c m) : n = m := by
  rcases Nat.lt_trichotomy n m with e | e | e
  · exact absurd h.1 (h'.2 n e)
  · exact e
  · exact absurd h'.1 (h.2 m e)
theorem rn_dm : ∀ (n : Nat) {c : Nat}, Rn f s goal c n → ∃ k, k ≤ n ∧ Dm f s goal c k := by
  intro n
  induction n using Nat.strongRecOn with
  | ind n ih =>
    intro c h
    by_cases e : ∃ m, m < n ∧ Rn f s goal c m
    · obtain ⟨m, hm, hr⟩ := e
      obtain ⟨k, hk, hd⟩ := ih m hm hr
      exact ⟨k, by omega, hd⟩
    · exact ⟨n, Nat.le_refl _, h, fun m hm hr => e ⟨m, hm, hr⟩⟩
theorem rn_zero {c : Nat} : Rn f s goal c 0 ↔ Gl goal c := by
  constructor
  · rintro ⟨q, d, hl, hw, hg⟩
    obtain rfl := List.eq_nil_of_length_eq_zero hl
    obtain rfl : c = d := hw
    exact hg
  · intro h
    exact ⟨[], c, rfl, rfl, h⟩
theorem rn_succ {c n : Nat} : Rn f s goal c (n + 1) ↔ ∃ a x, Px f s c a x ∧ Rn f s goal x n := by
  constructor
  · rintro ⟨q, d, hl, hw, hg⟩
    cases q with
    | nil => simp at hl
    | cons a q =>
      obtain ⟨x, h1, h2⟩ := hw
      exact ⟨a, x, h1, q, d, by simpa using hl, h2, hg⟩
  · rintro ⟨a, x, h1, q, d, hl, hw, hg⟩
    exact ⟨a :: q, d, by simp [hl], ⟨x, h1, hw⟩, hg⟩
theorem dm_zero {c : Nat} : Dm f s goal c 0 ↔ Gl goal c := ⟨fun h => rn_zero.1 h.1, fun h => ⟨rn_zero.2 h, fun m hm => by omega⟩⟩
theorem dm_step {c n : Nat} (h : Dm f s goal c (n + 1)) : ∃ a x, Px f s c a x ∧ Dm f s goal x n := by
  obtain ⟨a, x, h1, h2⟩ := rn_succ.1 h.1
  exact ⟨a, x, h1, h2, fun m hm hr => h.2 (m + 1) (by omega) (rn_succ.2 ⟨a, x, h1, hr⟩)⟩
theorem dm_succ {c x n : Nat} {a : Int} (hp : Px f s c a x) (h : Dm f s goal x n) (hno : ∀ k, k ≤ n → ¬ Dm f s goal c k) : Dm f s goal c (n + 1) := by
  refine ⟨rn_succ.2 ⟨a, x, hp, h.1⟩, fun m hm hr => ?_⟩
  obtain ⟨k, hk, hd⟩ := rn_dm m hr
  exact hno k (by omega) hd
end
/-- An entry of the table at level n. -/
def Lv (f s goal : Int) (n c : Nat) (x : Int) : Prop := (x = -1 ∧ ∀ k, k ≤ n → ¬ (okJ f s c ∧ Dm f s goal c k)) ∨ ∃ k : Nat, k ≤ n ∧ okJ f s c ∧ Dm f s goal c k ∧ x = (k : Int)
section
variable {f s goal : Int} {n p : Nat} {t : List Int}
theorem Lv.bd {c : Nat} {x : Int} (h : Lv f s goal n c x) : -1 ≤ x ∧ x ≤ (n : Int) := by
  rcases h with ⟨rfl, _⟩ | ⟨k, hk, _, _, rfl⟩ <;> omega
theorem Lv.bad {c : Nat} {x : Int} (h : Lv f s goal n c x) (hb : ¬ okJ f s c) (m : Nat) : Lv f s goal m c x := by
  rcases h with ⟨rfl, _⟩ | ⟨k, _, h, _⟩
  · exact .inl ⟨rfl, fun k _ h => hb h.1⟩
  · exact absurd h hb
structure TQ (f s goal : Int) (n p : Nat) (t : List Int) : Prop where
  len : t.length = 441
  lo : ∀ c, c < p → c < 441 → Lv f s goal (n + 1) c (t.getD c 0)
  hi : ∀ c, p ≤ c → c < 441 → Lv f s goal n c (t.getD c 0)
theorem TQ.skipTo {p' : Nat} (h : TQ f s goal n p t) (hp : p ≤ p') (hb : ∀ c, p ≤ c → c < p' → ¬ okJ f s c) : TQ f s goal n p' t :=
  ⟨h.len, fun c h1 h2 => by
    by_cases e : c < p
    · exact h.lo c e h2
    · exact (h.hi c (by omega) h2).bad (hb c (by omega) h1) _, fun c h1 h2 => h.hi c (by omega) h2⟩
theorem TQ.next (h : TQ f s goal n 441 t) : TQ f s goal (n + 1) 0 t := ⟨h.len, fun c h1 => by omega, fun c _ h2 => h.lo c h2 h2⟩
theorem TQ.bd {c : Nat} (h : TQ f s goal n p t) (hc : c < 441) : -1 ≤ t.getD c 0 ∧ t.getD c 0 ≤ (n : Int) + 1 := by
  by_cases e : c < p
  · have := (h.lo c e hc).bd; omega
  · have := (h.hi c (by omega) hc).bd; omega
/-- The whole table. -/
def TF (f s goal : Int) (t : List Int) : Prop := t.length = 441 ∧ ∀ c, c < 441 → (t.getD c 0 = -1 ∧ ∀ k, ¬ (okJ f s c ∧ Dm f s goal c k)) ∨ ∃ k : Nat, k ≤ 441 ∧ okJ f s c ∧ Dm f s goal c k ∧ t.getD c 0 = (k : Int)
theorem TQ.final (h0 : TQ f s goal n 0 t) (h1 : TQ f s goal n 441 t) (hn : n ≤ 441) : TF f s goal t := by
  have hno : ∀ c, c < 441 → ¬ (okJ f s c ∧ Dm f s goal c (n + 1)) := by
    rintro c hc ⟨ho, hd⟩
    rcases h0.hi c (Nat.zero_le _) hc with ⟨e, _⟩ | ⟨k, hk, _, hdk, _⟩
    · rcases h1.lo c hc hc with ⟨_, h⟩ | ⟨k, _, _, _, e2⟩
      · exact h (n + 1) (Nat.le_refl _) ⟨ho, hd⟩
      · omega
    · have := dm_fun hdk hd; omega
  have hall : ∀ m c, okJ f s c → ¬ Dm f s goal c (n + 1 + m) := by
    intro m
    induction m with
    | zero => intro c ho hd; exact hno c (okJ_lt ho).1 ⟨ho, hd⟩
    | succ m ih =>
      intro c ho hd
      obtain ⟨a, x, hp, hx⟩ := dm_step (n := n + 1 + m) hd
      exact ih x (px_ok hp).2 hx
  refine ⟨h0.len, fun c hc => ?_⟩
  rcases h0.hi c (Nat.zero_le _) hc with ⟨e, h⟩ | ⟨k, hk, h2, h3, h4⟩
  · refine .inl ⟨e, fun k hk => ?_⟩
    by_cases hkn : k ≤ n
    · exact h k hkn hk
    · obtain ⟨m, rfl⟩ : ∃ m, k = n + 1 + m := ⟨k - (n + 1), by omega⟩
      exact hall m c hk.1 hk.2
  · exact .inr ⟨k, by omega, h2, h3, h4⟩
theorem TF.bd {c : Nat} (h : TF f s goal t) (hc : c < 441) : -1 ≤ t.getD c 0 ∧ t.getD c 0 ≤ 441 := by
  rcases h.2 c hc with ⟨e, _⟩ | ⟨k, hk, _, _, e⟩ <;> omega
theorem TF.val {c k : Nat} (h : TF f s goal t) (ho : okJ f s c) : t.getD c 0 = (k : Int) ↔ Dm f s goal c k := by
  rcases h.2 c (okJ_lt ho).1 with ⟨e, h2⟩ | ⟨m, _, _, h2, e⟩
  · exact ⟨fun e2 => by omega, fun hd => absurd ⟨ho, hd⟩ (h2 k)⟩
  · constructor
    · intro e2
      have : m = k := by omega
      rw [← this]; exact h2
    · intro hd
      rw [e, dm_fun h2 hd]
/-- The entry p under way: the next pour to try is a. -/
structure TA (f s goal : Int) (n p : Nat) (a : Int) (t : List Int) : Prop where
  len : t.length = 441
  lo : ∀ c, c < p → c < 441 → Lv f s goal (n + 1) c (t.getD c 0)
  hi : ∀ c, p < c → c < 441 → Lv f s goal n c (t.getD c 0)
  cur : (0 ≤ t.getD p 0 ∧ Lv f s goal (n + 1) p (t.getD p 0)) ∨ (t.getD p 0 = -1 ∧ (∀ k, k ≤ n → ¬ Dm f s goal p k) ∧ ∀ b x, b < a → Px f s p b x → ¬ Dm f s goal x n)
theorem TA.start (h : TQ f s goal n p t) (ho : okJ f s p) : TA f s goal n p 1 t := by
  refine ⟨h.len, h.lo, fun c h1 h2 => h.hi c (by omega) h2, ?_⟩
  rcases h.hi p (Nat.le_refl _) (okJ_lt ho).1 with ⟨e, h2⟩ | ⟨k, hk, h2, h3, e⟩
  · exact .inr ⟨e, fun k hk hd => h2 k hk ⟨ho, hd⟩, fun b x hb hp => by have := (px_act hp).1; omega⟩
  · exact .inl ⟨by omega, .inr ⟨k, by omega, h2, h3, e⟩⟩
theorem TA.bd {c : Nat} {a : Int} (h : TA f s goal n p a t) (hc : c < 441) : -1 ≤ t.getD c 0 ∧ t.getD c 0 ≤ (n : Int) + 1 := by
  rcases Nat.lt_trichotomy c p with e | e | e
  · have := (h.lo c e hc).bd; omega
  · subst e
    rcases h.cur with ⟨_, h1⟩ | ⟨h1, _⟩
    · have := h1.bd; omega
    · omega
  · have := (h.hi c e hc).bd; omega
theorem TA.val {a : Int} {x : Nat} (h : TA f s goal n p a t) (h0 : t.getD p 0 < 0) (ho : okJ f s x) : t.getD x 0 = (n : Int) ↔ Dm f s goal x n := by
  have hx := (okJ_lt ho).1
  have key : ∀ m, n ≤ m → Lv f s goal m x (t.getD x 0) → (t.getD x 0 = (n : Int) ↔ Dm f s goal x n) := by
    intro m hm hl
    rcases hl with ⟨e, h2⟩ | ⟨k, hk, h2, h3, e⟩
    · exact ⟨fun e2 => by omega, fun hd => absurd ⟨ho, hd⟩ (h2 n hm)⟩
    · constructor
      · intro e2
        have : k = n := by omega
        rw [← this]; exact h3
      · intro hd
        rw [e, dm_fun h3 hd]
  rcases Nat.lt_trichotomy x p with e | e | e
  · exact key _ (by omega) (h.lo x e hx)
  · subst e
    rcases h.cur with ⟨h1, _⟩ | ⟨h1, h2, _⟩
    · omega
    · exact ⟨fun e2 => by omega, fun hd => absurd hd (h2 n (Nat.le_refl _))⟩
  · exact key _ (Nat.le_refl _) (h.hi x e hx)
theorem TA.skip {a : Int} (h : TA f s goal n p a t) (hb : ∀ x, Px f s p a x → ¬ Dm f s goal x n) : TA f s goal n p (a + 1) t := by
  refine ⟨h.len, h.lo, h.hi, ?_⟩
  rcases h.cur with h1 | ⟨h1, h2, h3⟩
  · exact .inl h1
  · refine .inr ⟨h1, h2, fun b x hlt hp => ?_⟩
    by_cases e : b < a
    · exact h3 b x e hp
    · obtain rfl : b = a := by omega
      exact hb x hp
theorem getD_set_self {l : List Int} {k : Nat} (h : k < l.length) (v : Int) : (l.set k v).getD k 0 = v := by
  rw [List.getD_eq_getElem?_getD, List.getElem?_set_self h]; rfl
theorem getD_set_ne {l : List Int} {k c : Nat} (h : c ≠ k) (v : Int) : (l.set k v).getD c 0 = l.getD c 0 := by
  rw [List.getD_eq_getElem?_getD, List.getElem?_set_ne (Ne.symm h), ← List.getD_eq_getElem?_getD]
theorem TA.set {a b : Int} {x : Nat} (h : TA f s goal n p a t) (ho : okJ f s p) (h0 : t.getD p 0 < 0) (hp : Px f s p a x) (hd : Dm f s goal x n) : TA f s goal n p b (t.set p ((n : Int) + 1)) := by
  have hlt : p < t.length := by rw [h.len]; exact (okJ_lt ho).1
  refine ⟨by rw [List.length_set]; exact h.len, fun c h1 h2 => ?_, fun c h1 h2 => ?_, ?_⟩
  · rw [getD_set_ne (by omega)]; exact h.lo c h1 h2
  · rw [getD_set_ne (by omega)]; exact h.hi c h1 h2
  · rw [getD_set_self hlt]
    rcases h.cur with ⟨h1, _⟩ | ⟨_, h2, _⟩
    · omega
    · exact .inl ⟨by omega, .inr ⟨n + 1, Nat.le_refl _, ho, dm_succ hp hd h2, by omega⟩⟩
theorem TA.done {a : Int} (h : TA f s goal n p a t) (ho : okJ f s p) (hc : 0 ≤ t.getD p 0 ∨ 7 ≤ a) : TQ f s goal n (p + 1) t := by
  refine ⟨h.len, fun c h1 h2 => ?_, fun c h1 h2 => h.hi c (by omega) h2⟩
  by_cases e : c < p
  · exact h.lo c e h2
  · obtain rfl : c = p := by omega
    rcases h.cur with ⟨_, h3⟩ | ⟨h3, h4, h5⟩
    · exact h3
    · refine .inl ⟨h3, fun k hk hkd => ?_⟩
      by_cases e2 : k ≤ n
      · exact h4 k e2 hkd.2
      · obtain rfl : k = n + 1 := by omega
        obtain ⟨b, x, hp, hx⟩ := dm_step hkd.2
        exact h5 b x (by have := (px_act hp).2; omega) hp hx
/-- How many entries are not yet known. -/
def ngs (t : List Int) : Nat := t.countP fun x => decide (x < 0)
theorem ngs_set : ∀ (t : List Int) (p : Nat) (v : Int), p < t.length → t.getD p 0 < 0 → 0 ≤ v → ngs (t.set p v) + 1 = ngs t := by
  intro t
  induction t with
  | nil => intro p v h; simp at h
  | cons x t ih =>
    intro p v hp h0 hv
    unfold ngs at ih ⊢
    cases p with
    | zero =>
      rw [List.set_cons_zero, List.countP_cons, List.countP_cons]
      simp only [List.getD_cons_zero] at h0
      simp [h0, Int.not_lt.2 hv]
    | succ p =>
      rw [List.set_cons_succ, List.countP_cons, List.countP_cons]
      have := ih p v (by simpa using hp) (by simpa using h0) hv
      omega
theorem ngs_le (t : List Int) : ngs t ≤ t.length := List.countP_le_length
/-- The table's beginning. -/
structure TZ (f s goal : Int) (p : Nat) (t : List Int) : Prop where
  len : t.length = 441
  lo : ∀ c, c < p → c < 441 → Lv f s goal 0 c (t.getD c 0)
  hi : ∀ c, p ≤ c → c < 441 → t.getD c 0 = -1
theorem tz_start : TZ f s goal 0 (List.replicate 441 (-1)) := by
  refine ⟨List.length_replicate, fun c h => by omega, fun c _ h => ?_⟩
  rw [List.getD_eq_getElem?_getD, List.getElem?_replicate, if_pos h]; rfl
theorem TZ.skipTo {p' : Nat} (h : TZ f s goal p t) (hp : p ≤ p') (hb : ∀ c, p ≤ c → c < p' → ¬ okJ f s c) : TZ f s goal p' t :=
  ⟨h.len, fun c h1 h2 => by
    by_cases e : c < p
    · exact h.lo c e h2
    · exact .inl ⟨h.hi c (by omega) h2, fun k _ hk => hb c (by omega) h1 hk.1⟩, fun c h1 h2 => h.hi c (by omega) h2⟩
theorem TZ.keep (h : TZ f s goal p t) (hg : ¬ Gl goal p) : TZ f s goal (p + 1) t :=
  ⟨h.len, fun c h1 h2 => by
    by_cases e : c < p
    · exact h.lo c e h2
    · obtain rfl : c = p := by omega
      exact .inl ⟨h.hi c (Nat.le_refl _) h2, fun k hk hd => by
        obtain rfl : k = 0 := by omega
        exact hg (dm_zero.1 hd.2)⟩, fun c h1 h2 => h.hi c (by omega) h2⟩
theorem TZ.set (h : TZ f s goal p t) (ho : okJ f s p) (hg : Gl goal p) : TZ f s goal (p + 1) (t.set p 0) := by
  have hlt : p < t.length := by rw [h.len]; exact (okJ_lt ho).1
  refine ⟨by rw [List.length_set]; exact h.len, fun c h1 h2 => ?_, fun c h1 h2 => by rw [getD_set_ne (by omega)]; exact h.hi c (by omega) h2⟩
  by_cases e : c < p
  · rw [getD_set_ne (by omega)]; exact h.lo c e h2
  · obtain rfl : c = p := by omega
    rw [getD_set_self hlt]
    exact .inr ⟨0, Nat.le_refl _, ho, dm_zero.2 hg, rfl⟩
theorem TZ.done (h : TZ f s goal 441 t) : TQ f s goal 0 0 t := ⟨h.len, fun c h1 => by omega, fun c _ h2 => h.lo c h2 h2⟩
theorem bad_row {c : Nat} {a : Nat} (h1 : a * 21 + (s.toNat + 1) ≤ c) (h2 : c < (a + 1) * 21) (hs : 0 ≤ s) : ¬ okJ f s c := by
  intro h
  have := (okJ_lt h).2.2.2
  have hc : vb c = c - a * 21 := by unfold vb; omega
  omega
theorem bad_end {c : Nat} (h1 : (f.toNat + 1) * 21 ≤ c) (hf : 0 ≤ f) : ¬ okJ f s c := by
  intro h
  have := (okJ_lt h).2.2.1
  have hc : f.toNat + 1 ≤ ua c := by unfold ua; omega
  omega
/-! ### The way down -/
structure FG (f s goal : Int) (N n c : Nat) (l : List Int) : Prop where
  wk : Wk f s 0 l c
  dm : Dm f s goal c n
  len : l.length + n = N
  all : ∀ q d, Wk f s 0 q d → Gl goal d → N ≤ q.length
  lex : ∀ q d, Wk f s 0 q d → Gl goal d → q.length = N → ∃ q1 q2, q = q1 ++ q2 ∧ q1.length = l.length ∧ (q1 = l ∨ Lx l q1)
theorem fg_start {N : Nat} (h : Dm f s goal 0 N) : FG f s goal N N 0 [] :=
  ⟨rfl, h, by simp, fun q d hw hg => by
    by_cases e : N ≤ q.length
    · exact e
    · exact absurd ⟨q, d, rfl, hw, hg⟩ (h.2 q.length (by omega)), fun q d _ _ _ => ⟨[], q, rfl, rfl, .inl rfl⟩⟩
theorem FG.step {N c x : Nat} {a : Int} {l : List Int} (h : FG f s goal N (n + 1) c l) (hp : Px f s c a x) (hx : Dm f s goal x n) (hmin : ∀ b y, b < a → Px f s c b y → ¬ Dm f s goal y n) : FG f s goal N n x (l ++ [a]) := by
  refine ⟨wk_snoc.2 ⟨c, h.wk, hp⟩, hx, by have := h.len; simp; omega, h.all, fun q d hw hg hl => ?_⟩
  obtain ⟨q1, q2, rfl, h1, h2⟩ := h.lex q d hw hg hl
  have hlen := h.len
  rw [List.length_append] at hl
  cases q2 with
  | nil => simp at hl; omega
  | cons b q3 =>
    refine ⟨q1 ++ [b], q3, by simp, by simp [h1], ?_⟩
    rcases h2 with rfl | h2
    · obtain ⟨y, hy1, hy2⟩ := (wk_app q1 0).1 hw
      obtain rfl := wk_fun _ _ _ _ hy1 h.wk
      obtain ⟨z, hz1, hz2⟩ := hy2
      have hzn : Rn f s goal z n := ⟨q3, d, by simp at hl; omega, hz2, hg⟩
      have hzd : Dm f s goal z n := ⟨hzn, fun m hm hr => h.dm.2 (m + 1) (by omega) (rn_succ.2 ⟨b, z, hz1, hr⟩)⟩
      have hba : ¬ b < a := fun hlt => hmin b z hlt hz1 hzd
      by_cases e : b = a
      · subst e; exact .inl rfl
      · exact .inr ((lx_snoc q1 q1 rfl).2 (.inr ⟨rfl, by omega⟩))
    · exact .inr ((lx_snoc l q1 h1.symm).2 (.inl h2))
theorem FG.done {N c : Nat} {l : List Int} (h : FG f s goal N 0 c l) (hin : fewIn f s goal = true) : few f s goal = l ∧ fewOk f s goal = true := by
  refine few_best hin ⟨⟨c, h.wk, dm_zero.1 h.dm⟩, fun q d hw hg => ?_⟩
  have h1 := h.all q d hw hg
  have h2 := h.len
  by_cases e : q.length = N
  · obtain ⟨q1, q2, rfl, h3, h4⟩ := h.lex q d hw hg e
    have : q2 = [] := List.eq_nil_of_length_eq_zero (by rw [List.length_append] at e; omega)
    subst this
    rw [List.append_nil] at *
    rcases h4 with h4 | h4
    · exact .inl h4.symm
    · exact .inr (.inr ⟨h3.symm, h4⟩)
  · exact .inr (.inl (by omega))
theorem TF.none (h : TF f s goal t) (ho : okJ f s 0) (h0 : t.getD 0 0 < 0) : few f s goal = [] ∧ fewOk f s goal = false := by
  refine few_no_way fun q d hw hg => ?_
  obtain ⟨k, _, hd⟩ := rn_dm _ ⟨q, d, rfl, hw, hg⟩
  have := (h.val (k := k) ho).2 hd
  omega
end
end Go.Proofs.Ytgkjckhjmphoaaa
