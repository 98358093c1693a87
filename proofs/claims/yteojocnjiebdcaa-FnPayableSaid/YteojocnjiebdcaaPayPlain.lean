/- Plain laws on payable amounts: beyond 400 every amount is payable, if the coins have no common divisor. No program in sight but for the words of the contracts. -/
import Derived.Test.YteojocnjiebdcaaPayLast
set_option linter.unusedVariables false
namespace Go.Proofs.Yteojocnjiebdcaa

def py (xs : List Int) (j : Nat) : Bool := (payT xs j).getD j false
theorem payT_getD (xs : List Int) (n j : Nat) (h : j ≤ n) : (payT xs n).getD j false = py xs j := by
  induction n with
  | zero => obtain rfl : j = 0 := by omega
            rfl
  | succ n ih =>
    rcases Nat.lt_or_ge n j with h1 | h1
    · obtain rfl : j = n + 1 := by omega
      rfl
    · rw [payT, List.getD_eq_getElem?_getD, List.getElem?_append_left (by rw [payT_length]; omega), ← List.getD_eq_getElem?_getD]
      exact ih h1
theorem py_zero (xs : List Int) : py xs 0 = true := rfl
theorem py_succ (xs : List Int) (n : Nat) : py xs (n + 1) = pyRow xs (payT xs n) := by
  unfold py
  rw [payT, List.getD_eq_getElem?_getD, List.getElem?_append_right (by rw [payT_length]; omega), payT_length, Nat.sub_self]
  rfl
/-- An amount is payable just if it is nought or some coin leaves a payable one. -/
theorem py_iff {xs : List Int} (hp : allB 2 20 xs = true) (n : Nat) : py xs (n + 1) = true ↔ ∃ c ∈ xs, c ≤ ((n + 1 : Nat) : Int) ∧ py xs (n + 1 - c.toNat) = true := by
  have hmem : ∀ c ∈ xs, 2 ≤ c ∧ c ≤ 20 := by
    intro c hc
    obtain ⟨j, hj, rfl⟩ := List.mem_iff_getElem.1 hc
    have := allB_iff.1 hp j hj
    rwa [← getD_of hj] at this
  rw [py_succ, pyRow, List.any_eq_true]
  constructor
  · rintro ⟨c, hc, h⟩
    simp only [payT_length, Bool.and_eq_true, decide_eq_true_eq] at h
    have := hmem c hc
    rw [payT_getD _ _ _ (by omega)] at h
    exact ⟨c, hc, h⟩
  · rintro ⟨c, hc, h1, h2⟩
    have := hmem c hc
    refine ⟨c, hc, ?_⟩
    simp only [payT_length, Bool.and_eq_true, decide_eq_true_eq]
    rw [payT_getD _ _ _ (by omega)]
    exact ⟨h1, h2⟩
theorem mem_bd {xs : List Int} (hp : allB 2 20 xs = true) {c : Int} (hc : c ∈ xs) : 2 ≤ c ∧ c ≤ 20 := by
  obtain ⟨j, hj, rfl⟩ := List.mem_iff_getElem.1 hc
  have := allB_iff.1 hp j hj
  rwa [← getD_of hj] at this
theorem py_add {xs : List Int} (hp : allB 2 20 xs = true) {c : Int} (hc : c ∈ xs) {j : Nat} (h : py xs j = true) : py xs (j + c.toNat) = true := by
  have := mem_bd hp hc
  obtain ⟨m, hm⟩ : ∃ m, j + c.toNat = m + 1 := ⟨j + c.toNat - 1, by omega⟩
  rw [hm]
  refine (py_iff hp m).2 ⟨c, hc, by omega, ?_⟩
  rw [show m + 1 - c.toNat = j by omega]
  exact h
theorem py_mul {xs : List Int} (hp : allB 2 20 xs = true) {c : Int} (hc : c ∈ xs) (i : Nat) {j : Nat} (h : py xs j = true) : py xs (j + i * c.toNat) = true := by
  induction i with
  | zero => simpa using h
  | succ i ih =>
    rw [show j + (i + 1) * c.toNat = (j + i * c.toNat) + c.toNat by rw [Nat.succ_mul]; omega]
    exact py_add hp hc ih

/-- A mask of amounts, closed under a coin by doubling. -/
def bm1 (m c : Nat) : Nat := m ||| (m <<< c)
def bmC (m c : Nat) : Nat := bm1 (bm1 (bm1 (bm1 (bm1 (bm1 (bm1 (bm1 m c) (2 * c)) (4 * c)) (8 * c)) (16 * c)) (32 * c)) (64 * c)) (128 * c)
def bm (l : List Nat) : Nat := l.foldl bmC 1
def good (l : List Nat) : Bool := (bm l >>> 381) % 1048576 == 1048575
def Sound (xs : List Int) (m : Nat) : Prop := ∀ j, m.testBit j = true → py xs j = true
theorem sound_bm1 {xs : List Int} (hp : allB 2 20 xs = true) {c : Nat} (hc : (c : Int) ∈ xs) (i : Nat) {m : Nat} (h : Sound xs m) : Sound xs (bm1 m (i * c)) := by
  intro j hj
  rw [bm1, Nat.testBit_or, Bool.or_eq_true] at hj
  rcases hj with hj | hj
  · exact h j hj
  · rw [Nat.testBit_shiftLeft, Bool.and_eq_true, decide_eq_true_eq] at hj
    have := py_mul hp hc i (h _ hj.2)
    simp only [Int.toNat_natCast] at this
    rwa [show j - i * c + i * c = j by omega] at this
theorem sound_bmC {xs : List Int} (hp : allB 2 20 xs = true) {c : Nat} (hc : (c : Int) ∈ xs) {m : Nat} (h : Sound xs m) : Sound xs (bmC m c) := by
  have h1 : Sound xs (bm1 m c) := by have := sound_bm1 hp hc 1 h; rwa [Nat.one_mul] at this
  exact sound_bm1 hp hc 128 (sound_bm1 hp hc 64 (sound_bm1 hp hc 32 (sound_bm1 hp hc 16 (sound_bm1 hp hc 8 (sound_bm1 hp hc 4 (sound_bm1 hp hc 2 h1))))))
theorem sound_one (xs : List Int) : Sound xs 1 := by
  intro j hj
  rcases Nat.eq_zero_or_pos j with h | h
  · subst h; rfl
  · rw [Nat.testBit_one_eq_true_iff_self_eq_zero] at hj
    omega
theorem sound_bm {xs : List Int} (hp : allB 2 20 xs = true) (l : List Nat) (hl : ∀ c ∈ l, (c : Int) ∈ xs) : Sound xs (bm l) := by
  have : ∀ (l : List Nat) (m : Nat), (∀ c ∈ l, (c : Int) ∈ xs) → Sound xs m → Sound xs (l.foldl bmC m) := by
    intro l
    induction l with
    | nil => intro m _ h; exact h
    | cons c l ih => intro m hl h; exact ih _ (fun x hx => hl x (by simp [hx])) (sound_bmC hp (hl c (by simp)) h)
  exact this l 1 hl (sound_one xs)
theorem good_run {xs : List Int} (hp : allB 2 20 xs = true) (l : List Nat) (hl : ∀ c ∈ l, (c : Int) ∈ xs) (hg : good l = true) : ∀ i, i < 20 → py xs (381 + i) = true := by
  intro i hi
  refine sound_bm hp l hl _ ?_
  rw [← Nat.testBit_shiftRight]
  have h1 : (bm l >>> 381) % 2 ^ 20 = 2 ^ 20 - 1 := by simpa [good] using hg
  have h2 : ((bm l >>> 381) % 2 ^ 20).testBit i = true := by rw [h1, Nat.testBit_two_pow_sub_one]; simpa using hi
  rw [Nat.testBit_mod_two_pow] at h2
  simp only [Bool.and_eq_true] at h2
  exact h2.2
theorem run_all {xs : List Int} (hp : allB 2 20 xs = true) (h0 : xs ≠ []) (h : ∀ i, i < 20 → py xs (381 + i) = true) : ∀ j, 381 ≤ j → py xs j = true := by
  obtain ⟨c, hc⟩ := List.exists_mem_of_ne_nil xs h0
  have hb := mem_bd hp hc
  intro j
  induction j using Nat.strongRecOn with
  | _ j ih =>
    intro hj
    rcases Nat.lt_or_ge j 401 with h1 | h1
    · have := h (j - 381) (by omega)
      rwa [show 381 + (j - 381) = j by omega] at this
    · have := py_add hp hc (ih (j - c.toNat) (by omega) (by omega))
      rwa [show j - c.toNat + c.toNat = j by omega] at this

/-- All purses of the one, two, three and four coins. -/
def chk1 : Bool := (List.range 21).all fun a => !(decide (2 ≤ a) && (a == 1)) || good [a]
def chk2 : Bool := (List.range 21).all fun a => !decide (2 ≤ a) || (List.range 21).all fun b => !(decide (a < b) && (Nat.gcd a b == 1)) || good [a, b]
def chk3 : Bool := (List.range 21).all fun a => !decide (2 ≤ a) || (List.range 21).all fun b => !decide (a < b) || (List.range 21).all fun c => !(decide (b < c) && (Nat.gcd (Nat.gcd a b) c == 1)) || good [a, b, c]
def chk4 : Bool := (List.range 21).all fun a => !decide (2 ≤ a) || (List.range 21).all fun b => !decide (a < b) || (List.range 21).all fun c => !decide (b < c) || (List.range 21).all fun d => !(decide (c < d) && (Nat.gcd (Nat.gcd (Nat.gcd a b) c) d == 1)) || good [a, b, c, d]
theorem chk2_true : chk2 = true := by decide +kernel
theorem chk3_true : chk3 = true := by decide +kernel
theorem chk4_true : chk4 = true := by decide +kernel
theorem chk2_at {a b : Nat} (h1 : 2 ≤ a) (h2 : a < b) (h3 : b ≤ 20) (hg : Nat.gcd a b = 1) : good [a, b] = true := by
  have h := chk2_true
  simp only [chk2, List.all_eq_true, List.mem_range, Bool.or_eq_true, Bool.not_eq_true', decide_eq_false_iff_not, Bool.and_eq_false_iff, beq_eq_false_iff_ne] at h
  have k := ((h a (by omega)).resolve_left (by omega)) b (by omega)
  rcases k with (k | k) | k
  · omega
  · exact absurd hg k
  · exact k
theorem chk3_at {a b c : Nat} (h1 : 2 ≤ a) (h2 : a < b) (h3 : b < c) (h4 : c ≤ 20) (hg : Nat.gcd (Nat.gcd a b) c = 1) : good [a, b, c] = true := by
  have h := chk3_true
  simp only [chk3, List.all_eq_true, List.mem_range, Bool.or_eq_true, Bool.not_eq_true', decide_eq_false_iff_not, Bool.and_eq_false_iff, beq_eq_false_iff_ne] at h
  have k := ((((h a (by omega)).resolve_left (by omega)) b (by omega)).resolve_left (by omega)) c (by omega)
  rcases k with (k | k) | k
  · omega
  · exact absurd hg k
  · exact k
theorem chk4_at {a b c d : Nat} (h1 : 2 ≤ a) (h2 : a < b) (h3 : b < c) (h4 : c < d) (h5 : d ≤ 20) (hg : Nat.gcd (Nat.gcd (Nat.gcd a b) c) d = 1) : good [a, b, c, d] = true := by
  have h := chk4_true
  simp only [chk4, List.all_eq_true, List.mem_range, Bool.or_eq_true, Bool.not_eq_true', decide_eq_false_iff_not, Bool.and_eq_false_iff, beq_eq_false_iff_ne] at h
  have k := ((((((h a (by omega)).resolve_left (by omega)) b (by omega)).resolve_left (by omega)) c (by omega)).resolve_left (by omega)) d (by omega)
  rcases k with (k | k) | k
  · omega
  · exact absurd hg k
  · exact k
theorem all_of {f : Nat → Bool} (h : (List.range 21).all f = true) (a : Nat) (ha : a ≤ 20) : f a = true := List.all_eq_true.1 h a (by simp; omega)
theorem toNat_mem {xs : List Int} (hp : allB 2 20 xs = true) {c : Int} (hc : c ∈ xs) : ((c.toNat : Nat) : Int) ∈ xs := by
  have := mem_bd hp hc
  rwa [show ((c.toNat : Nat) : Int) = c by omega]
theorem purse_good {xs : List Int} (hp : purseB xs = true) (hg : gcdL xs = 1) : ∃ l : List Nat, (∀ c ∈ l, (c : Int) ∈ xs) ∧ good l = true := by
  obtain ⟨ha, hs, h1, h2⟩ := purseB_bd hp
  have hs' := ascB_iff.1 hs
  match xs, h1, h2 with
  | [a], _, _ =>
    exfalso
    have := mem_bd ha (c := a) (by simp)
    simp only [gcdL, List.foldl_cons, List.foldl_nil] at hg
    simp at hg
    omega
  | [a, b], _, _ =>
    have m1 := mem_bd ha (c := a) (by simp)
    have m2 := mem_bd ha (c := b) (by simp)
    have s1 : a < b := hs' 0 (by simp)
    refine ⟨[a.toNat, b.toNat], by intro c hc; simp only [List.mem_cons, List.not_mem_nil, or_false] at hc; rcases hc with rfl | rfl <;> exact toNat_mem ha (by simp), ?_⟩
    have g1 : Nat.gcd a.toNat b.toNat = 1 := by
      simp only [gcdL, List.foldl_cons, List.foldl_nil, Int.gcd_zero_left] at hg
      have : Int.gcd (a.natAbs : Int) b = Nat.gcd a.toNat b.toNat := by show Nat.gcd _ _ = _; congr 1 <;> omega
      omega
    exact chk2_at (by omega) (by omega) (by omega) g1
  | [a, b, c], _, _ =>
    have m1 := mem_bd ha (c := a) (by simp)
    have m2 := mem_bd ha (c := b) (by simp)
    have m3 := mem_bd ha (c := c) (by simp)
    have s1 : a < b := hs' 0 (by simp)
    have s2 : b < c := hs' 1 (by simp)
    refine ⟨[a.toNat, b.toNat, c.toNat], by intro x hc; simp only [List.mem_cons, List.not_mem_nil, or_false] at hc; rcases hc with rfl | rfl | rfl <;> exact toNat_mem ha (by simp), ?_⟩
    have g1 : Nat.gcd (Nat.gcd a.toNat b.toNat) c.toNat = 1 := by
      simp only [gcdL, List.foldl_cons, List.foldl_nil, Int.gcd_zero_left] at hg
      have e1 : Int.gcd (a.natAbs : Int) b = Nat.gcd a.toNat b.toNat := by show Nat.gcd _ _ = _; congr 1 <;> omega
      rw [e1] at hg
      have : Int.gcd (Nat.gcd a.toNat b.toNat : Int) c = Nat.gcd (Nat.gcd a.toNat b.toNat) c.toNat := by show Nat.gcd _ _ = _; congr 1; omega
      omega
    exact chk3_at (by omega) (by omega) (by omega) (by omega) g1
  | [a, b, c, d], _, _ =>
    have m1 := mem_bd ha (c := a) (by simp)
    have m2 := mem_bd ha (c := b) (by simp)
    have m3 := mem_bd ha (c := c) (by simp)
    have m4 := mem_bd ha (c := d) (by simp)
    have s1 : a < b := hs' 0 (by simp)
    have s2 : b < c := hs' 1 (by simp)
    have s3 : c < d := hs' 2 (by simp)
    refine ⟨[a.toNat, b.toNat, c.toNat, d.toNat], by intro x hc; simp only [List.mem_cons, List.not_mem_nil, or_false] at hc; rcases hc with rfl | rfl | rfl | rfl <;> exact toNat_mem ha (by simp), ?_⟩
    have g1 : Nat.gcd (Nat.gcd (Nat.gcd a.toNat b.toNat) c.toNat) d.toNat = 1 := by
      simp only [gcdL, List.foldl_cons, List.foldl_nil, Int.gcd_zero_left] at hg
      have e1 : Int.gcd (a.natAbs : Int) b = Nat.gcd a.toNat b.toNat := by show Nat.gcd _ _ = _; congr 1 <;> omega
      rw [e1] at hg
      have e2 : Int.gcd (Nat.gcd a.toNat b.toNat : Int) c = Nat.gcd (Nat.gcd a.toNat b.toNat) c.toNat := by show Nat.gcd _ _ = _; congr 1; omega
      rw [e2] at hg
      have : Int.gcd (Nat.gcd (Nat.gcd a.toNat b.toNat) c.toNat : Int) d = Nat.gcd (Nat.gcd (Nat.gcd a.toNat b.toNat) c.toNat) d.toNat := by show Nat.gcd _ _ = _; congr 1; omega
      omega
    exact chk4_at (by omega) (by omega) (by omega) (by omega) (by omega) g1
theorem py_high {xs : List Int} (h : cdiv xs = 1) : ∀ j, 381 ≤ j → py xs j = true := by
  unfold cdiv at h
  split at h
  · rename_i hp
    obtain ⟨ha, hs, h1, h2⟩ := purseB_bd hp
    obtain ⟨l, hl, hg⟩ := purse_good hp h
    exact run_all ha (by intro e; rw [e] at h1; simp at h1) (good_run ha l hl hg)
  · omega
theorem lastF_ext {bs cs : List Bool} : ∀ k, (∀ j, j < k → bs.getD j false = cs.getD j false) → lastF bs k = lastF cs k := by
  intro k
  induction k with
  | zero => intro _; rfl
  | succ k ih => intro h; rw [lastF, lastF, h k (by omega), ih (fun j hj => h j (by omega))]
theorem countF_ext {bs cs : List Bool} : ∀ k, (∀ j, j < k → bs.getD j false = cs.getD j false) → countF bs k = countF cs k := by
  intro k
  induction k with
  | zero => intro _; rfl
  | succ k ih => intro h; rw [countF, countF, h k (by omega), ih (fun j hj => h j (by omega))]
theorem lastF_up {bs : List Bool} {m : Nat} : ∀ d, (∀ j, m ≤ j → j < m + d → bs.getD j false = true) → lastF bs (m + d) = lastF bs m := by
  intro d
  induction d with
  | zero => intro _; rfl
  | succ d ih => intro h; rw [← Nat.add_assoc, lastF, h (m + d) (by omega) (by omega), if_neg (by simp), ih (fun j h1 h2 => h j h1 (by omega))]
theorem countF_up {bs : List Bool} {m : Nat} : ∀ d, (∀ j, m ≤ j → j < m + d → bs.getD j false = true) → countF bs (m + d) = countF bs m := by
  intro d
  induction d with
  | zero => intro _; rfl
  | succ d ih => intro h; rw [← Nat.add_assoc, countF, h (m + d) (by omega) (by omega), if_neg (by simp), ih (fun j h1 h2 => h j h1 (by omega))]
theorem largest_eq (xs : List Int) : largestS xs 400 = largestS xs 1000 := by
  unfold largestS
  split
  · rename_i h
    have e1 := lastF_up (bs := payT xs 1000) (m := 401) 600 (fun j h1 h2 => by rw [payT_getD _ _ _ (by omega)]; exact py_high h j (by omega))
    show lastF (payT xs 400) 401 = lastF (payT xs 1000) (401 + 600)
    rw [e1]
    exact lastF_ext _ fun j hj => by rw [payT_getD _ _ _ (by omega), payT_getD _ _ _ (by omega)]
  · rfl
theorem count_eq (xs : List Int) : countS xs 400 = countS xs 1000 := by
  unfold countS
  split
  · rename_i h
    have e1 := countF_up (bs := payT xs 1000) (m := 401) 600 (fun j h1 h2 => by rw [payT_getD _ _ _ (by omega)]; exact py_high h j (by omega))
    show countF (payT xs 400) 401 = countF (payT xs 1000) (401 + 600)
    rw [e1]
    exact countF_ext _ fun j hj => by rw [payT_getD _ _ _ (by omega), payT_getD _ _ _ (by omega)]
  · rfl
end Go.Proofs.Yteojocnjiebdcaa
