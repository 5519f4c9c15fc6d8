/- Plain lemmas on words of 64 bits: runs, counts, what is picked, packed, spread and turned. -/
import Derived.Test.YtheajimjmhocgaaDoorBits
namespace Go.Proofs.YtheajimjmhocgaaDoor

theorem testBit_hi {x : Nat} (hx : x < 18446744073709551616) {j : Nat} (hj : 64 ≤ j) : x.testBit j = false :=
  Nat.testBit_lt_two_pow (Nat.lt_of_lt_of_le hx (show 2 ^ 64 ≤ 2 ^ j from Nat.pow_le_pow_right (by decide) hj))

theorem run_raw (A B : Nat) (hAB : A < B) (hB : B ≤ 64) :
    IntKind.u64.wrap (18446744073709551615 / 2 ^ (64 - B + A) * 2 ^ A) = ((mkW (fun j => decide (A ≤ j) && decide (j < B)) 64 : Nat) : Int) := by
  rw [show 64 - B + A = 64 - (B - A) by omega]
  obtain ⟨d, hd⟩ : ∃ d, B - A = d := ⟨_, rfl⟩
  rw [hd]
  have h1 : (18446744073709551615 : Nat) / 2 ^ (64 - d) = 2 ^ d - 1 := by
    have hp : 2 ^ d * 2 ^ (64 - d) = 18446744073709551616 := by rw [← Nat.pow_add, show d + (64 - d) = 64 by omega]
    have hpos : 0 < 2 ^ d := Nat.two_pow_pos d
    have hpos2 : 0 < 2 ^ (64 - d) := Nat.two_pow_pos _
    apply Nat.div_eq_of_lt_le
    · rw [Nat.sub_mul, hp]; omega
    · rw [Nat.sub_add_cancel hpos, Nat.mul_comm, Nat.mul_comm (2 ^ (64 - d)), hp]; omega
  have h2 : (2 ^ d - 1) * 2 ^ A < 18446744073709551616 := by
    have : 2 ^ d * 2 ^ A ≤ 2 ^ 64 := by rw [← Nat.pow_add]; exact Nat.pow_le_pow_right (by decide) (by omega)
    have hpos : 0 < 2 ^ A := Nat.two_pow_pos A
    rw [Nat.sub_mul]; omega
  have h3 : (18446744073709551615 : Int) / 2 ^ (64 - d) * 2 ^ A = (((2 ^ d - 1) * 2 ^ A : Nat) : Int) := by
    rw [← h1]
    simp only [Int.natCast_mul, Int.natCast_ediv, Int.natCast_pow]
    rfl
  rw [h3, IntKind.wrap_u64, ← eq_mkW h2]
  · omega
  · intro j hj
    rw [Nat.testBit_mul_two_pow, Nat.testBit_two_pow_sub_one, Bool.eq_iff_iff]
    simp only [Bool.and_eq_true, decide_eq_true_eq]
    omega

/-- How many numbers of a word are less than one. -/
def below (x n : Nat) : Nat := cntW (fun j => x.testBit j) n

theorem below_succ (x n : Nat) : below x (n + 1) = below x n + (if x.testBit n then 1 else 0) := rfl
theorem below_mono (x : Nat) {a b : Nat} (h : a ≤ b) : below x a ≤ below x b := by
  induction b with
  | zero => have : a = 0 := by omega
            subst this; exact Nat.le_refl _
  | succ b ih =>
    rcases Nat.lt_or_ge a (b + 1) with h1 | h1
    · exact Nat.le_trans (ih (by omega)) (by rw [below_succ]; omega)
    · have : a = b + 1 := by omega
      subst this; exact Nat.le_refl _

theorem cntW_run (x : Nat) (a b n : Nat) (hab : a ≤ b) : cntW (fun j => decide (a ≤ j) && (decide (j < b) && x.testBit j)) n = below x (min b n) - below x (min a n) := by
  induction n with
  | zero => simp [cntW]
  | succ n ih =>
    rw [cntW, ih]
    by_cases h1 : a ≤ n
    · by_cases h2 : n < b
      · rw [show min b (n + 1) = n + 1 by omega, show min b n = n by omega, show min a (n + 1) = a by omega, show min a n = a by omega, below_succ]
        have := below_mono x h1
        simp only [h1, h2, decide_true, Bool.true_and]
        omega
      · rw [show min b (n + 1) = b by omega, show min b n = b by omega, show min a (n + 1) = a by omega, show min a n = a by omega]
        simp [h2]
    · rw [show min b (n + 1) = n + 1 by omega, show min b n = n by omega, show min a (n + 1) = n + 1 by omega, show min a n = n by omega]
      simp [h1]

/-- Where the t-th number of a word is. -/
theorem below_reach (x : Nat) {t n : Nat} (h : t < below x n) : ∃ j, j < n ∧ x.testBit j = true ∧ below x j = t := by
  induction n with
  | zero => simp [below, cntW] at h
  | succ n ih =>
    by_cases h1 : t < below x n
    · obtain ⟨j, h2, h3, h4⟩ := ih h1
      exact ⟨j, by omega, h3, h4⟩
    · rw [below_succ] at h
      split at h
      · rename_i hb
        exact ⟨n, by omega, hb, by omega⟩
      · omega
theorem below_lt (x : Nat) {j n : Nat} (h : j < n) (hb : x.testBit j = true) : below x j < below x n := by
  have := below_mono x (show j + 1 ≤ n from h)
  rw [below_succ, if_pos hb] at this
  omega
theorem below_inj (x : Nat) {i j : Nat} (hi : x.testBit i = true) (hj : x.testBit j = true) (h : below x i = below x j) : i = j := by
  rcases Nat.lt_trichotomy i j with h1 | h1 | h1
  · have := below_lt x h1 hi; omega
  · exact h1
  · have := below_lt x h1 hj; omega

theorem firstW_none {f : Nat → Bool} : ∀ {n a : Nat}, (∀ j, a ≤ j → j < a + n → f j = false) → firstW f a n = a + n
  | 0, _, _ => rfl
  | n + 1, a, h => by
    rw [firstW, h a (Nat.le_refl _) (by omega)]
    simp only [Bool.false_eq_true, if_false]
    rw [firstW_none (fun j h1 h2 => h j (by omega) (by omega))]; omega
theorem firstW_at {f : Nat → Bool} : ∀ {n a p : Nat}, a ≤ p → p < a + n → f p = true → (∀ j, a ≤ j → j < p → f j = false) → firstW f a n = p
  | 0, a, p, h1, h2, _, _ => by omega
  | n + 1, a, p, h1, h2, h3, h4 => by
    rw [firstW]
    by_cases h : a = p
    · subst h; rw [h3]; rfl
    · rw [h4 a (Nat.le_refl _) (by omega)]
      simp only [Bool.false_eq_true, if_false]
      exact firstW_at (by omega) (by omega) h3 (fun j h5 h6 => h4 j (by omega) h6)

/-! ### Packed and spread -/
theorem packS_snd (x m : Nat) : ∀ n, (packS x m n).2 = below m n
  | 0 => rfl
  | n + 1 => by
    rw [packS, below_succ, ← packS_snd x m n]
    split <;> simp
theorem spreadS_snd (x m : Nat) : ∀ n, (spreadS x m n).2 = below m n
  | 0 => rfl
  | n + 1 => by
    rw [spreadS, below_succ, ← spreadS_snd x m n]
    split <;> simp
theorem spreadS_bit (x m j : Nat) : ∀ n, (spreadS x m n).1.testBit j = (decide (j < n) && (m.testBit j && x.testBit (below m j)))
  | 0 => by simp [spreadS]
  | n + 1 => by
    have ih := spreadS_bit x m j n
    rw [spreadS, spreadS_snd]
    by_cases hm : m.testBit n
    · by_cases hx : x.testBit (below m n)
      · simp only [hm, hx, if_true, Nat.testBit_or, ih]
        by_cases hj : j = n
        · subst hj; simp [hm, hx, Nat.testBit_two_pow_self]
        · rw [Nat.testBit_two_pow_of_ne (Ne.symm hj), show decide (j < n + 1) = decide (j < n) by simp; omega]; simp
      · simp only [hm, hx, if_true, Bool.false_eq_true, if_false, ih]
        by_cases hj : j = n
        · subst hj; simp [hx]
        · rw [show decide (j < n + 1) = decide (j < n) by simp; omega]
    · simp only [hm, Bool.false_eq_true, if_false, ih]
      by_cases hj : j = n
      · subst hj; simp [hm]
      · rw [show decide (j < n + 1) = decide (j < n) by simp; omega]
theorem packS_bit (x m k : Nat) : ∀ n, ((packS x m n).1.testBit k = true ↔ ∃ j, j < n ∧ m.testBit j = true ∧ below m j = k ∧ x.testBit j = true)
  | 0 => by simp [packS]
  | n + 1 => by
    have ih := packS_bit x m k n
    rw [packS, packS_snd]
    have key : (∃ j, j < n + 1 ∧ m.testBit j = true ∧ below m j = k ∧ x.testBit j = true) ↔ (∃ j, j < n ∧ m.testBit j = true ∧ below m j = k ∧ x.testBit j = true) ∨ (m.testBit n = true ∧ below m n = k ∧ x.testBit n = true) := by
      constructor
      · rintro ⟨j, h1, h2⟩
        by_cases hj : j = n
        · subst hj; exact .inr h2
        · exact .inl ⟨j, by omega, h2⟩
      · rintro (⟨j, h1, h2⟩ | h2)
        · exact ⟨j, by omega, h2⟩
        · exact ⟨n, by omega, h2⟩
    rw [key, ← ih]
    by_cases hm : m.testBit n
    · by_cases hx : x.testBit n
      · simp only [hm, hx, if_true, Nat.testBit_or, Bool.or_eq_true, true_and, and_true]
        by_cases hk : below m n = k
        · subst hk; simp [Nat.testBit_two_pow_self]
        · simp [hk, Nat.testBit_two_pow_of_ne hk]
      · simp [hm, hx]
    · simp [hm]
theorem turnS_bit (x j : Nat) (hj : j < 64) : ∀ n, n ≤ 64 → (turnS x n).testBit j = (decide (63 - j < n) && x.testBit (63 - j))
  | 0, _ => by simp [turnS]
  | n + 1, hn => by
    have ih := turnS_bit x j hj n (by omega)
    rw [turnS]
    by_cases hb : x.testBit n
    · simp only [hb, if_true, Nat.testBit_or, ih]
      by_cases h : 63 - j = n
      · rw [show 63 - n = j by omega, h]; simp [hb, Nat.testBit_two_pow_self]
      · rw [Nat.testBit_two_pow_of_ne (show 63 - n ≠ j by omega), show decide (63 - j < n + 1) = decide (63 - j < n) by simp; omega]; simp
    · simp only [hb, Bool.false_eq_true, if_false, ih]
      by_cases h : 63 - j = n
      · rw [h]; simp [hb]
      · rw [show decide (63 - j < n + 1) = decide (63 - j < n) by simp; omega]
end Go.Proofs.YtheajimjmhocgaaDoor
