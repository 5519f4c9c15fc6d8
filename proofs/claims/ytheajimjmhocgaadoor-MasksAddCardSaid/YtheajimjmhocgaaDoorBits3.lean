/- Plain lemmas on words of 64 bits: reversal, the first and the last number, powers of two, rounding. -/
import Derived.Test.YtheajimjmhocgaaDoorBits2
import Derived.Lib.BitFns
namespace Go.Proofs.YtheajimjmhocgaaDoor

theorem swap_step (k M : Nat) (P1 : ∀ j, j < 64 → M.testBit j = true → j ^^^ k = j + k ∧ (k ≤ j → M.testBit (j - k) = false)) (P2 : ∀ j, j < 64 → M.testBit j = false → k ≤ j ∧ j ^^^ k = j - k ∧ M.testBit (j - k) = true)
    (hM : M * 2 ^ k < 18446744073709551616) (x : Nat) (hx : x < 18446744073709551616) :
    (x &&& M) * 2 ^ k < 18446744073709551616 ∧ (x / 2 ^ k &&& M) ||| ((x &&& M) * 2 ^ k) < 18446744073709551616 ∧ ∀ j, j < 64 → ((x / 2 ^ k &&& M) ||| ((x &&& M) * 2 ^ k)).testBit j = x.testBit (j ^^^ k) := by
  have hle : (x &&& M) * 2 ^ k ≤ M * 2 ^ k := Nat.mul_le_mul_right _ Nat.and_le_right
  have h1 : (x &&& M) * 2 ^ k < 2 ^ 64 := by omega
  have h2 : x / 2 ^ k &&& M < 2 ^ 64 := Nat.lt_of_le_of_lt (Nat.le_trans Nat.and_le_left (Nat.div_le_self _ _)) hx
  refine ⟨h1, Nat.or_lt_two_pow h2 h1, fun j hj => ?_⟩
  rw [Nat.testBit_or, Nat.testBit_and, Nat.testBit_div_two_pow, Nat.testBit_mul_two_pow, Nat.testBit_and]
  cases hb : M.testBit j with
  | true =>
    obtain ⟨e1, e2⟩ := P1 j hj hb
    rw [e1]
    by_cases hk : k ≤ j
    · simp [e2 hk]
    · simp [hk]
  | false =>
    obtain ⟨e1, e2, e3⟩ := P2 j hj hb
    rw [e2, e3]
    simp [e1]

theorem swap1 (x : Nat) (hx : x < 18446744073709551616) : (x &&& 6148914691236517205) * 2 < 18446744073709551616 ∧ (x / 2 &&& 6148914691236517205) ||| ((x &&& 6148914691236517205) * 2) < 18446744073709551616 ∧
    ∀ j, j < 64 → ((x / 2 &&& 6148914691236517205) ||| ((x &&& 6148914691236517205) * 2)).testBit j = x.testBit (j ^^^ 1) := by
  have h := swap_step 1 6148914691236517205 (by decide +kernel) (by decide +kernel) (by decide) x hx
  rw [show (2 : Nat) ^ 1 = 2 by rfl] at h
  exact h
theorem swap2 (x : Nat) (hx : x < 18446744073709551616) : (x &&& 3689348814741910323) * 4 < 18446744073709551616 ∧ (x / 4 &&& 3689348814741910323) ||| ((x &&& 3689348814741910323) * 4) < 18446744073709551616 ∧
    ∀ j, j < 64 → ((x / 4 &&& 3689348814741910323) ||| ((x &&& 3689348814741910323) * 4)).testBit j = x.testBit (j ^^^ 2) := by
  have h := swap_step 2 3689348814741910323 (by decide +kernel) (by decide +kernel) (by decide) x hx
  rw [show (2 : Nat) ^ 2 = 4 by rfl] at h
  exact h
theorem swap4 (x : Nat) (hx : x < 18446744073709551616) : (x &&& 1085102592571150095) * 16 < 18446744073709551616 ∧ (x / 16 &&& 1085102592571150095) ||| ((x &&& 1085102592571150095) * 16) < 18446744073709551616 ∧
    ∀ j, j < 64 → ((x / 16 &&& 1085102592571150095) ||| ((x &&& 1085102592571150095) * 16)).testBit j = x.testBit (j ^^^ 4) := by
  have h := swap_step 4 1085102592571150095 (by decide +kernel) (by decide +kernel) (by decide) x hx
  rw [show (2 : Nat) ^ 4 = 16 by rfl] at h
  exact h
theorem swap8 (x : Nat) (hx : x < 18446744073709551616) : (x &&& 71777214294589695) * 256 < 18446744073709551616 ∧ (x / 256 &&& 71777214294589695) ||| ((x &&& 71777214294589695) * 256) < 18446744073709551616 ∧
    ∀ j, j < 64 → ((x / 256 &&& 71777214294589695) ||| ((x &&& 71777214294589695) * 256)).testBit j = x.testBit (j ^^^ 8) := by
  have h := swap_step 8 71777214294589695 (by decide +kernel) (by decide +kernel) (by decide) x hx
  rw [show (2 : Nat) ^ 8 = 256 by rfl] at h
  exact h
theorem swap16 (x : Nat) (hx : x < 18446744073709551616) : (x &&& 281470681808895) * 65536 < 18446744073709551616 ∧ (x / 65536 &&& 281470681808895) ||| ((x &&& 281470681808895) * 65536) < 18446744073709551616 ∧
    ∀ j, j < 64 → ((x / 65536 &&& 281470681808895) ||| ((x &&& 281470681808895) * 65536)).testBit j = x.testBit (j ^^^ 16) := by
  have h := swap_step 16 281470681808895 (by decide +kernel) (by decide +kernel) (by decide) x hx
  rw [show (2 : Nat) ^ 16 = 65536 by rfl] at h
  exact h
theorem swap32 (x : Nat) (hx : x < 18446744073709551616) : (x / 4294967296 ||| (x * 4294967296 % 18446744073709551616)) < 18446744073709551616 ∧
    ∀ j, j < 64 → (x / 4294967296 ||| (x * 4294967296 % 18446744073709551616)).testBit j = x.testBit (j ^^^ 32) := by
  have h1 : x * 4294967296 % 18446744073709551616 < 2 ^ 64 := Nat.mod_lt _ (by decide)
  have h2 : x / 4294967296 < 2 ^ 64 := by omega
  have P : ∀ j, j < 64 → (j < 32 → j ^^^ 32 = j + 32) ∧ (32 ≤ j → j ^^^ 32 = j - 32) := by decide +kernel
  refine ⟨Nat.or_lt_two_pow h2 h1, fun j hj => ?_⟩
  rw [Nat.testBit_or, show (4294967296 : Nat) = 2 ^ 32 by rfl, show (18446744073709551616 : Nat) = 2 ^ 64 by rfl, Nat.testBit_div_two_pow, Nat.testBit_mod_two_pow, Nat.testBit_mul_two_pow]
  by_cases h : j < 32
  · rw [(P j hj).1 h]; simp [show ¬ 32 ≤ j by omega]
  · rw [(P j hj).2 (by omega), testBit_hi hx (show 64 ≤ j + 32 by omega)]; simp [hj, show 32 ≤ j by omega]

/-- A word whose bits are those of another one, from the other end. -/
theorem turn_of (x y : Nat) (hy : y < 18446744073709551616) (h : ∀ j, j < 64 → y.testBit j = x.testBit ((((((j ^^^ 32) ^^^ 16) ^^^ 8) ^^^ 4) ^^^ 2) ^^^ 1)) : y = turnS x 64 := by
  have P : ∀ j, j < 64 → (((((j ^^^ 32) ^^^ 16) ^^^ 8) ^^^ 4) ^^^ 2) ^^^ 1 = 63 - j := by decide +kernel
  apply Nat.eq_of_testBit_eq
  intro j
  by_cases hj : j < 64
  · rw [h j hj, P j hj, turnS_bit x j hj 64 (Nat.le_refl _)]; simp [show 63 - j < 64 by omega]
  · rw [testBit_hi hy (by omega), testBit_hi (turnS_lt x 64 (Nat.le_refl _)) (by omega)]
theorem xor_lt (j k : Nat) (hj : j < 64) (hk : k < 64) : j ^^^ k < 64 := Nat.xor_lt_two_pow (n := 6) hj hk

theorem turn_turn (x : Nat) (hx : x < 18446744073709551616) : turnS (turnS x 64) 64 = x := by
  apply Nat.eq_of_testBit_eq
  intro j
  by_cases hj : j < 64
  · rw [turnS_bit _ j hj 64 (Nat.le_refl _), turnS_bit _ (63 - j) (by omega) 64 (Nat.le_refl _)]
    simp [show 63 - j < 64 by omega, show 63 - (63 - j) = j by omega, hj]
  · rw [testBit_hi hx (by omega), testBit_hi (turnS_lt _ 64 (Nat.le_refl _)) (by omega)]

/-! ### The first number, the last number -/
theorem first_ctz (x : Nat) (hx : x < 18446744073709551616) (h0 : x ≠ 0) : ∃ k m, k < 64 ∧ x = 2 ^ k * (2 * m + 1) ∧ firstW (fun j => x.testBit j) 0 64 = k := by
  obtain ⟨m, h1, h2⟩ := Lib.ctzFrom_spec 64 x (by omega) hx
  generalize Lib.ctzFrom 64 x = k at h1 h2
  refine ⟨k, m, h2, h1, firstW_at (Nat.zero_le _) (by omega) ?_ ?_⟩
  · show x.testBit k = true
    rw [h1, Nat.testBit_two_pow_mul]; simp
  · intro j _ hj
    show x.testBit j = false
    rw [h1, Nat.testBit_two_pow_mul]; simp; omega

theorem bitLen_last (x : Nat) : ∀ n, x < 2 ^ n → lastW (fun j => x.testBit j) n = (Lib.bitLenAux n x : Int) - 1 := by
  intro n
  induction n generalizing x with
  | zero => intro h; simp [lastW, Lib.bitLenAux]
  | succ n ih =>
    intro h
    have hx2 : x / 2 < 2 ^ n := by rw [Nat.pow_succ] at h; omega
    have key : ∀ m, lastW (fun j => x.testBit j) (m + 1) = if lastW (fun j => (x / 2).testBit j) m = -1 then (if x % 2 = 1 then 0 else -1) else lastW (fun j => (x / 2).testBit j) m + 1 := by
      intro m
      induction m with
      | zero => simp [lastW]
      | succ m ihm =>
        have a1 : lastW (fun j => x.testBit j) (m + 1 + 1) = if x.testBit (m + 1) then ((m + 1 : Nat) : Int) else lastW (fun j => x.testBit j) (m + 1) := rfl
        have a2 : lastW (fun j => (x / 2).testBit j) (m + 1) = if (x / 2).testBit m then (m : Int) else lastW (fun j => (x / 2).testBit j) m := rfl
        rw [a1, a2, Nat.testBit_succ]
        by_cases hb : (x / 2).testBit m
        · simp only [hb, if_true]; rw [if_neg (by omega)]; omega
        · simp only [hb, Bool.false_eq_true, if_false]; exact ihm
    rw [key, ih _ hx2, Lib.bitLenAux]
    by_cases h0 : x = 0
    · subst h0
      have : Lib.bitLenAux n 0 = 0 := by cases n <;> simp [Lib.bitLenAux]
      simp [this]
    · rw [if_neg h0]
      by_cases h2 : x / 2 = 0
      · have h1 : x = 1 := by omega
        rw [h2]
        have : Lib.bitLenAux n 0 = 0 := by cases n <;> simp [Lib.bitLenAux]
        simp [this, h1]
      · have : 0 < Lib.bitLenAux n (x / 2) := by
          cases n with
          | zero => simp at hx2; omega
          | succ n => rw [Lib.bitLenAux, if_neg h2]; omega
        rw [if_neg (by omega)]
        push_cast
        omega

/-! ### Powers of two -/
def isPow (n : Int) : Bool := (List.range 63).any fun i => n == 2 ^ i

theorem isPow_iff (n : Int) : isPow n = true ↔ ∃ i, i < 63 ∧ n = 2 ^ i := by
  simp [isPow]

theorem pow_and (n : Nat) (h0 : 0 < n) (hn : n < 9223372036854775808) : (n &&& (n - 1) = 0) ↔ ∃ i, i < 63 ∧ n = 2 ^ i := by
  constructor
  · intro h
    obtain ⟨m, h1, h2⟩ := Lib.ctzFrom_spec 63 n h0 hn
    generalize Lib.ctzFrom 63 n = k at h1 h2
    refine ⟨k, h2, ?_⟩
    rcases Nat.eq_zero_or_pos m with hm | hm
    · subst hm; simpa using h1
    · exfalso
      -- a second number, above k, is in both
      obtain ⟨p, hp⟩ : ∃ p, m.testBit p = true := Nat.exists_testBit_of_ne_zero (by omega)
      have e : n - 1 = 2 ^ k * (2 * m) + (2 ^ k - 1) := by
        have hpos : 0 < 2 ^ k := Nat.two_pow_pos k
        rw [h1, Nat.mul_add]; omega
      have t1 : n.testBit (k + (p + 1)) = true := by
        rw [h1, Nat.testBit_two_pow_mul]
        simp only [show k ≤ k + (p + 1) by omega, decide_true, Bool.true_and, show k + (p + 1) - k = p + 1 by omega]
        rw [Nat.testBit_succ, show (2 * m + 1) / 2 = m by omega]; exact hp
      have t2 : (n - 1).testBit (k + (p + 1)) = true := by
        rw [e, Nat.testBit_two_pow_mul_add _ (by have := Nat.two_pow_pos k; omega), if_neg (by omega), show k + (p + 1) - k = p + 1 by omega, Nat.testBit_succ, show 2 * m / 2 = m by omega]; exact hp
      have := congrArg (fun z => Nat.testBit z (k + (p + 1))) h
      simp [Nat.testBit_and, t1, t2] at this
  · rintro ⟨i, hi, rfl⟩
    apply Nat.eq_of_testBit_eq
    intro j
    rw [Nat.testBit_and, Nat.testBit_two_pow_sub_one]
    by_cases hj : i = j
    · subst hj; simp
    · rw [Nat.testBit_two_pow_of_ne hj]; simp

/-! ### Rounding -/
theorem andNot_round (n k : Nat) (hn : n < 9223372036854775808) (hk : k ≤ 30) : n &&& (18446744073709551615 - (2 ^ k - 1)) = n / 2 ^ k * 2 ^ k := by
  apply Nat.eq_of_testBit_eq
  intro j
  have hp : 2 ^ k ≤ 2 ^ 30 := Nat.pow_le_pow_right (by decide) hk
  have hpos : 0 < 2 ^ k := Nat.two_pow_pos k
  rw [Nat.testBit_and, Nat.testBit_mul_two_pow, Nat.testBit_div_two_pow]
  have e : 18446744073709551615 - (2 ^ k - 1) = 2 ^ 64 - ((2 ^ k - 1) + 1) := by omega
  rw [e, Nat.testBit_two_pow_sub_succ (by omega), Nat.testBit_two_pow_sub_one]
  by_cases hj : k ≤ j
  · simp only [hj, decide_true, Bool.true_and, show j - k + k = j by omega, show ¬ j < k by omega, decide_false, Bool.not_false]
    by_cases h64 : j < 64
    · simp [h64]
    · rw [testBit_hi (show n < 18446744073709551616 by omega) (by omega)]; simp
  · simp [hj, show j < k by omega]
end Go.Proofs.YtheajimjmhocgaaDoor
