/- Plain lemmas: the sum of two floats is the exact sum, rounded. -/
import Derived.Test.YtmllbdiljjimmaaCompares
namespace Go.Proofs.Ytmllbdiljjimmaa
open Go.RowKit

/-- Rounded, with its sign. -/
noncomputable def packF (neg : Bool) (N : Nat) : Nat := if neg then rnd N + 9223372036854775808 else rnd N

theorem word_eq (neg : Bool) (r : Nat) : dbl.word neg r = if neg then r + 9223372036854775808 else r := by
  unfold Ieee.Format.word
  rw [dbl_sw]
  cases neg
  · rfl
  · show 9223372036854775808 + r = r + 9223372036854775808
    omega

theorem log_len {m k : Nat} (hm : m ≠ 0) : IsLen (m * 2 ^ k) (m.log2 + 1 + k) := by
  refine ⟨?_, fun _ => ?_⟩
  · rw [Nat.pow_add]
    exact Nat.mul_lt_mul_of_pos_right (Nat.lt_log2_self) (pow_pos2 k)
  · rw [show m.log2 + 1 + k - 1 = m.log2 + k by omega, Nat.pow_add]
    exact Nat.mul_le_mul_right _ (Nat.log2_self_le hm)

/-- Rounding to even, as the standard writes it. -/
theorem cut_even (neg : Bool) (n d : Nat) (hd : d ≤ n.log2 + 2) : Ieee.Toward.even.cut neg n d = n / 2 ^ d + (if 2 ^ d < 2 * (n % 2 ^ d) ∨ (2 ^ d = 2 * (n % 2 ^ d) ∧ n / 2 ^ d % 2 = 1) then 1 else 0) := by
  unfold Ieee.Toward.cut
  rw [Nat.min_eq_left hd, Nat.shiftLeft_eq, Nat.one_mul]
  dsimp only
  congr 1
  by_cases h : 2 ^ d < 2 * (n % 2 ^ d) ∨ (2 ^ d = 2 * (n % 2 ^ d) ∧ n / 2 ^ d % 2 = 1)
  · rw [if_pos h]
    have : (decide (2 ^ d < 2 * (n % 2 ^ d)) || (2 ^ d == 2 * (n % 2 ^ d) && n / 2 ^ d % 2 == 1)) = true := by
      simp only [Bool.or_eq_true, decide_eq_true_eq, Bool.and_eq_true, beq_iff_eq]; exact h
    rw [this]; rfl
  · rw [if_neg h]
    have : (decide (2 ^ d < 2 * (n % 2 ^ d)) || (2 ^ d == 2 * (n % 2 ^ d) && n / 2 ^ d % 2 == 1)) = false := by
      rw [Bool.eq_false_iff]
      simp only [ne_eq, Bool.or_eq_true, decide_eq_true_eq, Bool.and_eq_true, beq_iff_eq]; exact h
    rw [this]; rfl

/-- The place of the half and what lies below it. -/
theorem half_iff (N a : Nat) (ha : 0 < a) (q : Nat) : (N / 2 ^ (a - 1) % 2 = 1 ∧ (q % 2 = 1 ∨ N % 2 ^ (a - 1) ≠ 0)) ↔ (2 ^ a < 2 * (N % 2 ^ a) ∨ (2 ^ a = 2 * (N % 2 ^ a) ∧ q % 2 = 1)) := by
  have hp : 2 ^ a = 2 * 2 ^ (a - 1) := by rw [← Nat.pow_succ', show (a - 1).succ = a by omega]
  have hr : N % 2 ^ a = 2 ^ (a - 1) * (N / 2 ^ (a - 1) % 2) + N % 2 ^ (a - 1) := by rw [hp, Nat.mul_comm 2, Nat.mod_mul, Nat.add_comm]
  have hs := Nat.mod_lt N (pow_pos2 (a - 1))
  have hc : N / 2 ^ (a - 1) % 2 < 2 := Nat.mod_lt _ (by decide)
  rw [hr, hp]
  generalize N % 2 ^ (a - 1) = s at *
  generalize N / 2 ^ (a - 1) % 2 = c at *
  generalize 2 ^ (a - 1) = H at *
  rcases (show c = 0 ∨ c = 1 by omega) with rfl | rfl
  · rw [Nat.mul_zero, Nat.zero_add]
    constructor
    · intro h; omega
    · intro h; omega
  · rw [Nat.mul_one]
    constructor
    · intro h; omega
    · intro h; omega

theorem nearest_rnd (neg : Bool) (m k : Nat) : dbl.nearest neg m (-1074 + (k : Int)) = packF neg (m * 2 ^ k) := by
  unfold Ieee.Format.nearest packF
  by_cases hm : m = 0
  · rw [if_pos hm, word_eq, hm, Nat.zero_mul, rnd_zero]
  · rw [if_neg hm, dbl_least, dbl_frac, dbl_bin, dbl_inf]
    have hL := log_len (k := k) hm
    have hlast : max (-1074 + (k : Int) + (m.log2 : Int) - ((52 : Nat) : Int)) (-1074) = -1074 + ((m.log2 + 1 + k - 53 : Nat) : Int) := by omega
    rw [hlast, word_eq, ← rnd_of hL]
    have key : min ((-1074 + ((m.log2 + 1 + k - 53 : Nat) : Int) - -1074).toNat * 4503599627370496 + Ieee.Toward.even.cut neg (m <<< (-1074 + (k : Int) - (-1074 + ((m.log2 + 1 + k - 53 : Nat) : Int))).toNat) (-1074 + ((m.log2 + 1 + k - 53 : Nat) : Int) - (-1074 + (k : Int))).toNat) 9218868437227405312 = roundN (m * 2 ^ k) (m.log2 + 1 + k) := by
      unfold roundN roundAt
      obtain ⟨a, ha⟩ : ∃ a, m.log2 + 1 + k - 53 = a := ⟨_, rfl⟩
      rw [ha]
      have hq : m * 2 ^ k / 2 ^ a < 9007199254740992 := by
        rw [Nat.div_lt_iff_lt_mul (pow_pos2 _), show (9007199254740992 : Nat) = 2 ^ 53 by rfl, ← Nat.pow_add]
        exact Nat.lt_of_lt_of_le hL.1 (Nat.pow_le_pow_right (by decide) (by omega))
      rw [Nat.mod_eq_of_lt hq, show (-1074 + (a : Int) - -1074).toNat = a by omega]
      refine congrArg (fun x => min x 9218868437227405312) ?_
      rw [Nat.add_assoc]
      refine congrArg (fun x => a * 4503599627370496 + x) ?_
      rcases Nat.le_total a k with hak | hak
      · rw [show (-1074 + (a : Int) - (-1074 + (k : Int))).toNat = 0 by omega, show (-1074 + (k : Int) - (-1074 + (a : Int))).toNat = k - a by omega, Nat.shiftLeft_eq, cut_even _ _ _ (Nat.zero_le _)]
        rw [Nat.pow_zero, Nat.div_one, Nat.mod_one, if_neg (by omega), Nat.add_zero]
        have e1 : m * 2 ^ k = m * 2 ^ (k - a) * 2 ^ a := by rw [Nat.mul_assoc, ← Nat.pow_add, show k - a + a = k by omega]
        rw [e1, Nat.mul_div_cancel _ (pow_pos2 a), if_neg, Nat.add_zero]
        rintro ⟨h0, h1, h2⟩
        have h3 := (half_iff (m * 2 ^ (k - a) * 2 ^ a) a h0 (m * 2 ^ (k - a))).1 ⟨h1, h2⟩
        rw [Nat.mul_mod_left] at h3
        have := pow_pos2 a
        omega
      · have hd : a - k ≤ m.log2 + 2 := by omega
        rw [show (-1074 + (a : Int) - (-1074 + (k : Int))).toNat = a - k by omega, show (-1074 + (k : Int) - (-1074 + (a : Int))).toNat = 0 by omega, Nat.shiftLeft_eq, Nat.pow_zero, Nat.mul_one, cut_even _ _ _ hd]
        have e1 : 2 ^ a = 2 ^ (a - k) * 2 ^ k := by rw [← Nat.pow_add, show a - k + k = a by omega]
        have e2 : m * 2 ^ k / 2 ^ a = m / 2 ^ (a - k) := by rw [e1, Nat.mul_div_mul_right _ _ (pow_pos2 k)]
        have e3 : m * 2 ^ k % 2 ^ a = m % 2 ^ (a - k) * 2 ^ k := by rw [e1, Nat.mul_mod_mul_right]
        rw [e2]
        congr 1
        have hpk := pow_pos2 k
        have hiff : (2 ^ (a - k) < 2 * (m % 2 ^ (a - k)) ∨ (2 ^ (a - k) = 2 * (m % 2 ^ (a - k)) ∧ m / 2 ^ (a - k) % 2 = 1)) ↔ (2 ^ a < 2 * (m * 2 ^ k % 2 ^ a) ∨ (2 ^ a = 2 * (m * 2 ^ k % 2 ^ a) ∧ m / 2 ^ (a - k) % 2 = 1)) := by
          rw [e3, e1, ← Nat.mul_assoc]
          generalize 2 ^ (a - k) = X at *
          generalize m / X % 2 = o at *
          generalize m % X = y at *
          generalize 2 ^ k = P at *
          rw [Nat.mul_lt_mul_right hpk, Nat.mul_left_inj (by omega)]
        rcases Nat.eq_zero_or_pos a with h0 | h0
        · subst h0
          have hk0 : k = 0 := by omega
          subst hk0
          rw [if_neg (by rw [Nat.sub_self, Nat.pow_zero, Nat.mod_one]; omega), if_neg (by omega)]
        · have h3 := half_iff (m * 2 ^ k) a h0 (m / 2 ^ (a - k))
          by_cases hc : (2 ^ (a - k) < 2 * (m % 2 ^ (a - k)) ∨ (2 ^ (a - k) = 2 * (m % 2 ^ (a - k)) ∧ m / 2 ^ (a - k) % 2 = 1))
          · rw [if_pos hc, if_pos ⟨h0, h3.2 (hiff.1 hc)⟩]
          · rw [if_neg hc, if_neg (fun h => hc (hiff.2 (h3.1 h.2)))]
    rw [key]

/-- The sum of two numbers. -/
theorem add_num {b c : Nat} (hb : b < 18446744073709551616) (hc : c < 18446744073709551616) (h1 : kindF b < 3) (h2 : kindF c < 3) :
    dbl.add b c = some (packF (if svalF b + svalF c = 0 then negF b && negF c else decide (svalF b + svalF c < 0)) (svalF b + svalF c).natAbs) := by
  obtain ⟨m, e, r1, v1⟩ := read_num hb h1
  obtain ⟨n, k, r2, v2⟩ := read_num hc h2
  unfold Ieee.Format.add
  rw [r1, r2]
  unfold Ieee.Datum.sum
  dsimp only
  rw [min_place]
  have s1 := at_base (negF b) m e (min e k) (by omega)
  have s2 := at_base (negF c) n k (min e k) (by omega)
  rw [← sval_eq v1] at s1
  rw [← sval_eq v2] at s2
  generalize Ieee.signed (negF b) m _ = A at *
  generalize Ieee.signed (negF c) n _ = B at *
  have hp := pow_pos2 (min e k)
  have hsum : svalF b + svalF c = (A + B) * ((2 ^ min e k : Nat) : Int) := by rw [← s1, ← s2, Int.add_mul]
  rw [hsum]
  unfold Ieee.Format.write
  dsimp only [Option.map]
  rw [nearest_rnd]
  have hz : (A + B) * ((2 ^ min e k : Nat) : Int) = 0 ↔ A + B = 0 := by
    constructor
    · intro h
      rcases Int.mul_eq_zero.1 h with h | h
      · exact h
      · omega
    · intro h; rw [h, Int.zero_mul]
  have hn : (A + B) * ((2 ^ min e k : Nat) : Int) < 0 ↔ A + B < 0 := by
    have hp' : (0 : Int) < ((2 ^ min e k : Nat) : Int) := by omega
    constructor
    · intro h
      rcases Int.lt_or_le (A + B) 0 with h' | h'
      · exact h'
      · have := Int.mul_nonneg h' (Int.le_of_lt hp'); omega
    · intro h; exact Int.mul_neg_of_neg_of_pos h hp'
  have ha : ((A + B) * ((2 ^ min e k : Nat) : Int)).natAbs = (A + B).natAbs * 2 ^ min e k := by rw [Int.natAbs_mul, Int.natAbs_natCast]
  rw [ha]
  congr 2
  by_cases h0 : A + B = 0
  · rw [if_pos h0, if_pos (hz.2 h0)]
  · rw [if_neg h0, if_neg (fun h => h0 (hz.1 h))]
    rw [decide_eq_decide]; exact hn.symm
end Go.Proofs.Ytmllbdiljjimmaa
