/- Plain lemmas: what the bits of floats stand for; how two floats compare. -/
import Derived.Test.YtcmdcclolkgjeaaDoorFloat
namespace Go.Proofs.YtcmdcclolkgjeaaDoor
open Go.RowKit

theorem pow_pos2 (k : Nat) : 0 < 2 ^ k := Nat.two_pow_pos k

def magF (b : Nat) : Nat := if expo b = 0 then frac b else (4503599627370496 + frac b) * 2 ^ (expo b - 1)
def svalF (b : Nat) : Int := if negF b then -(magF b : Int) else magF b

theorem mag_at (a q : Nat) (hq : q < 9007199254740992) (ha : a = 0 ∨ 4503599627370496 ≤ q) (hl : a < 2047) : magF (a * 4503599627370496 + q) = q * 2 ^ a := by
  unfold magF expo frac
  by_cases h : q < 4503599627370496
  · obtain rfl : a = 0 := by omega
    rw [if_pos (by omega), Nat.pow_zero]; omega
  · rw [if_neg (by omega), show (a * 4503599627370496 + q) / 4503599627370496 % 2048 - 1 = a by omega, show 4503599627370496 + (a * 4503599627370496 + q) % 4503599627370496 = q by omega]
theorem mag_at1 (a q : Nat) (hq : q < 9007199254740992) (ha : a = 0 ∨ 4503599627370496 ≤ q) (hl : a < 2047) (hl2 : a < 2046 ∨ q + 1 < 9007199254740992) : magF (a * 4503599627370496 + q + 1) = (q + 1) * 2 ^ a := by
  by_cases h : q + 1 < 9007199254740992
  · rw [Nat.add_assoc, mag_at a (q + 1) h (by omega) hl]
  · obtain rfl : q = 9007199254740991 := by omega
    rw [show a * 4503599627370496 + 9007199254740991 + 1 = (a + 1) * 4503599627370496 + 4503599627370496 by omega, mag_at (a + 1) 4503599627370496 (by decide) (by omega) (by omega), Nat.pow_succ, Nat.mul_comm (2 ^ a), ← Nat.mul_assoc]
theorem mag_form (b : Nat) (h : b < 9223372036854775808) : ∃ a q, b = a * 4503599627370496 + q ∧ q < 9007199254740992 ∧ (a = 0 ∨ 4503599627370496 ≤ q) ∧ a < 2047 := by
  by_cases h0 : b < 4503599627370496
  · exact ⟨0, b, by omega, by omega, by omega, by omega⟩
  · exact ⟨b / 4503599627370496 - 1, b - (b / 4503599627370496 - 1) * 4503599627370496, by omega, by omega, by omega, by omega⟩
theorem mag_lt1 (b : Nat) (h : b + 1 < 9223372036854775808) : magF b < magF (b + 1) := by
  obtain ⟨a, q, rfl, hq, ha, hl⟩ := mag_form b (by omega)
  rw [mag_at a q hq ha hl, mag_at1 a q hq ha hl (by omega), Nat.succ_mul]
  have := pow_pos2 a
  omega
theorem mag_mono {b c : Nat} (h : b ≤ c) (hc : c < 9223372036854775808) : magF b ≤ magF c := by
  induction c with
  | zero => rw [Nat.le_zero.1 h]; exact Nat.le_refl _
  | succ c ih =>
    rcases Nat.eq_or_lt_of_le h with rfl | h
    · exact Nat.le_refl _
    · exact Nat.le_of_lt (Nat.lt_of_le_of_lt (ih (by omega) (by omega)) (mag_lt1 c hc))
theorem mag_strict {b c : Nat} (h : b < c) (hc : c < 9223372036854775808) : magF b < magF c :=
  Nat.lt_of_lt_of_le (mag_lt1 b (by omega)) (mag_mono h hc)
theorem mag_inf (k : Nat) (hk : k = 2046) : magF 9218868437227405312 = 4503599627370496 * 2 ^ k := by
  have h := mag_at k 4503599627370496 (by decide) (.inr (Nat.le_refl _)) (by omega)
  rw [show k * 4503599627370496 + 4503599627370496 = 9218868437227405312 by omega] at h
  exact h

theorem kind_le (f : Nat) : kindF f ≤ 4 := by unfold kindF; (repeat' split) <;> omega


/-- A float's bits without the sign. -/
def rungF (b : Nat) : Nat := b % 9223372036854775808
theorem expo_rung (b : Nat) : expo b = rungF b / 4503599627370496 := by unfold expo rungF; omega
theorem frac_rung (b : Nat) : frac b = rungF b % 4503599627370496 := by unfold frac rungF; omega
theorem mag_rung (b : Nat) : magF b = magF (rungF b) := by
  have h : rungF (rungF b) = rungF b := by unfold rungF; omega
  unfold magF
  rw [expo_rung b, frac_rung b, expo_rung (rungF b), frac_rung (rungF b), h]
theorem kind_num (b : Nat) : kindF b < 3 ↔ rungF b < 9218868437227405312 := by
  unfold kindF
  rw [expo_rung, frac_rung]
  have : rungF b < 9223372036854775808 := Nat.mod_lt _ (by decide)
  generalize rungF b = r at *
  (repeat' split) <;> omega
theorem kind_inf (b : Nat) : kindF b = 3 ↔ rungF b = 9218868437227405312 := by
  unfold kindF
  rw [expo_rung, frac_rung]
  have : rungF b < 9223372036854775808 := Nat.mod_lt _ (by decide)
  generalize rungF b = r at *
  (repeat' split) <;> omega
theorem kind_nan (b : Nat) : kindF b = 4 ↔ 9218868437227405312 < rungF b := by
  unfold kindF
  rw [expo_rung, frac_rung]
  have : rungF b < 9223372036854775808 := Nat.mod_lt _ (by decide)
  generalize rungF b = r at *
  (repeat' split) <;> omega

abbrev dbl : Ieee.Format := FloatKind.f64.format
theorem dbl_sw : dbl.signWeight = 9223372036854775808 := by rfl
theorem dbl_bin : dbl.binade = 4503599627370496 := by rfl
theorem dbl_inf : dbl.infRung = 9218868437227405312 := by rfl
theorem dbl_least : dbl.leastPlace = -1074 := by rfl
theorem dbl_frac : dbl.fractionBits = 52 := by rfl

theorem neg_read {b : Nat} (hb : b < 18446744073709551616) : (b / 9223372036854775808 % 2 == 1) = negF b := by
  unfold negF
  rw [Bool.eq_iff_iff, beq_iff_eq, decide_eq_true_eq]; omega

/-- What a number's word stands for. -/
theorem read_num {b : Nat} (hb : b < 18446744073709551616) (h : kindF b < 3) : ∃ m e : Nat, dbl.read b = .number (negF b) m (-1074 + (e : Int)) ∧ magF b = m * 2 ^ e := by
  rw [kind_num] at h
  unfold Ieee.Format.read
  rw [dbl_sw, dbl_bin, dbl_inf, dbl_least, neg_read hb]
  rw [mag_rung]
  unfold rungF at h ⊢
  have hr : b % 9223372036854775808 < 9223372036854775808 := Nat.mod_lt _ (by decide)
  generalize b % 9223372036854775808 = r at *
  have e1 : expo r = r / 4503599627370496 := by unfold expo; omega
  dsimp only
  by_cases h1 : r < 4503599627370496
  · rw [if_pos h1]
    refine ⟨r, 0, by simp, ?_⟩
    unfold magF
    rw [e1, if_pos (by omega), Nat.pow_zero]
    unfold frac; omega
  · rw [if_neg h1, if_pos h]
    refine ⟨4503599627370496 + r % 4503599627370496, r / 4503599627370496 - 1, rfl, ?_⟩
    unfold magF
    rw [e1, if_neg (by omega)]
    rfl
theorem read_inf {b : Nat} (hb : b < 18446744073709551616) (h : kindF b = 3) : dbl.read b = .infinity (negF b) := by
  rw [kind_inf] at h
  unfold Ieee.Format.read
  rw [dbl_sw, dbl_bin, dbl_inf, neg_read hb]
  unfold rungF at h
  dsimp only
  rw [h, if_neg (by decide), if_neg (by decide), if_pos rfl]
theorem read_nan {b : Nat} (hb : b < 18446744073709551616) (h : kindF b = 4) : ∃ f, dbl.read b = .nan (negF b) f := by
  rw [kind_nan] at h
  unfold Ieee.Format.read
  rw [dbl_sw, dbl_bin, dbl_inf, neg_read hb]
  unfold rungF at h
  dsimp only
  rw [if_neg (by omega), if_neg (by omega), if_neg (by omega)]
  exact ⟨_, rfl⟩

theorem order_nan {b c : Nat} (hb : b < 18446744073709551616) (hc : c < 18446744073709551616) (h : kindF b = 4 ∨ kindF c = 4) : dbl.order b c = none := by
  unfold Ieee.Format.order
  rcases h with h | h
  · obtain ⟨f, e⟩ := read_nan hb h
    rw [e]; rfl
  · obtain ⟨f, e⟩ := read_nan hc h
    rw [e]
    cases dbl.read b <;> rfl

theorem icmp (x y : Int) : compare x y = if x < y then .lt else if x = y then .eq else .gt := rfl
theorem icmp_lt {x y : Int} (h : x < y) : compare x y = .lt := by rw [icmp, if_pos h]
theorem icmp_eq {x y : Int} (h : x = y) : compare x y = .eq := by rw [icmp, if_neg (by omega), if_pos h]
theorem icmp_gt {x y : Int} (h : y < x) : compare x y = .gt := by rw [icmp, if_neg (by omega), if_neg (by omega)]

theorem signed_eq (s : Bool) (m k : Nat) : Ieee.signed s m k = if s then -((m * 2 ^ k : Nat) : Int) else ((m * 2 ^ k : Nat) : Int) := by
  unfold Ieee.signed
  rw [Nat.shiftLeft_eq]
theorem compare_scale (x y : Int) (k : Nat) (hk : 0 < k) : compare (x * k) (y * k) = compare x y := by
  have hk' : (0 : Int) < k := by omega
  rcases Int.lt_trichotomy x y with h | h | h
  · rw [icmp_lt h, icmp_lt (Int.mul_lt_mul_of_pos_right h hk')]
  · subst h; rw [icmp_eq rfl, icmp_eq rfl]
  · rw [icmp_gt h, icmp_gt (Int.mul_lt_mul_of_pos_right h hk')]

/-- The numbers at their common place. -/
theorem at_base (s : Bool) (m e k : Nat) (hk : k ≤ e) : Ieee.signed s m (-1074 + (e : Int) - (-1074 + (k : Int))).toNat * ((2 ^ k : Nat) : Int) = if s then -((m * 2 ^ e : Nat) : Int) else ((m * 2 ^ e : Nat) : Int) := by
  rw [signed_eq, show (-1074 + (e : Int) - (-1074 + (k : Int))).toNat = e - k by omega]
  have h : m * 2 ^ (e - k) * 2 ^ k = m * 2 ^ e := by rw [Nat.mul_assoc, ← Nat.pow_add, show e - k + k = e by omega]
  cases s
  · simp only [Bool.false_eq_true, if_false]
    rw [← Int.natCast_mul, h]
  · simp only [if_true]
    rw [Int.neg_mul, ← Int.natCast_mul, h]

theorem sval_eq {b m e : Nat} (h : magF b = m * 2 ^ e) : svalF b = if negF b then -((m * 2 ^ e : Nat) : Int) else ((m * 2 ^ e : Nat) : Int) := by
  unfold svalF; rw [h]

theorem min_place (e k : Nat) : min (-1074 + (e : Int)) (-1074 + (k : Int)) = -1074 + ((min e k : Nat) : Int) := by omega

theorem order_num {b c : Nat} (hb : b < 18446744073709551616) (hc : c < 18446744073709551616) (h1 : kindF b < 3) (h2 : kindF c < 3) : dbl.order b c = some (compare (svalF b) (svalF c)) := by
  obtain ⟨m, e, r1, v1⟩ := read_num hb h1
  obtain ⟨n, k, r2, v2⟩ := read_num hc h2
  unfold Ieee.Format.order
  rw [r1, r2]
  unfold Ieee.Datum.order
  dsimp only
  rw [min_place, sval_eq v1, sval_eq v2, ← at_base (negF b) m e (min e k) (by omega), ← at_base (negF c) n k (min e k) (by omega), compare_scale _ _ _ (pow_pos2 _)]

theorem mag_num_lt {b : Nat} (h : kindF b < 3) : magF b < magF 9218868437227405312 := by
  rw [mag_rung]
  exact mag_strict ((kind_num b).1 h) (by decide)
theorem mag_inf_of {b : Nat} (h : kindF b = 3) : magF b = magF 9218868437227405312 := by
  rw [mag_rung, (kind_inf b).1 h]

/-- Of two floats that are no NaNs. -/
theorem order_vals {b c : Nat} (hb : b < 18446744073709551616) (hc : c < 18446744073709551616) (h1 : kindF b ≠ 4) (h2 : kindF c ≠ 4) : dbl.order b c = some (compare (svalF b) (svalF c)) := by
  have hk1 := kind_le b
  have hk2 := kind_le c
  have hpos : 0 < magF 9218868437227405312 := Nat.lt_of_le_of_lt (Nat.zero_le _) (mag_num_lt (b := 0) (by decide))
  by_cases c1 : kindF b < 3
  · by_cases c2 : kindF c < 3
    · exact order_num hb hc c1 c2
    · have c3 : kindF c = 3 := by omega
      obtain ⟨m, e, r1, v1⟩ := read_num hb c1
      have r2 := read_inf hc c3
      have l := mag_num_lt c1
      have i := mag_inf_of c3
      unfold Ieee.Format.order
      rw [r1, r2]
      unfold Ieee.Datum.order
      dsimp only
      congr 1
      unfold svalF
      rw [i]
      generalize magF 9218868437227405312 = I at *
      cases negF c <;> cases negF b <;> simp only [if_true, if_false, Bool.false_eq_true] <;> symm
      · exact icmp_lt (by omega)
      · exact icmp_lt (by omega)
      · exact icmp_gt (by omega)
      · exact icmp_gt (by omega)
  · have c1' : kindF b = 3 := by omega
    have r1 := read_inf hb c1'
    have i1 := mag_inf_of c1'
    by_cases c2 : kindF c < 3
    · obtain ⟨m, e, r2, v2⟩ := read_num hc c2
      have l := mag_num_lt c2
      unfold Ieee.Format.order
      rw [r1, r2]
      unfold Ieee.Datum.order
      dsimp only
      congr 1
      unfold svalF
      rw [i1]
      generalize magF 9218868437227405312 = I at *
      cases negF c <;> cases negF b <;> simp only [if_true, if_false, Bool.false_eq_true] <;> symm
      · exact icmp_gt (by omega)
      · exact icmp_lt (by omega)
      · exact icmp_gt (by omega)
      · exact icmp_lt (by omega)
    · have c3 : kindF c = 3 := by omega
      have r2 := read_inf hc c3
      have i2 := mag_inf_of c3
      unfold Ieee.Format.order
      rw [r1, r2]
      unfold Ieee.Datum.order
      dsimp only
      congr 1
      unfold svalF
      rw [i1, i2]
      generalize magF 9218868437227405312 = I at *
      cases negF c <;> cases negF b <;> simp only [if_true, if_false, Bool.false_eq_true] <;> symm
      · exact icmp_eq rfl
      · exact icmp_lt (by omega)
      · exact icmp_gt (by omega)
      · exact icmp_eq rfl

theorem order_self {b : Nat} (hb : b < 18446744073709551616) : (dbl.order b b == some .eq) = !(kindF b == 4) := by
  by_cases h : kindF b = 4
  · rw [order_nan hb hb (.inl h), h]; rfl
  · rw [order_vals hb hb h h, icmp_eq rfl]
    have : (kindF b == 4) = false := by rw [beq_eq_false_iff_ne]; exact h
    rw [this]; rfl
end Go.Proofs.YtcmdcclolkgjeaaDoor
