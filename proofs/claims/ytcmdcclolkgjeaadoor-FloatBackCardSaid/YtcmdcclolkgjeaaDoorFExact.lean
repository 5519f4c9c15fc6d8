/- A number that the format has is rounded to itself; products; the float of a whole number. -/
import Derived.Test.YtcmdcclolkgjeaaDoorFMag
namespace Go.Proofs.YtcmdcclolkgjeaaDoor
open Go.RowKit

theorem log_mul {m : Nat} (k : Nat) (hm : m ≠ 0) : (m * 2 ^ k).log2 = m.log2 + k := by
  have hp := pow_pos2 k
  refine (Nat.log2_eq_iff (Nat.mul_ne_zero hm (by omega))).2 ⟨?_, ?_⟩
  · rw [Nat.pow_add]; exact Nat.mul_le_mul_right _ (Nat.log2_self_le hm)
  · rw [show m.log2 + k + 1 = (m.log2 + 1) + k by omega, Nat.pow_add]
    exact Nat.mul_lt_mul_of_pos_right Nat.lt_log2_self hp
theorem cut_zero (neg : Bool) (n : Nat) : Ieee.Toward.even.cut neg n 0 = n := by
  unfold Ieee.Toward.cut
  simp [Nat.mod_one]
theorem cut_whole (neg : Bool) (q d : Nat) (hq : 0 < q) : Ieee.Toward.even.cut neg (q * 2 ^ d) d = q := by
  have hp := pow_pos2 d
  have hl : min d ((q * 2 ^ d).log2 + 2) = d := by rw [log_mul d (by omega)]; omega
  unfold Ieee.Toward.cut
  simp only [hl, Nat.shiftLeft_eq, Nat.one_mul, Nat.mul_div_cancel _ hp, Nat.mul_mod_left]
  have h1 : decide (2 ^ d < 2 * 0) = false := by rw [decide_eq_false_iff_not]; omega
  have h2 : (2 ^ d == 2 * 0) = false := by rw [beq_eq_false_iff_ne]; omega
  rw [h1, h2]; rfl
theorem word_eq (neg : Bool) (r : Nat) : dbl.word neg r = if neg then r + 9223372036854775808 else r := by
  unfold Ieee.Format.word
  rw [dbl_sw]
  cases neg
  · rfl
  · simp only [if_true]; omega
theorem bits_rung {b : Nat} (hb : b < 18446744073709551616) : b = if negF b then rungF b + 9223372036854775808 else rungF b := by
  unfold negF rungF
  by_cases h : 9223372036854775808 ≤ b
  · rw [if_pos (decide_eq_true h)]; omega
  · rw [if_neg (by rw [decide_eq_true_eq]; exact h)]; omega

/-- A number that the format has is rounded to itself. -/
theorem nearest_exact {b : Nat} (hb : b < 18446744073709551616) (h : kindF b < 3) (m x y : Nat) (hm : m * 2 ^ x = magF b * 2 ^ y) (place : Int) (hp : place = -1074 + (x : Int) - (y : Int)) : dbl.nearest (negF b) m place = b := by
  have hr := (kind_num b).1 h
  obtain ⟨a, q, e1, hq, ha, hl⟩ := mag_form (rungF b) (by omega)
  have hM : magF b = q * 2 ^ a := by rw [mag_rung, e1]; exact mag_at a q hq ha hl
  rw [hM, Nat.mul_assoc, ← Nat.pow_add] at hm
  have hbw := bits_rung hb
  unfold Ieee.Format.nearest
  by_cases h0 : m = 0
  · rw [if_pos h0, word_eq]
    have hq0 : q = 0 := by
      rw [h0, Nat.zero_mul] at hm
      rcases Nat.mul_eq_zero.1 hm.symm with h1 | h1
      · exact h1
      · have := pow_pos2 (a + y); omega
    have hr0 : rungF b = 0 := by rcases ha with rfl | h1 <;> omega
    rw [hr0] at hbw
    exact hbw.symm
  · have hq0 : 0 < q := by
      rcases Nat.eq_zero_or_pos q with h1 | h1
      · rw [h1, Nat.zero_mul] at hm
        rcases Nat.mul_eq_zero.1 hm with h2 | h2
        · exact absurd h2 h0
        · have := pow_pos2 x; omega
      · exact h1
    have hlog : m.log2 + x = q.log2 + (a + y) := by rw [← log_mul x h0, ← log_mul (a + y) (by omega), hm]
    have hq52 : q.log2 ≤ 52 := by
      have := (Nat.log2_lt (k := 53) (by omega : q ≠ 0)).2 (by rw [show (2 : Nat) ^ 53 = 9007199254740992 by rfl]; exact hq)
      omega
    have hqa : a = 0 ∨ q.log2 = 52 := by
      rcases ha with h1 | h1
      · exact .inl h1
      · have := (Nat.le_log2 (k := 52) (by omega : q ≠ 0)).2 (by rw [show (2 : Nat) ^ 52 = 4503599627370496 by rfl]; exact h1)
        exact .inr (by omega)
    rw [if_neg h0, dbl_least, dbl_frac, dbl_bin, dbl_inf]
    have hlast : max (place + (m.log2 : Int) - ((52 : Nat) : Int)) (-1074) = -1074 + (a : Int) := by omega
    rw [hlast, word_eq]
    have hk : Ieee.Toward.even.cut (negF b) (m <<< (place - (-1074 + (a : Int))).toNat) (-1074 + (a : Int) - place).toNat = q := by
      rw [Nat.shiftLeft_eq]
      rcases Nat.le_total (a + y) x with hc | hc
      · rw [show (-1074 + (a : Int) - place).toNat = 0 by omega, cut_zero, show (place - (-1074 + (a : Int))).toNat = x - (a + y) by omega]
        refine Nat.eq_of_mul_eq_mul_right (pow_pos2 (a + y)) ?_
        rw [Nat.mul_assoc, ← Nat.pow_add, show x - (a + y) + (a + y) = x by omega]
        exact hm
      · rw [show (-1074 + (a : Int) - place).toNat = a + y - x by omega, show (place - (-1074 + (a : Int))).toNat = 0 by omega, Nat.pow_zero, Nat.mul_one]
        have hmq : m = q * 2 ^ (a + y - x) := by
          refine Nat.eq_of_mul_eq_mul_right (pow_pos2 x) ?_
          rw [Nat.mul_assoc, ← Nat.pow_add, show a + y - x + x = a + y by omega]
          exact hm
        rw [hmq]
        exact cut_whole _ _ _ hq0
    rw [hk, show (-1074 + (a : Int) - -1074).toNat = a by omega, ← e1, Nat.min_eq_left (by omega)]
    exact hbw.symm

/-- A product that the format has. -/
theorem mul_exact {c d b : Nat} (hc : c < 18446744073709551616) (hd : d < 18446744073709551616) (hb : b < 18446744073709551616) (h1 : kindF c < 3) (h2 : kindF d < 3) (h3 : kindF b < 3)
    (hn : (negF c ^^ negF d) = negF b) (k : Nat) (hk : k = 1074) (hm : magF c * magF d = magF b * 2 ^ k) : dbl.mul c d = some b := by
  obtain ⟨m, e, r1, v1⟩ := read_num hc h1
  obtain ⟨n, f, r2, v2⟩ := read_num hd h2
  unfold Ieee.Format.mul
  rw [r1, r2]
  have hv : m * n * 2 ^ (e + f) = magF b * 2 ^ k := by
    rw [← hm, v1, v2, Nat.pow_add]
    simp only [Nat.mul_assoc, Nat.mul_left_comm]
  have := nearest_exact hb h3 (m * n) (e + f) k hv (-1074 + (e : Int) + (-1074 + (f : Int))) (by omega)
  rw [← hn] at this
  exact congrArg some this

/-- The float of a whole number that is not nought. -/
def flN (m : Nat) : Nat := (1022 + m.log2) * 4503599627370496 + m * 2 ^ (52 - m.log2)
theorem log_52 {m : Nat} (h0 : m ≠ 0) (hm : m < 9007199254740992) : m.log2 ≤ 52 := by
  have := (Nat.log2_lt (k := 53) h0).2 (by rw [show (2 : Nat) ^ 53 = 9007199254740992 by rfl]; exact hm)
  omega
theorem top_form {m : Nat} (h0 : m ≠ 0) (hm : m < 9007199254740992) : 4503599627370496 ≤ m * 2 ^ (52 - m.log2) ∧ m * 2 ^ (52 - m.log2) < 9007199254740992 := by
  have hL := log_52 h0 hm
  constructor
  · have h1 := Nat.mul_le_mul_right (2 ^ (52 - m.log2)) (Nat.log2_self_le h0)
    rw [← Nat.pow_add, show m.log2 + (52 - m.log2) = 52 by omega] at h1
    exact h1
  · have h1 := Nat.mul_lt_mul_of_pos_right (Nat.lt_log2_self (n := m)) (pow_pos2 (52 - m.log2))
    rw [← Nat.pow_add, show m.log2 + 1 + (52 - m.log2) = 53 by omega] at h1
    exact h1
theorem form_of {a q : Nat} (hq : 4503599627370496 ≤ q) (hq2 : q < 9007199254740992) (ha : a < 2046) : a * 4503599627370496 + q < 9218868437227405312 ∧ expo (a * 4503599627370496 + q) = a + 1 ∧ frac (a * 4503599627370496 + q) = q - 4503599627370496 ∧ kindF (a * 4503599627370496 + q) < 3 ∧ negF (a * 4503599627370496 + q) = false ∧ magF (a * 4503599627370496 + q) = q * 2 ^ a := by
  have h1 : a * 4503599627370496 + q < 9218868437227405312 := by omega
  refine ⟨h1, by unfold expo; omega, by unfold frac; omega, (kind_num _).2 (by unfold rungF; omega), by unfold negF; rw [decide_eq_false_iff_not]; omega, mag_at a q hq2 (.inr hq) (by omega)⟩
theorem fl_mag {m : Nat} (h0 : m ≠ 0) (hm : m < 9007199254740992) (k : Nat) (hk : k = 1074) : magF (flN m) = m * 2 ^ k := by
  obtain ⟨h1, h2⟩ := top_form h0 hm
  have hL := log_52 h0 hm
  have := (form_of (a := 1022 + m.log2) h1 h2 (by omega)).2.2.2.2.2
  unfold flN
  rw [this, Nat.mul_assoc, ← Nat.pow_add, show 52 - m.log2 + (1022 + m.log2) = k by omega]
theorem to_float {m : Nat} (h0 : m ≠ 0) (hm : m < 9007199254740992) : FloatKind.f64.nearest (m : Int) = flN m := by
  obtain ⟨h1, h2⟩ := top_form h0 hm
  have hL := log_52 h0 hm
  obtain ⟨i1, i2, i3, i4, i5, i6⟩ := form_of (a := 1022 + m.log2) h1 h2 (by omega)
  have i7 := fl_mag h0 hm 1074 rfl
  change flN m < 9218868437227405312 at i1
  change kindF (flN m) < 3 at i4
  change negF (flN m) = false at i5
  have h := nearest_exact (b := flN m) (by omega) i4 m 1074 0 (by rw [i7, Nat.pow_zero, Nat.mul_one]) 0 (by omega)
  rw [i5] at h
  have e1 : decide ((m : Int) < 0) = false := by rw [decide_eq_false_iff_not]; omega
  unfold FloatKind.nearest
  rw [e1]
  exact h
theorem to_float0 : FloatKind.f64.nearest ((0 : Nat) : Int) = 0 := by rfl

/-- Two numbers without a sign are one, if they have one value. -/
theorem mag_inj {b c : Nat} (hb : b < 9223372036854775808) (hc : c < 9223372036854775808) (h : magF b = magF c) : b = c := by
  rcases Nat.lt_trichotomy b c with h1 | h1 | h1
  · have := mag_strict h1 hc; omega
  · exact h1
  · have := mag_strict h1 hb; omega

/-- The order of two numbers without a sign is their words'. -/
theorem order_low {b c : Nat} (hb : b ≤ 9218868437227405312) (hc : c ≤ 9218868437227405312) : dbl.order b c = some (if b < c then .lt else if b = c then .eq else .gt) := by
  have k1 : ∀ {x : Nat}, x ≤ 9218868437227405312 → kindF x ≠ 4 := fun {x} hx h => by have := (kind_nan x).1 h; unfold rungF at this; omega
  have k2 : ∀ {x : Nat}, x ≤ 9218868437227405312 → svalF x = (magF x : Int) := fun {x} hx => by
    unfold svalF
    rw [show negF x = false by unfold negF; rw [decide_eq_false_iff_not]; omega]
    rfl
  rw [order_vals (by omega) (by omega) (k1 hb) (k1 hc), k2 hb, k2 hc]
  rcases Nat.lt_trichotomy b c with h | h | h
  · have := mag_strict h (by omega)
    rw [if_pos h, icmp_lt (by omega)]
  · rw [if_neg (by omega), if_pos h, h, icmp_eq rfl]
  · have := mag_strict h (by omega)
    rw [if_neg (by omega), if_neg (by omega), icmp_gt (by omega)]
theorem order_under {b : Nat} (hb : b ≤ 9218868437227405312) : dbl.order b 18442240474082181119 = some .gt := by
  have k1 : ∀ {x : Nat}, x ≤ 9218868437227405312 → kindF x ≠ 4 := fun {x} hx h => by have := (kind_nan x).1 h; unfold rungF at this; omega
  rw [order_vals (by omega) (by omega) (k1 hb) (fun h => by have := (kind_nan _).1 h; unfold rungF at this; omega)]
  have h1 : svalF b = (magF b : Int) := by
    unfold svalF
    rw [show negF b = false by unfold negF; rw [decide_eq_false_iff_not]; omega]
    rfl
  have h2 : svalF 18442240474082181119 = -(magF 9218868437227405311 : Int) := by
    unfold svalF
    rw [show negF 18442240474082181119 = true by rfl, mag_rung 18442240474082181119]
    rfl
  have h3 := mag_strict (b := 0) (c := 9218868437227405311) (by decide) (by decide)
  rw [h1, h2, icmp_gt (by omega)]
end Go.Proofs.YtcmdcclolkgjeaaDoor
