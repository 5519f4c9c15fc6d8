/- Plain lemmas: the order of floats and their keys; the next floats. -/
import Derived.Test.YtcmdcclolkgjeaaDoorFSteps
namespace Go.Proofs.YtcmdcclolkgjeaaDoor
open Go.RowKit

theorem sval_pos {b : Nat} (h : b < 9223372036854775808) : svalF b = (magF b : Int) := by
  unfold svalF negF
  rw [decide_eq_false (by omega)]; rfl
theorem sval_neg {b : Nat} (h : 9223372036854775808 ≤ b) (h2 : b < 18446744073709551616) : svalF b = -(magF (b - 9223372036854775808) : Int) := by
  obtain ⟨c, hc⟩ : ∃ c, c = b - 9223372036854775808 := ⟨_, rfl⟩
  have hr : rungF b = c := by unfold rungF; omega
  rw [← hc]
  have hn : negF b = true := decide_eq_true h
  unfold svalF
  rw [hn, if_pos rfl, mag_rung b, hr]
theorem mag_zero0 : magF 0 = 0 := by decide
/-- Lesser numbers have lesser keys. -/
theorem key_of_lt {a b : Nat} (ha : a < 18446744073709551616) (hb : b < 18446744073709551616) (h : svalF a < svalF b) : keyN a < keyN b := by
  unfold keyN
  by_cases h1 : 9223372036854775808 ≤ a
  · rw [if_pos h1]
    by_cases h2 : 9223372036854775808 ≤ b
    · rw [if_pos h2]
      rw [sval_neg h1 ha, sval_neg h2 hb] at h
      rcases Nat.lt_or_ge (b - 9223372036854775808) (a - 9223372036854775808) with h3 | h3
      · omega
      · have := mag_mono h3 (by omega)
        omega
    · rw [if_neg h2]; omega
  · rw [if_neg h1]
    by_cases h2 : 9223372036854775808 ≤ b
    · rw [sval_pos (by omega), sval_neg h2 hb] at h
      omega
    · rw [if_neg h2]
      rw [sval_pos (by omega), sval_pos (by omega)] at h
      rcases Nat.lt_or_ge a b with h3 | h3
      · omega
      · have := mag_mono h3 (by omega)
        omega
/-- .. and the other way round, but for the noughts. -/
theorem lt_of_key {a b : Nat} (ha : a < 18446744073709551616) (hb : b < 18446744073709551616) (h : keyN a < keyN b) (h0 : kindF a ≠ 0 ∨ kindF b ≠ 0) : svalF a < svalF b := by
  unfold keyN at h
  by_cases h1 : 9223372036854775808 ≤ a
  · rw [if_pos h1] at h
    by_cases h2 : 9223372036854775808 ≤ b
    · rw [if_pos h2] at h
      rw [sval_neg h1 ha, sval_neg h2 hb]
      have := mag_strict (b := b - 9223372036854775808) (c := a - 9223372036854775808) (by omega) (by omega)
      omega
    · rw [sval_neg h1 ha, sval_pos (by omega)]
      rcases h0 with h0 | h0
      · rw [Ne, kind_zero] at h0
        unfold rungF at h0
        have := mag_strict (b := 0) (c := a - 9223372036854775808) (by omega) (by omega)
        omega
      · rw [Ne, kind_zero] at h0
        unfold rungF at h0
        have := mag_strict (b := 0) (c := b) (by omega) (by omega)
        omega
  · rw [if_neg h1] at h
    by_cases h2 : 9223372036854775808 ≤ b
    · rw [if_pos h2] at h; omega
    · rw [if_neg h2] at h
      rw [sval_pos (by omega), sval_pos (by omega)]
      have := mag_strict (b := a) (c := b) (by omega) (by omega)
      omega
theorem key_inj {a b : Nat} (ha : a < 18446744073709551616) (hb : b < 18446744073709551616) (h : keyN a = keyN b) : a = b := by
  unfold keyN at h
  (repeat' split at h) <;> omega
theorem order_lt {a b : Nat} (ha : a < 18446744073709551616) (hb : b < 18446744073709551616) (h : (FloatKind.f64.format.order a b == some .lt) = true) : svalF a < svalF b ∧ kindF a ≠ 4 ∧ kindF b ≠ 4 := by
  by_cases h1 : kindF a = 4
  · rw [show FloatKind.f64.format.order a b = none from order_nan ha hb (.inl h1)] at h; cases h
  · by_cases h2 : kindF b = 4
    · rw [show FloatKind.f64.format.order a b = none from order_nan ha hb (.inr h2)] at h; cases h
    · rw [show FloatKind.f64.format.order a b = some (compare (svalF a) (svalF b)) from order_vals ha hb h1 h2] at h
      refine ⟨?_, h1, h2⟩
      rcases Int.lt_trichotomy (svalF a) (svalF b) with h3 | h3 | h3
      · exact h3
      · rw [icmp_eq h3] at h; cases h
      · rw [icmp_gt h3] at h; cases h
theorem order_gt {a b : Nat} (ha : a < 18446744073709551616) (hb : b < 18446744073709551616) (h : (FloatKind.f64.format.order a b == some .gt) = true) : svalF b < svalF a ∧ kindF a ≠ 4 ∧ kindF b ≠ 4 := by
  by_cases h1 : kindF a = 4
  · rw [show FloatKind.f64.format.order a b = none from order_nan ha hb (.inl h1)] at h; cases h
  · by_cases h2 : kindF b = 4
    · rw [show FloatKind.f64.format.order a b = none from order_nan ha hb (.inr h2)] at h; cases h
    · rw [show FloatKind.f64.format.order a b = some (compare (svalF a) (svalF b)) from order_vals ha hb h1 h2] at h
      refine ⟨?_, h1, h2⟩
      rcases Int.lt_trichotomy (svalF a) (svalF b) with h3 | h3 | h3
      · rw [icmp_lt h3] at h; cases h
      · rw [icmp_eq h3] at h; cases h
      · exact h3
theorem lt_order {a b : Nat} (ha : a < 18446744073709551616) (hb : b < 18446744073709551616) (h1 : kindF a ≠ 4) (h2 : kindF b ≠ 4) (h : svalF a < svalF b) : (FloatKind.f64.format.order a b == some .lt) = true := by
  rw [show FloatKind.f64.format.order a b = some (compare (svalF a) (svalF b)) from order_vals ha hb h1 h2, icmp_lt h]; rfl
theorem gt_order {a b : Nat} (ha : a < 18446744073709551616) (hb : b < 18446744073709551616) (h1 : kindF a ≠ 4) (h2 : kindF b ≠ 4) (h : svalF b < svalF a) : (FloatKind.f64.format.order a b == some .gt) = true := by
  rw [show FloatKind.f64.format.order a b = some (compare (svalF a) (svalF b)) from order_vals ha hb h1 h2, icmp_gt h]; rfl

theorem up_pos {x : Nat} (h0 : 0 < x) (h1 : x < 9218868437227405312) : upF x = x + 1 := by
  have hk : kindF x ≠ 4 := by rw [Ne, kind_nan]; unfold rungF; omega
  have hz : kindF x ≠ 0 := by rw [Ne, kind_zero]; unfold rungF; omega
  unfold upF
  rw [if_neg (by rintro (h | h); exact hk h; omega), if_neg hz, if_neg (by omega)]
theorem up_neg {x : Nat} (h0 : 9223372036854775808 < x) (h1 : x ≤ 18442240474082181120) : upF x = x - 1 := by
  have hk : kindF x ≠ 4 := by rw [Ne, kind_nan]; unfold rungF; omega
  have hz : kindF x ≠ 0 := by rw [Ne, kind_zero]; unfold rungF; omega
  unfold upF
  rw [if_neg (by rintro (h | h); exact hk h; omega), if_neg hz, if_pos (by omega)]
theorem down_pos {x : Nat} (h0 : 0 < x) (h1 : x ≤ 9218868437227405312) : downF x = x - 1 := by
  have hk : kindF x ≠ 4 := by rw [Ne, kind_nan]; unfold rungF; omega
  unfold downF
  rw [if_neg hk, flip_eq (b := x) (by omega), if_neg (by omega), up_neg (by omega) (by omega), flip_eq (by omega), if_pos (by omega)]
  omega
theorem down_neg {x : Nat} (h0 : 9223372036854775808 < x) (h1 : x < 18442240474082181120) : downF x = x + 1 := by
  have hk : kindF x ≠ 4 := by rw [Ne, kind_nan]; unfold rungF; omega
  unfold downF
  rw [if_neg hk, flip_eq (b := x) (by omega), if_pos (by omega), up_pos (by omega) (by omega), flip_eq (by omega), if_neg (by omega)]
  omega

theorem key_low {x : Nat} (h : ¬ 9223372036854775808 ≤ x) : keyN x = x + 9223372036854775808 := if_neg h
theorem key_high {x : Nat} (h : 9223372036854775808 ≤ x) : keyN x = 18446744073709551615 - x := if_pos h
/-- A number that is no nought, and its neighbours. -/
theorem near_ex {a : Nat} (ha : a < 18446744073709551616) (h4 : kindF a ≠ 4) (h3 : kindF a ≠ 3) (h0 : kindF a ≠ 0) : ∃ u d, upF a = u ∧ downF a = d ∧ u < 18446744073709551616 ∧ d < 18446744073709551616 ∧ kindF u ≠ 4 ∧ kindF d ≠ 4 ∧ keyN u = keyN a + 1 ∧ keyN d + 1 = keyN a ∧
    (kindF u ≠ 0 → downF u = a) ∧ (kindF d ≠ 0 → upF d = a) := by
  rw [Ne, kind_nan] at h4
  rw [Ne, kind_inf] at h3
  rw [Ne, kind_zero] at h0
  unfold rungF at h4 h3 h0
  by_cases hs : 9223372036854775808 ≤ a
  · refine ⟨a - 1, a + 1, up_neg (by omega) (by omega), down_neg (by omega) (by omega), by omega, by omega, ?_, ?_, ?_, ?_, ?_, ?_⟩
    · rw [Ne, kind_nan]; unfold rungF; omega
    · rw [Ne, kind_nan]; unfold rungF; omega
    · have h1 := key_high (x := a - 1) (by omega); have h2 := key_high hs; omega
    · have h1 := key_high (x := a + 1) (by omega); have h2 := key_high hs; omega
    · intro h; rw [Ne, kind_zero] at h; unfold rungF at h; rw [down_neg (by omega) (by omega)]; omega
    · intro h; rw [up_neg (by omega) (by omega)]; exact Nat.add_sub_cancel a 1
  · refine ⟨a + 1, a - 1, up_pos (by omega) (by omega), down_pos (by omega) (by omega), by omega, by omega, ?_, ?_, ?_, ?_, ?_, ?_⟩
    · rw [Ne, kind_nan]; unfold rungF; omega
    · rw [Ne, kind_nan]; unfold rungF; omega
    · have h1 := key_low (x := a + 1) (by omega); have h2 := key_low hs; omega
    · have h1 := key_low (x := a - 1) (by omega); have h2 := key_low hs; omega
    · intro h; rw [down_pos (by omega) (by omega)]; exact Nat.add_sub_cancel a 1
    · intro h; rw [Ne, kind_zero] at h; unfold rungF at h; rw [up_pos (by omega) (by omega)]; omega
end Go.Proofs.YtcmdcclolkgjeaaDoor
