/- Plain lemmas: floats with the other sign. -/
import Derived.Test.YtcmdcclolkgjeaaDoorFLives
import Derived.Laws.BitsAllLaws
namespace Go.Proofs.YtcmdcclolkgjeaaDoor
open Go.RowKit

def flipF (b : Nat) : Nat := b ^^^ 9223372036854775808
theorem neg_flip (b : Nat) : Op.negFloat .f64 b = flipF b := rfl
theorem flip_low {b : Nat} (h : b < 9223372036854775808) : flipF b = b + 9223372036854775808 := by
  unfold flipF
  rw [show (9223372036854775808 : Nat) = 2 ^ 63 * 1 by rfl]
  have h1 := Nat.two_pow_add_eq_or_of_lt (i := 63) (b := b) h 1
  rw [Nat.add_comm, h1]
  apply Nat.eq_of_testBit_eq
  intro i
  rw [Nat.testBit_xor, Nat.testBit_or]
  by_cases hi : i < 63
  · have : (2 ^ 63 * 1).testBit i = false := by rw [Nat.mul_one, Nat.testBit_two_pow_of_ne (by omega)]
    rw [this]; simp
  · have h0 : b.testBit i = false := Nat.testBit_lt_two_pow (Nat.lt_of_lt_of_le h (Nat.pow_le_pow_right (n := 2) (by decide) (by omega : 63 ≤ i)))
    rw [h0]; simp

theorem xor_twice (x c : Nat) : (x ^^^ c) ^^^ c = x := by rw [Nat.xor_assoc, Nat.xor_self, Nat.xor_zero]
theorem flip_flip (x : Nat) : flipF (flipF x) = x := xor_twice x 9223372036854775808
theorem flip_eq {b : Nat} (hb : b < 18446744073709551616) : flipF b = if 9223372036854775808 ≤ b then b - 9223372036854775808 else b + 9223372036854775808 := by
  by_cases h : 9223372036854775808 ≤ b
  · rw [if_pos h]
    obtain ⟨c, hc⟩ : ∃ c, c = b - 9223372036854775808 := ⟨_, rfl⟩
    have h1 := flip_low (b := c) (by omega)
    have h2 := flip_flip c
    rw [h1, show c + 9223372036854775808 = b by omega] at h2
    rw [h2, hc]
  · rw [if_neg h, flip_low (by omega)]
theorem flip_neg {b : Nat} (hb : b < 18446744073709551616) : flipF b < 18446744073709551616 ∧ rungF (flipF b) = rungF b ∧ negF (flipF b) = !negF b := by
  have hd : flipF b = if 9223372036854775808 ≤ b then b - 9223372036854775808 else b + 9223372036854775808 := flip_eq hb
  rw [hd]
  unfold rungF negF
  by_cases h : 9223372036854775808 ≤ b
  · rw [if_pos h]
    refine ⟨by omega, by omega, ?_⟩
    rw [decide_eq_true h]; simp; omega
  · rw [if_neg h]
    refine ⟨by omega, by omega, ?_⟩
    rw [decide_eq_false h]; simp

theorem kind_flip {b : Nat} (hb : b < 18446744073709551616) : kindF (flipF b) = kindF b ∧ magF (flipF b) = magF b := by
  obtain ⟨_, h, _⟩ := flip_neg hb
  unfold kindF
  rw [expo_rung (flipF b), frac_rung (flipF b), expo_rung b, frac_rung b, mag_rung (flipF b), mag_rung b, h]
  exact ⟨rfl, rfl⟩
theorem run_neg_float {P : Program} (b : Nat) (w : World) : (Op.unary .neg (.float .f64 b)).run P w = .ok (.float .f64 (flipF b)) w := rfl

end Go.Proofs.YtcmdcclolkgjeaaDoor
