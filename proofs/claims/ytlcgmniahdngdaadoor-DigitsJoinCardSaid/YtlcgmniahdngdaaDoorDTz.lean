/- The walk of math/bits.TrailingZeros64. -/
import Derived.Test.YtlcgmniahdngdaaDoorDText
import Derived.Laws.BitsAllLaws
import Derived.Laws.BitsLemmas
import Derived.Lib.BitFns
import Derived.Lib.TrailingZeros
namespace Go.Proofs.YtlcgmniahdngdaaDoor
open Go.RowKit

def tabD : List Nat := [0, 1, 56, 2, 57, 49, 28, 3, 61, 58, 42, 50, 38, 29, 17, 4, 62, 47, 59, 36, 45, 43, 51, 22, 53, 39, 33, 30, 24, 18, 12, 5, 63, 55, 48, 27, 60, 41, 37, 16, 46, 35, 44, 21, 52, 32, 23, 11, 54, 26, 40, 15, 34, 20, 31, 10, 25, 14, 19, 9, 13, 8, 7, 6]
def TabD (w : World) : Prop := ∀ (i k : Nat), tabD[i]? = some k → w.cell? ⟨7, i, none⟩ = some (.int .u8 (k : Int))

theorem tab_at : ∀ k, k < 64 → tabD[2 ^ k * 285870213051353865 % 18446744073709551616 / 288230376151711744]? = some k := by decide +kernel

theorem tz_raw (x k : Nat) (hx : x < 18446744073709551616) (m : Nat) (h : x = 2 ^ k * (2 * m + 1)) :
    IntKind.u64.wrap (bits BinOp.and IntKind.u64 (x : Int) (IntKind.u64.wrap (-(x : Int))) * 285870213051353865) / 288230376151711744 = ((2 ^ k * 285870213051353865 % 18446744073709551616 / 288230376151711744 : Nat) : Int) := by
  have hpos : 0 < x := by rw [h]; exact Nat.mul_pos (Nat.two_pow_pos k) (by omega)
  have e1 : IntKind.u64.wrap (-(x : Int)) = ((18446744073709551616 - x : Nat) : Int) := by rw [IntKind.wrap_u64]; omega
  have e2 : x &&& (18446744073709551616 - x) = 2 ^ k := by
    have := Lib.and_neg 64 k m (by rw [← h]; exact hx)
    rw [← h] at this
    exact this
  rw [e1, u64_and_nat x _ hx (by omega), e2, IntKind.wrap_u64]
  omega

theorem tz_core (x k idx : Nat) (w : World) (hz : ((x : Int) == 0) = false) (hk : k < 64) (hlt : idx < 64) (hcell : w.cell? ⟨7, idx, none⟩ = some (.int .u8 (k : Int)))
    (key : IntKind.u64.wrap (bits BinOp.and IntKind.u64 (x : Int) (IntKind.u64.wrap (-(x : Int))) * 285870213051353865) / 288230376151711744 = (idx : Int)) :
    Calls Tryd.prog 83 #[.int .u64 (x : Int)] w fun e w' => e = .returned (.int .i64 (k : Int)) ∧ w = w' := by
  go_enter Tryd.func83, Tryd.ntmps83
  go_wp2_with (simp only [key])
  go_ret
  exact ⟨rfl, rfl⟩

theorem tz_zero (w : World) :
    Calls Tryd.prog 83 #[.int .u64 0] w fun e w' => e = .returned (.int .i64 64) ∧ w = w' := by
  go_enter Tryd.func83, Tryd.ntmps83
  go_wp2
  go_ret
  exact ⟨rfl, rfl⟩

theorem tz_odd (x k m : Nat) (hx : x < 18446744073709551616) (h : x = 2 ^ k * (2 * m + 1)) (w : World) (hT : TabD w) :
    Calls Tryd.prog 83 #[.int .u64 (x : Int)] w fun e w' => e = .returned (.int .i64 (k : Int)) ∧ w = w' := by
  have hpos : 0 < x := by rw [h]; exact Nat.mul_pos (Nat.two_pow_pos k) (by omega)
  have hk : k < 64 := by
    rcases Nat.lt_or_ge k 64 with h1 | h1
    · exact h1
    · have h2 : 2 ^ 64 ≤ 2 ^ k := Nat.pow_le_pow_right (by decide) h1
      have h3 : 2 ^ k * 1 ≤ 2 ^ k * (2 * m + 1) := Nat.mul_le_mul_left _ (by omega)
      rw [← h] at h3
      exact absurd (Nat.le_trans (Nat.le_trans h2 (by omega : 2 ^ k ≤ 2 ^ k * 1)) h3) (Nat.not_le.2 hx)
  have hi := tab_at k hk
  exact tz_core x k _ w (by rw [beq_eq_false_iff_ne]; omega) hk (List.getElem?_eq_some_iff.1 hi).1 (hT _ k hi) (tz_raw x k hx m h)
end Go.Proofs.YtlcgmniahdngdaaDoor
