/- The walks of package float that every sum needs: bits, kinds, signs. -/
import Derived.Test.YtcmdcclolkgjeaaDoorBase
import Derived.Laws.BitsAllLaws
namespace Go.Proofs.YtcmdcclolkgjeaaDoor
open Go.RowKit

theorem call_bits (b : Nat) (w : World) : (callFunc 35 #[.float .f64 b]).run Tryd.prog w = .ok (.value (.int .u64 (b : Int))) w := by kernel_rfl
theorem call_of (b : Nat) (w : World) : (callFunc 33 #[.int .u64 (b : Int)]).run Tryd.prog w = .ok (.value (.float .f64 b)) w := by kernel_rfl

def expo (b : Nat) : Nat := b / 4503599627370496 % 2048
def frac (b : Nat) : Nat := b % 4503599627370496
/-- A float's kind: 0 zero, 1 small, 2 plain, 3 infinite, 4 NaN. -/
def kindF (b : Nat) : Nat := if expo b = 2047 then (if frac b = 0 then 3 else 4) else if expo b = 0 then (if frac b = 0 then 0 else 1) else 2
/-- Has it a sign? -/
def negF (b : Nat) : Bool := decide (9223372036854775808 ≤ b)

set_option maxRecDepth 100000 in
set_option maxHeartbeats 400000 in
theorem bits_any (b : Nat) (w : World) :
    Calls Tryd.prog 14 #[.float .f64 b] w fun e w' => e = .returned (.int .u64 (b : Int)) ∧ w = w' := by
  have h := call_bits b
  go_enter Tryd.func14, Tryd.ntmps14
  go_wp2
  go_ret
  exact ⟨rfl, rfl⟩
set_option maxRecDepth 100000 in
set_option maxHeartbeats 400000 in
theorem of_any (b : Nat) (w : World) :
    Calls Tryd.prog 10 #[.int .u64 (b : Int)] w fun e w' => e = .returned (.float .f64 b) ∧ w = w' := by
  have h := call_of b
  go_enter Tryd.func10, Tryd.ntmps10
  go_wp2
  go_ret
  exact ⟨rfl, rfl⟩

theorem expo_raw (b : Nat) (hb : b < 18446744073709551616) : bits .and .u64 ((b : Int) / 4503599627370496) 2047 = (expo b : Int) := by
  have h := u64_and_nat (b / 4503599627370496) 2047 (by omega) (by decide)
  rw [Nat.and_two_pow_sub_one_eq_mod _ 11] at h
  rw [show (b : Int) / 4503599627370496 = ((b / 4503599627370496 : Nat) : Int) by omega]
  exact h
theorem frac_raw (b : Nat) (hb : b < 18446744073709551616) : bits .and .u64 (b : Int) 4503599627370495 = (frac b : Int) := by
  have h := u64_and_nat b 4503599627370495 hb (by decide)
  rw [Nat.and_two_pow_sub_one_eq_mod _ 52] at h
  exact h
theorem sign_raw (b : Nat) (hb : b < 18446744073709551616) : bits .and .u64 (b : Int) 9223372036854775808 = if negF b then 9223372036854775808 else 0 := by
  have h := u64_and_nat b 9223372036854775808 hb (by decide)
  have e : b &&& 9223372036854775808 = if negF b then 9223372036854775808 else 0 := by
    have ht : b.testBit 63 = negF b := by
      unfold negF
      rw [Nat.testBit_eq_decide_div_mod_eq, Bool.eq_iff_iff]; simp only [decide_eq_true_eq]; omega
    rw [← ht]
    apply Nat.eq_of_testBit_eq
    intro j
    rw [show (9223372036854775808 : Nat) = 2 ^ 63 by rfl, Nat.testBit_and]
    by_cases hj : j = 63
    · subst hj; cases hb : b.testBit 63 <;> simp
    · rw [Nat.testBit_two_pow_of_ne (Ne.symm hj)]
      split
      · rw [Nat.testBit_two_pow_of_ne (Ne.symm hj)]; simp
      · simp
  rw [e] at h
  rw [show (9223372036854775808 : Int) = ((9223372036854775808 : Nat) : Int) by rfl, h]
  cases negF b <;> rfl

set_option maxRecDepth 100000 in
set_option maxHeartbeats 400000 in
theorem kind_any (b : Nat) (hb : b < 18446744073709551616) (w : World) :
    Calls Tryd.prog 20 #[.float .f64 b] w fun e w' => e = .returned (.int .i64 (kindF b : Int)) ∧ w = w' := by
  have e1 := expo_raw b hb
  have e2 := frac_raw b hb
  have hk : kindF b = if expo b = 2047 then (if frac b = 0 then 3 else 4) else if expo b = 0 then (if frac b = 0 then 0 else 1) else 2 := rfl
  have hx : expo b < 2048 := Nat.mod_lt _ (by decide)
  have hc := bits_any b w
  have HC := Lib.hid hc
  clear hc
  generalize expo b = E at *
  generalize frac b = F at *
  by_cases h1 : E = 2047
  · subst h1
    by_cases h2 : F = 0
    · subst h2
      rw [hk]
      clear hk
      go_enter Tryd.func20, Tryd.ntmps20
      go_wp2_with (go_at_call 14; refine (HC.out).mono ?_; rintro e w' ⟨rfl, rfl⟩)
      go_ret
      exact ⟨rfl, rfl⟩
    · have g2 : ((F : Int) != 0) = true := by simp [h2]
      rw [hk, if_pos rfl, if_neg h2]
      clear hk
      go_enter Tryd.func20, Tryd.ntmps20
      go_wp2_with (go_at_call 14; refine (HC.out).mono ?_; rintro e w' ⟨rfl, rfl⟩)
      go_ret
      exact ⟨rfl, rfl⟩
  · have g1 : ((E : Int) == 2047) = false := by rw [beq_eq_false_iff_ne]; omega
    by_cases h3 : E = 0
    · subst h3
      by_cases h2 : F = 0
      · subst h2
        rw [hk]
        clear hk
        go_enter Tryd.func20, Tryd.ntmps20
        go_wp2_with (go_at_call 14; refine (HC.out).mono ?_; rintro e w' ⟨rfl, rfl⟩)
        go_ret
        exact ⟨rfl, rfl⟩
      · have g2 : ((F : Int) != 0) = true := by simp [h2]
        rw [hk, if_neg h1, if_pos rfl, if_neg h2]
        clear hk
        go_enter Tryd.func20, Tryd.ntmps20
        go_wp2_with (go_at_call 14; refine (HC.out).mono ?_; rintro e w' ⟨rfl, rfl⟩)
        go_ret
        exact ⟨rfl, rfl⟩
    · have g3 : ((E : Int) != 0) = true := by simp [h3]
      rw [hk, if_neg h1, if_neg h3]
      clear hk
      go_enter Tryd.func20, Tryd.ntmps20
      go_wp2_with (go_at_call 14; refine (HC.out).mono ?_; rintro e w' ⟨rfl, rfl⟩)
      go_ret
      exact ⟨rfl, rfl⟩

set_option maxRecDepth 100000 in
set_option maxHeartbeats 400000 in
theorem sign_any (b : Nat) (hb : b < 18446744073709551616) (w : World) :
    Calls Tryd.prog 22 #[.float .f64 b] w fun e w' => e = .returned (.bool (negF b)) ∧ w = w' := by
  have e1 := sign_raw b hb
  have HC := Lib.hid (bits_any b w)
  cases hn : negF b with
  | true =>
    rw [hn, if_pos rfl] at e1
    clear hn
    go_enter Tryd.func22, Tryd.ntmps22
    go_wp2_with (go_at_call 14; refine (HC.out).mono ?_; rintro e w' ⟨rfl, rfl⟩)
    go_ret
    exact ⟨rfl, rfl⟩
  | false =>
    rw [hn] at e1
    simp only [Bool.false_eq_true, if_false] at e1
    clear hn
    go_enter Tryd.func22, Tryd.ntmps22
    go_wp2_with (go_at_call 14; refine (HC.out).mono ?_; rintro e w' ⟨rfl, rfl⟩)
    go_ret
    exact ⟨rfl, rfl⟩
end Go.Proofs.YtcmdcclolkgjeaaDoor
