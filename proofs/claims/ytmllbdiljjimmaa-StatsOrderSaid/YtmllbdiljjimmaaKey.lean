/- The walks of package float: how floats stand in order. -/
import Derived.Test.YtmllbdiljjimmaaMerges
namespace Go.Proofs.Ytmllbdiljjimmaa
open Go.RowKit

/-- The word by which floats stand in order. -/
def keyN (b : Nat) : Nat := if 9223372036854775808 ≤ b then 18446744073709551615 - b else b + 9223372036854775808

theorem or_sign (b : Nat) (hb : b < 9223372036854775808) : bits .or .u64 (b : Int) 9223372036854775808 = ((b + 9223372036854775808 : Nat) : Int) := by
  have h := u64_or_nat b 9223372036854775808 (by omega) (by decide)
  have e : b ||| 9223372036854775808 = b + 9223372036854775808 := by
    have := Nat.two_pow_add_eq_or_of_lt (i := 63) (b := b) hb 1
    rw [Nat.or_comm]
    rw [show (2 : Nat) ^ 63 * 1 = 9223372036854775808 by rfl] at this
    rw [← this]; omega
  rw [e] at h
  exact h
theorem key_lt {b : Nat} (hb : b < 18446744073709551616) : keyN b < 18446744073709551616 := by unfold keyN; split <;> omega

set_option maxRecDepth 100000 in
set_option maxHeartbeats 400000 in
theorem key_any (b : Nat) (hb : b < 18446744073709551616) (w : World) :
    Calls Try.prog 84 #[.float .f64 b] w fun e w' => e = .returned (.int .u64 (keyN b : Int)) ∧ w = w' := by
  have e1 := sign_raw b hb
  have HC := Lib.hid (bits_any b w)
  by_cases hs : 9223372036854775808 ≤ b
  · have hn : negF b = true := by unfold negF; simpa using hs
    have e2 := not_raw b hb
    have hk : keyN b = 18446744073709551615 - b := by unfold keyN; rw [if_pos hs]
    rw [hk]
    generalize 18446744073709551615 - b = k at *
    rw [hn, if_pos rfl] at e1
    clear hk hs hn hb
    go_enter Try.func84, Try.ntmps84
    go_wp2_with (go_at_call 24; refine (HC.out).mono ?_; rintro e w' ⟨rfl, rfl⟩)
    go_ret
    exact ⟨rfl, rfl⟩
  · have hn : negF b = false := by unfold negF; simpa using hs
    have e2 := or_sign b (by omega)
    have hk : keyN b = b + 9223372036854775808 := by unfold keyN; rw [if_neg hs]
    rw [hk]
    generalize b + 9223372036854775808 = k at *
    rw [hn] at e1
    simp only [Bool.false_eq_true, if_false] at e1
    clear hk hs hn hb
    go_enter Try.func84, Try.ntmps84
    go_wp2_with (go_at_call 24; refine (HC.out).mono ?_; rintro e w' ⟨rfl, rfl⟩)
    go_ret
    exact ⟨rfl, rfl⟩

/-- Which of two floats stands ahead. -/
def aheadF (a b : Nat) : Bool := decide (keyN a < keyN b)
set_option maxRecDepth 100000 in
set_option maxHeartbeats 400000 in
theorem before_any (a b : Nat) (ha : a < 18446744073709551616) (hb : b < 18446744073709551616) (w : World) :
    Calls Try.prog 43 #[.float .f64 a, .float .f64 b] w fun e w' => e = .returned (.bool (aheadF a b)) ∧ w = w' := by
  have H1 := Lib.hid (key_any a ha w)
  have H2 := Lib.hid (key_any b hb w)
  have hr : aheadF a b = decide (keyN a < keyN b) := rfl
  generalize aheadF a b = r at *
  generalize keyN a = x at *
  generalize keyN b = y at *
  have HR := Lib.hid hr
  clear hr
  go_enter Try.func43, Try.ntmps43
  go_wp2_with fail
  refine (H1.out).mono ?_
  rintro e w' ⟨rfl, rfl⟩
  go_wp2_with fail
  refine (H2.out).mono ?_
  rintro e w' ⟨rfl, rfl⟩
  go_wp2
  go_ret
  exact ⟨by rw [HR.out]; first | rfl | simp, rfl⟩

set_option maxRecDepth 100000 in
set_option maxHeartbeats 400000 in
theorem nan2_any (b : Nat) (hb : b < 18446744073709551616) (w : World) :
    Calls Try.prog 79 #[.int .u64 (b : Int)] w fun e w' => e = .returned (.bool (kindF b == 4)) ∧ w = w' := by
  have H1 := Lib.hid (kind2_any b hb w)
  have hr : ((kindF b : Int) == 4) = (kindF b == 4) := by rw [Bool.eq_iff_iff, beq_iff_eq, beq_iff_eq]; omega
  generalize (kindF b == 4) = r at *
  generalize kindF b = k at *
  go_enter Try.func79, Try.ntmps79
  go_wp2_with fail
  refine (H1.out).mono ?_
  rintro e w' ⟨rfl, rfl⟩
  go_wp2
  go_ret
  exact ⟨rfl, rfl⟩

set_option maxRecDepth 100000 in
set_option maxHeartbeats 400000 in
theorem before2_any (a b : Nat) (ha : a < 18446744073709551616) (hb : b < 18446744073709551616) (w : World) :
    Calls Try.prog 80 #[.int .u64 (a : Int), .int .u64 (b : Int)] w fun e w' => e = .returned (.bool (aheadF a b)) ∧ w = w' := by
  have hr : aheadF a b = decide (keyN a < keyN b) := rfl
  unfold keyN at hr
  by_cases c1 : 9223372036854775808 ≤ a
  · by_cases c2 : 9223372036854775808 ≤ b
    · rw [if_pos c1, if_pos c2, show decide (18446744073709551615 - a < 18446744073709551615 - b) = decide (b < a) by rw [decide_eq_decide]; omega] at hr
      rw [hr]
      have d1 : decide ((9223372036854775808 : Int) ≤ (a : Int)) = true := by rw [decide_eq_true_eq]; omega
      have d2 : decide ((9223372036854775808 : Int) ≤ (b : Int)) = true := by rw [decide_eq_true_eq]; omega
      clear c1 c2 hr ha hb
      go_enter Try.func80, Try.ntmps80
      go_wp2
      go_ret
      exact ⟨by first | rfl | simp, rfl⟩
    · rw [if_pos c1, if_neg c2, show decide (18446744073709551615 - a < b + 9223372036854775808) = true by rw [decide_eq_true_eq]; omega] at hr
      rw [hr]
      have d1 : decide ((9223372036854775808 : Int) ≤ (a : Int)) = true := by rw [decide_eq_true_eq]; omega
      have d2 : decide ((9223372036854775808 : Int) ≤ (b : Int)) = false := by rw [decide_eq_false_iff_not]; omega
      clear c1 c2 hr ha hb
      go_enter Try.func80, Try.ntmps80
      go_wp2
      go_ret
      exact ⟨rfl, rfl⟩
  · by_cases c2 : 9223372036854775808 ≤ b
    · rw [if_neg c1, if_pos c2, show decide (a + 9223372036854775808 < 18446744073709551615 - b) = false by rw [decide_eq_false_iff_not]; omega] at hr
      rw [hr]
      have d1 : decide ((9223372036854775808 : Int) ≤ (a : Int)) = false := by rw [decide_eq_false_iff_not]; omega
      have d2 : decide ((9223372036854775808 : Int) ≤ (b : Int)) = true := by rw [decide_eq_true_eq]; omega
      clear c1 c2 hr ha hb
      go_enter Try.func80, Try.ntmps80
      go_wp2
      go_ret
      exact ⟨rfl, rfl⟩
    · rw [if_neg c1, if_neg c2, show decide (a + 9223372036854775808 < b + 9223372036854775808) = decide (a < b) by rw [decide_eq_decide]; omega] at hr
      rw [hr]
      have d1 : decide ((9223372036854775808 : Int) ≤ (a : Int)) = false := by rw [decide_eq_false_iff_not]; omega
      have d2 : decide ((9223372036854775808 : Int) ≤ (b : Int)) = false := by rw [decide_eq_false_iff_not]; omega
      clear c1 c2 hr ha hb
      go_enter Try.func80, Try.ntmps80
      go_wp2
      go_ret
      exact ⟨by first | rfl | simp, rfl⟩
end Go.Proofs.Ytmllbdiljjimmaa
