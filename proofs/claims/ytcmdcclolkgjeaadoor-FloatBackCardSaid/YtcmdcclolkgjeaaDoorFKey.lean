/- The walks of package float: how floats stand in order. -/
import Derived.Test.YtcmdcclolkgjeaaDoorFMag
namespace Go.Proofs.YtcmdcclolkgjeaaDoor
open Go.RowKit

theorem kind_ref (b : Nat) (_hb : b < 18446744073709551616) : kindF b = if 9218868437227405312 < b % 9223372036854775808 then 4 else if b % 9223372036854775808 = 9218868437227405312 then 3 else if 4503599627370496 ≤ b % 9223372036854775808 then 2 else if 0 < b % 9223372036854775808 then 1 else 0 := by
  unfold kindF expo frac
  have e1 : b / 4503599627370496 % 2048 = b % 9223372036854775808 / 4503599627370496 := by omega
  have e2 : b % 4503599627370496 = b % 9223372036854775808 % 4503599627370496 := by omega
  rw [e1, e2]
  have hx : b % 9223372036854775808 < 9223372036854775808 := Nat.mod_lt _ (by decide)
  generalize b % 9223372036854775808 = x at *
  (repeat' split) <;> omega

theorem kind2_any (b : Nat) (hb : b < 18446744073709551616) (w : World) :
    Calls Tryd.prog 21 #[.int .u64 (b : Int)] w fun e w' => e = .returned (.int .i64 (kindF b : Int)) ∧ w = w' := by
  have hk := kind_ref b hb
  have hx : (b : Int) % 9223372036854775808 = ((b % 9223372036854775808 : Nat) : Int) := by omega
  have hxl : b % 9223372036854775808 < 9223372036854775808 := Nat.mod_lt _ (by decide)
  generalize b % 9223372036854775808 = x at *
  by_cases h4 : 9218868437227405312 < x
  · rw [hk, if_pos h4]
    clear hk
    go_enter Tryd.func21, Tryd.ntmps21
    go_wp2
    go_ret
    exact ⟨rfl, rfl⟩
  · by_cases h3 : x = 9218868437227405312
    · rw [hk, if_neg h4, if_pos h3]
      subst h3
      clear hk
      go_enter Tryd.func21, Tryd.ntmps21
      go_wp2
      go_ret
      exact ⟨rfl, rfl⟩
    · have g3 : ((x : Int) == 9218868437227405312) = false := by rw [beq_eq_false_iff_ne]; omega
      have i4 : (x : Int) ≤ 9218868437227405312 := by omega
      by_cases h2 : 4503599627370496 ≤ x
      · rw [hk, if_neg h4, if_neg h3, if_pos h2]
        have i2 : (4503599627370496 : Int) ≤ x := by omega
        clear hk h3 h2 h4
        go_enter Tryd.func21, Tryd.ntmps21
        go_wp2
        go_ret
        exact ⟨rfl, rfl⟩
      · have i2 : (x : Int) < 4503599627370496 := by omega
        by_cases h1 : 0 < x
        · rw [hk, if_neg h4, if_neg h3, if_neg h2, if_pos h1]
          have d2 : decide ((4503599627370496 : Int) ≤ x) = false := by simpa using i2
          have d1 : decide (0 < x) = true := by simpa using h1
          clear hk h3 h2 h4 i2 h1
          go_enter Tryd.func21, Tryd.ntmps21
          go_wp2
          go_ret
          exact ⟨rfl, rfl⟩
        · rw [hk, if_neg h4, if_neg h3, if_neg h2, if_neg h1]
          obtain rfl : x = 0 := by omega
          clear hk h3
          go_enter Tryd.func21, Tryd.ntmps21
          go_wp2
          go_ret
          exact ⟨rfl, rfl⟩

/-- What lies in a row of floats, told plainly. -/
structure Pt where
  a : Nat
  b : Nat
  nan : Bool
  up : Bool
  down : Bool
  all : Bool
theorem not_nat (y : Nat) (hy : y < 18446744073709551616) : 18446744073709551615 ^^^ y = 18446744073709551615 - y := by
  have e : 18446744073709551615 - y = 2 ^ 64 - (y + 1) := by omega
  rw [e]
  apply Nat.eq_of_testBit_eq
  intro i
  rw [Nat.testBit_two_pow_sub_succ (by exact hy), Nat.testBit_xor, show (18446744073709551615 : Nat) = 2 ^ 64 - 1 by rfl, Nat.testBit_two_pow_sub_one]
  by_cases hi : i < 64
  · simp [hi]
  · have h0 : y.testBit i = false := Nat.testBit_lt_two_pow (Nat.lt_of_lt_of_le hy (Nat.pow_le_pow_right (n := 2) (by decide) (by omega : 64 ≤ i)))
    simp [hi, h0]
theorem not_raw (y : Nat) (hy : y < 18446744073709551616) : bits .xor .u64 IntKind.u64.max (y : Int) = ((18446744073709551615 - y : Nat) : Int) := by
  have h := u64_xor_nat 18446744073709551615 y (by decide) hy
  rw [not_nat y hy] at h
  exact h

def canonF (f : Nat) : Nat := if kindF f = 4 then 9221120237041090560 else f

theorem canon_lt {f : Nat} (h : f < 18446744073709551616) : canonF f < 18446744073709551616 := by
  unfold canonF; split <;> omega
theorem canon_nan {f : Nat} (h : kindF f = 4) : canonF f = 9221120237041090560 := by unfold canonF; rw [if_pos h]
theorem canon_num {f : Nat} (h : kindF f ≠ 4) : canonF f = f := by unfold canonF; rw [if_neg h]

def OneFloat (w : World) (v : Nat) (e : Ending) (w' : World) : Prop := e = .returned (.float .f64 v) ∧ w = w'
theorem canon_any (f : Nat) (w : World) (hf : f < 18446744073709551616) : Calls Tryd.prog 18 #[.float .f64 f] w (OneFloat w (canonF f)) := by
  have ho := order_self hf
  have HOF := Lib.hid (of_any 9221120237041090560 w)
  by_cases h : kindF f = 4
  · rw [canon_nan h]
    have e1 : (FloatKind.f64.format.order f f != some .eq) = true := by rw [bne, ho, h]; rfl
    clear ho h
    go_enter Tryd.func18, Tryd.ntmps18
    go_wp2_with fail
    refine (HOF.out).mono ?_
    rintro e w' ⟨rfl, rfl⟩
    go_wp2
    go_ret
    exact ⟨rfl, rfl⟩
  · rw [canon_num h]
    have e1 : (FloatKind.f64.format.order f f != some .eq) = false := by rw [bne, ho, beq_eq_false_iff_ne.2 h]; rfl
    clear ho h
    go_enter Tryd.func18, Tryd.ntmps18
    go_wp2_with fail
    go_ret
    exact ⟨rfl, rfl⟩

theorem nan_ne {b : Nat} (hb : b < 18446744073709551616) : (FloatKind.f64.format.order b b != some .eq) = (kindF b == 4) := by
  have := order_self hb
  rw [bne, this, Bool.not_not]

def OneBool (w : World) (v : Bool) (e : Ending) (w' : World) : Prop := e = .returned (.bool v) ∧ w = w'

/-- The word by which floats stand in order. -/
def keyN (b : Nat) : Nat := if 9223372036854775808 ≤ b then 18446744073709551615 - b else b + 9223372036854775808

theorem or_sign (b : Nat) (hb : b < 9223372036854775808) : bits .or .u64 (b : Int) 9223372036854775808 = ((b + 9223372036854775808 : Nat) : Int) := by
  have h := u64_or_nat b 9223372036854775808 (by omega) (by decide)
  have e : b ||| 9223372036854775808 = b + 9223372036854775808 := by
    have := Nat.two_pow_add_eq_or_of_lt (i := 63) (b := b) hb 1
    rw [Nat.or_comm]
    rw [show (2 : Nat) ^ 63 * 1 = 9223372036854775808 by rfl] at this
    rw [← this]; omega
  rw [e] at h
  exact h
theorem key_lt {b : Nat} (hb : b < 18446744073709551616) : keyN b < 18446744073709551616 := by unfold keyN; split <;> omega

set_option maxRecDepth 100000 in
set_option maxHeartbeats 400000 in
theorem key_any (b : Nat) (hb : b < 18446744073709551616) (w : World) :
    Calls Tryd.prog 34 #[.float .f64 b] w fun e w' => e = .returned (.int .u64 (keyN b : Int)) ∧ w = w' := by
  have e1 := sign_raw b hb
  have HC := Lib.hid (bits_any b w)
  by_cases hs : 9223372036854775808 ≤ b
  · have hn : negF b = true := by unfold negF; simpa using hs
    have e2 := not_raw b hb
    have hk : keyN b = 18446744073709551615 - b := by unfold keyN; rw [if_pos hs]
    rw [hk]
    generalize 18446744073709551615 - b = k at *
    rw [hn, if_pos rfl] at e1
    clear hk hs hn hb
    go_enter Tryd.func34, Tryd.ntmps34
    go_wp2_with (go_at_call 14; refine (HC.out).mono ?_; rintro e w' ⟨rfl, rfl⟩)
    go_ret
    exact ⟨rfl, rfl⟩
  · have hn : negF b = false := by unfold negF; simpa using hs
    have e2 := or_sign b (by omega)
    have hk : keyN b = b + 9223372036854775808 := by unfold keyN; rw [if_neg hs]
    rw [hk]
    generalize b + 9223372036854775808 = k at *
    rw [hn] at e1
    simp only [Bool.false_eq_true, if_false] at e1
    clear hk hs hn hb
    go_enter Tryd.func34, Tryd.ntmps34
    go_wp2_with (go_at_call 14; refine (HC.out).mono ?_; rintro e w' ⟨rfl, rfl⟩)
    go_ret
    exact ⟨rfl, rfl⟩

/-- Which of two floats stands ahead. -/
def aheadF (a b : Nat) : Bool := decide (keyN a < keyN b)
set_option maxRecDepth 100000 in
set_option maxHeartbeats 400000 in
theorem before_any (a b : Nat) (ha : a < 18446744073709551616) (hb : b < 18446744073709551616) (w : World) :
    Calls Tryd.prog 11 #[.float .f64 a, .float .f64 b] w fun e w' => e = .returned (.bool (aheadF a b)) ∧ w = w' := by
  have H1 := Lib.hid (key_any a ha w)
  have H2 := Lib.hid (key_any b hb w)
  have hr : aheadF a b = decide (keyN a < keyN b) := rfl
  generalize aheadF a b = r at *
  generalize keyN a = x at *
  generalize keyN b = y at *
  have HR := Lib.hid hr
  clear hr
  go_enter Tryd.func11, Tryd.ntmps11
  go_wp2_with fail
  refine (H1.out).mono ?_
  rintro e w' ⟨rfl, rfl⟩
  go_wp2_with fail
  refine (H2.out).mono ?_
  rintro e w' ⟨rfl, rfl⟩
  go_wp2
  go_ret
  exact ⟨by rw [HR.out]; first | rfl | simp, rfl⟩

set_option maxRecDepth 100000 in
set_option maxHeartbeats 400000 in
theorem nan2_any (b : Nat) (hb : b < 18446744073709551616) (w : World) :
    Calls Tryd.prog 19 #[.int .u64 (b : Int)] w fun e w' => e = .returned (.bool (kindF b == 4)) ∧ w = w' := by
  have H1 := Lib.hid (kind2_any b hb w)
  have hr : ((kindF b : Int) == 4) = (kindF b == 4) := by rw [Bool.eq_iff_iff, beq_iff_eq, beq_iff_eq]; omega
  generalize (kindF b == 4) = r at *
  generalize kindF b = k at *
  go_enter Tryd.func19, Tryd.ntmps19
  go_wp2_with fail
  refine (H1.out).mono ?_
  rintro e w' ⟨rfl, rfl⟩
  go_wp2
  go_ret
  exact ⟨rfl, rfl⟩

set_option maxRecDepth 100000 in
set_option maxHeartbeats 400000 in
theorem before2_any (a b : Nat) (ha : a < 18446744073709551616) (hb : b < 18446744073709551616) (w : World) :
    Calls Tryd.prog 24 #[.int .u64 (a : Int), .int .u64 (b : Int)] w fun e w' => e = .returned (.bool (aheadF a b)) ∧ w = w' := by
  have hr : aheadF a b = decide (keyN a < keyN b) := rfl
  unfold keyN at hr
  by_cases c1 : 9223372036854775808 ≤ a
  · by_cases c2 : 9223372036854775808 ≤ b
    · rw [if_pos c1, if_pos c2, show decide (18446744073709551615 - a < 18446744073709551615 - b) = decide (b < a) by rw [decide_eq_decide]; omega] at hr
      rw [hr]
      have d1 : decide ((9223372036854775808 : Int) ≤ (a : Int)) = true := by rw [decide_eq_true_eq]; omega
      have d2 : decide ((9223372036854775808 : Int) ≤ (b : Int)) = true := by rw [decide_eq_true_eq]; omega
      clear c1 c2 hr ha hb
      go_enter Tryd.func24, Tryd.ntmps24
      go_wp2
      go_ret
      exact ⟨by first | rfl | simp, rfl⟩
    · rw [if_pos c1, if_neg c2, show decide (18446744073709551615 - a < b + 9223372036854775808) = true by rw [decide_eq_true_eq]; omega] at hr
      rw [hr]
      have d1 : decide ((9223372036854775808 : Int) ≤ (a : Int)) = true := by rw [decide_eq_true_eq]; omega
      have d2 : decide ((9223372036854775808 : Int) ≤ (b : Int)) = false := by rw [decide_eq_false_iff_not]; omega
      clear c1 c2 hr ha hb
      go_enter Tryd.func24, Tryd.ntmps24
      go_wp2
      go_ret
      exact ⟨rfl, rfl⟩
  · by_cases c2 : 9223372036854775808 ≤ b
    · rw [if_neg c1, if_pos c2, show decide (a + 9223372036854775808 < 18446744073709551615 - b) = false by rw [decide_eq_false_iff_not]; omega] at hr
      rw [hr]
      have d1 : decide ((9223372036854775808 : Int) ≤ (a : Int)) = false := by rw [decide_eq_false_iff_not]; omega
      have d2 : decide ((9223372036854775808 : Int) ≤ (b : Int)) = true := by rw [decide_eq_true_eq]; omega
      clear c1 c2 hr ha hb
      go_enter Tryd.func24, Tryd.ntmps24
      go_wp2
      go_ret
      exact ⟨rfl, rfl⟩
    · rw [if_neg c1, if_neg c2, show decide (a + 9223372036854775808 < b + 9223372036854775808) = decide (a < b) by rw [decide_eq_decide]; omega] at hr
      rw [hr]
      have d1 : decide ((9223372036854775808 : Int) ≤ (a : Int)) = false := by rw [decide_eq_false_iff_not]; omega
      have d2 : decide ((9223372036854775808 : Int) ≤ (b : Int)) = false := by rw [decide_eq_false_iff_not]; omega
      clear c1 c2 hr ha hb
      go_enter Tryd.func24, Tryd.ntmps24
      go_wp2
      go_ret
      exact ⟨by first | rfl | simp, rfl⟩
end Go.Proofs.YtcmdcclolkgjeaaDoor
