/- The walks of package float that every sum needs: bits, kinds, signs. -/
import Derived.Test.YtlcgmniahdngdaaGreatDoorBase
import Derived.Laws.BitsAllLaws
import Derived.Laws.BitsLemmas
import Derived.Lib.BitFns
import Derived.Lib.TrailingZeros
namespace Go.Proofs.YtlcgmniahdngdaaGreatDoor
open Go.RowKit

theorem call_bits (b : Nat) (w : World) : (callFunc 24 #[.float .f64 b]).run Tryz.prog w = .ok (.value (.int .u64 (b : Int))) w := by kernel_rfl
theorem call_of (b : Nat) (w : World) : (callFunc 73 #[.int .u64 (b : Int)]).run Tryz.prog w = .ok (.value (.float .f64 b)) w := by kernel_rfl

def expo (b : Nat) : Nat := b / 4503599627370496 % 2048
def frac (b : Nat) : Nat := b % 4503599627370496
/-- A float's kind: 0 zero, 1 small, 2 plain, 3 infinite, 4 NaN. -/
def kindF (b : Nat) : Nat := if expo b = 2047 then (if frac b = 0 then 3 else 4) else if expo b = 0 then (if frac b = 0 then 0 else 1) else 2
/-- Has it a sign? -/
def negF (b : Nat) : Bool := decide (9223372036854775808 ≤ b)

set_option maxRecDepth 100000 in
set_option maxHeartbeats 400000 in
theorem bits_any (b : Nat) (w : World) :
    Calls Tryz.prog 12 #[.float .f64 b] w fun e w' => e = .returned (.int .u64 (b : Int)) ∧ w = w' := by
  have h := call_bits b
  go_enter Tryz.func12, Tryz.ntmps12
  go_wp2
  go_ret
  exact ⟨rfl, rfl⟩
set_option maxRecDepth 100000 in
set_option maxHeartbeats 400000 in
theorem of_any (b : Nat) (w : World) :
    Calls Tryz.prog 56 #[.int .u64 (b : Int)] w fun e w' => e = .returned (.float .f64 b) ∧ w = w' := by
  have h := call_of b
  go_enter Tryz.func56, Tryz.ntmps56
  go_wp2
  go_ret
  exact ⟨rfl, rfl⟩

theorem expo_raw (b : Nat) (hb : b < 18446744073709551616) : bits .and .u64 ((b : Int) / 4503599627370496) 2047 = (expo b : Int) := by
  have h := u64_and_nat (b / 4503599627370496) 2047 (by omega) (by decide)
  rw [Nat.and_two_pow_sub_one_eq_mod _ 11] at h
  rw [show (b : Int) / 4503599627370496 = ((b / 4503599627370496 : Nat) : Int) by omega]
  exact h
theorem frac_raw (b : Nat) (hb : b < 18446744073709551616) : bits .and .u64 (b : Int) 4503599627370495 = (frac b : Int) := by
  have h := u64_and_nat b 4503599627370495 hb (by decide)
  rw [Nat.and_two_pow_sub_one_eq_mod _ 52] at h
  exact h
theorem sign_raw (b : Nat) (hb : b < 18446744073709551616) : bits .and .u64 (b : Int) 9223372036854775808 = if negF b then 9223372036854775808 else 0 := by
  have h := u64_and_nat b 9223372036854775808 hb (by decide)
  have e : b &&& 9223372036854775808 = if negF b then 9223372036854775808 else 0 := by
    have ht : b.testBit 63 = negF b := by
      unfold negF
      rw [Nat.testBit_eq_decide_div_mod_eq, Bool.eq_iff_iff]; simp only [decide_eq_true_eq]; omega
    rw [← ht]
    apply Nat.eq_of_testBit_eq
    intro j
    rw [show (9223372036854775808 : Nat) = 2 ^ 63 by rfl, Nat.testBit_and]
    by_cases hj : j = 63
    · subst hj; cases hb : b.testBit 63 <;> simp
    · rw [Nat.testBit_two_pow_of_ne (Ne.symm hj)]
      split
      · rw [Nat.testBit_two_pow_of_ne (Ne.symm hj)]; simp
      · simp
  rw [e] at h
  rw [show (9223372036854775808 : Int) = ((9223372036854775808 : Nat) : Int) by rfl, h]
  cases negF b <;> rfl

set_option maxRecDepth 100000 in
set_option maxHeartbeats 400000 in
theorem kind_any (b : Nat) (hb : b < 18446744073709551616) (w : World) :
    Calls Tryz.prog 45 #[.float .f64 b] w fun e w' => e = .returned (.int .i64 (kindF b : Int)) ∧ w = w' := by
  have e1 := expo_raw b hb
  have e2 := frac_raw b hb
  have hk : kindF b = if expo b = 2047 then (if frac b = 0 then 3 else 4) else if expo b = 0 then (if frac b = 0 then 0 else 1) else 2 := rfl
  have hx : expo b < 2048 := Nat.mod_lt _ (by decide)
  have hc := bits_any b w
  have HC := Lib.hid hc
  clear hc
  generalize expo b = E at *
  generalize frac b = F at *
  by_cases h1 : E = 2047
  · subst h1
    by_cases h2 : F = 0
    · subst h2
      rw [hk]
      clear hk
      go_enter Tryz.func45, Tryz.ntmps45
      go_wp2_with (go_at_call 12; refine (HC.out).mono ?_; rintro e w' ⟨rfl, rfl⟩)
      go_ret
      exact ⟨rfl, rfl⟩
    · have g2 : ((F : Int) != 0) = true := by simp [h2]
      rw [hk, if_pos rfl, if_neg h2]
      clear hk
      go_enter Tryz.func45, Tryz.ntmps45
      go_wp2_with (go_at_call 12; refine (HC.out).mono ?_; rintro e w' ⟨rfl, rfl⟩)
      go_ret
      exact ⟨rfl, rfl⟩
  · have g1 : ((E : Int) == 2047) = false := by rw [beq_eq_false_iff_ne]; omega
    by_cases h3 : E = 0
    · subst h3
      by_cases h2 : F = 0
      · subst h2
        rw [hk]
        clear hk
        go_enter Tryz.func45, Tryz.ntmps45
        go_wp2_with (go_at_call 12; refine (HC.out).mono ?_; rintro e w' ⟨rfl, rfl⟩)
        go_ret
        exact ⟨rfl, rfl⟩
      · have g2 : ((F : Int) != 0) = true := by simp [h2]
        rw [hk, if_neg h1, if_pos rfl, if_neg h2]
        clear hk
        go_enter Tryz.func45, Tryz.ntmps45
        go_wp2_with (go_at_call 12; refine (HC.out).mono ?_; rintro e w' ⟨rfl, rfl⟩)
        go_ret
        exact ⟨rfl, rfl⟩
    · have g3 : ((E : Int) != 0) = true := by simp [h3]
      rw [hk, if_neg h1, if_neg h3]
      clear hk
      go_enter Tryz.func45, Tryz.ntmps45
      go_wp2_with (go_at_call 12; refine (HC.out).mono ?_; rintro e w' ⟨rfl, rfl⟩)
      go_ret
      exact ⟨rfl, rfl⟩

set_option maxRecDepth 100000 in
set_option maxHeartbeats 400000 in
theorem sign_any (b : Nat) (hb : b < 18446744073709551616) (w : World) :
    Calls Tryz.prog 46 #[.float .f64 b] w fun e w' => e = .returned (.bool (negF b)) ∧ w = w' := by
  have e1 := sign_raw b hb
  have HC := Lib.hid (bits_any b w)
  cases hn : negF b with
  | true =>
    rw [hn, if_pos rfl] at e1
    clear hn
    go_enter Tryz.func46, Tryz.ntmps46
    go_wp2_with (go_at_call 12; refine (HC.out).mono ?_; rintro e w' ⟨rfl, rfl⟩)
    go_ret
    exact ⟨rfl, rfl⟩
  | false =>
    rw [hn] at e1
    simp only [Bool.false_eq_true, if_false] at e1
    clear hn
    go_enter Tryz.func46, Tryz.ntmps46
    go_wp2_with (go_at_call 12; refine (HC.out).mono ?_; rintro e w' ⟨rfl, rfl⟩)
    go_ret
    exact ⟨rfl, rfl⟩
end Go.Proofs.YtlcgmniahdngdaaGreatDoor

/- Plain lemmas: what the bits of floats stand for; how two floats compare. -/
namespace Go.Proofs.YtlcgmniahdngdaaGreatDoor
open Go.RowKit

theorem pow_pos2 (k : Nat) : 0 < 2 ^ k := Nat.two_pow_pos k

def magF (b : Nat) : Nat := if expo b = 0 then frac b else (4503599627370496 + frac b) * 2 ^ (expo b - 1)
def svalF (b : Nat) : Int := if negF b then -(magF b : Int) else magF b

theorem mag_at (a q : Nat) (hq : q < 9007199254740992) (ha : a = 0 ∨ 4503599627370496 ≤ q) (hl : a < 2047) : magF (a * 4503599627370496 + q) = q * 2 ^ a := by
  unfold magF expo frac
  by_cases h : q < 4503599627370496
  · obtain rfl : a = 0 := by omega
    rw [if_pos (by omega), Nat.pow_zero]; omega
  · rw [if_neg (by omega), show (a * 4503599627370496 + q) / 4503599627370496 % 2048 - 1 = a by omega, show 4503599627370496 + (a * 4503599627370496 + q) % 4503599627370496 = q by omega]
theorem mag_at1 (a q : Nat) (hq : q < 9007199254740992) (ha : a = 0 ∨ 4503599627370496 ≤ q) (hl : a < 2047) (hl2 : a < 2046 ∨ q + 1 < 9007199254740992) : magF (a * 4503599627370496 + q + 1) = (q + 1) * 2 ^ a := by
  by_cases h : q + 1 < 9007199254740992
  · rw [Nat.add_assoc, mag_at a (q + 1) h (by omega) hl]
  · obtain rfl : q = 9007199254740991 := by omega
    rw [show a * 4503599627370496 + 9007199254740991 + 1 = (a + 1) * 4503599627370496 + 4503599627370496 by omega, mag_at (a + 1) 4503599627370496 (by decide) (by omega) (by omega), Nat.pow_succ, Nat.mul_comm (2 ^ a), ← Nat.mul_assoc]
theorem mag_form (b : Nat) (h : b < 9223372036854775808) : ∃ a q, b = a * 4503599627370496 + q ∧ q < 9007199254740992 ∧ (a = 0 ∨ 4503599627370496 ≤ q) ∧ a < 2047 := by
  by_cases h0 : b < 4503599627370496
  · exact ⟨0, b, by omega, by omega, by omega, by omega⟩
  · exact ⟨b / 4503599627370496 - 1, b - (b / 4503599627370496 - 1) * 4503599627370496, by omega, by omega, by omega, by omega⟩
theorem mag_lt1 (b : Nat) (h : b + 1 < 9223372036854775808) : magF b < magF (b + 1) := by
  obtain ⟨a, q, rfl, hq, ha, hl⟩ := mag_form b (by omega)
  rw [mag_at a q hq ha hl, mag_at1 a q hq ha hl (by omega), Nat.succ_mul]
  have := pow_pos2 a
  omega
theorem mag_mono {b c : Nat} (h : b ≤ c) (hc : c < 9223372036854775808) : magF b ≤ magF c := by
  induction c with
  | zero => rw [Nat.le_zero.1 h]; exact Nat.le_refl _
  | succ c ih =>
    rcases Nat.eq_or_lt_of_le h with rfl | h
    · exact Nat.le_refl _
    · exact Nat.le_of_lt (Nat.lt_of_le_of_lt (ih (by omega) (by omega)) (mag_lt1 c hc))
theorem mag_strict {b c : Nat} (h : b < c) (hc : c < 9223372036854775808) : magF b < magF c :=
  Nat.lt_of_lt_of_le (mag_lt1 b (by omega)) (mag_mono h hc)
theorem mag_inf (k : Nat) (hk : k = 2046) : magF 9218868437227405312 = 4503599627370496 * 2 ^ k := by
  have h := mag_at k 4503599627370496 (by decide) (.inr (Nat.le_refl _)) (by omega)
  rw [show k * 4503599627370496 + 4503599627370496 = 9218868437227405312 by omega] at h
  exact h

theorem kind_le (f : Nat) : kindF f ≤ 4 := by unfold kindF; (repeat' split) <;> omega


/-- A float's bits without the sign. -/
def rungF (b : Nat) : Nat := b % 9223372036854775808
theorem expo_rung (b : Nat) : expo b = rungF b / 4503599627370496 := by unfold expo rungF; omega
theorem frac_rung (b : Nat) : frac b = rungF b % 4503599627370496 := by unfold frac rungF; omega
theorem mag_rung (b : Nat) : magF b = magF (rungF b) := by
  have h : rungF (rungF b) = rungF b := by unfold rungF; omega
  unfold magF
  rw [expo_rung b, frac_rung b, expo_rung (rungF b), frac_rung (rungF b), h]
theorem kind_num (b : Nat) : kindF b < 3 ↔ rungF b < 9218868437227405312 := by
  unfold kindF
  rw [expo_rung, frac_rung]
  have : rungF b < 9223372036854775808 := Nat.mod_lt _ (by decide)
  generalize rungF b = r at *
  (repeat' split) <;> omega
theorem kind_inf (b : Nat) : kindF b = 3 ↔ rungF b = 9218868437227405312 := by
  unfold kindF
  rw [expo_rung, frac_rung]
  have : rungF b < 9223372036854775808 := Nat.mod_lt _ (by decide)
  generalize rungF b = r at *
  (repeat' split) <;> omega
theorem kind_nan (b : Nat) : kindF b = 4 ↔ 9218868437227405312 < rungF b := by
  unfold kindF
  rw [expo_rung, frac_rung]
  have : rungF b < 9223372036854775808 := Nat.mod_lt _ (by decide)
  generalize rungF b = r at *
  (repeat' split) <;> omega

abbrev dbl : Ieee.Format := FloatKind.f64.format
theorem dbl_sw : dbl.signWeight = 9223372036854775808 := by rfl
theorem dbl_bin : dbl.binade = 4503599627370496 := by rfl
theorem dbl_inf : dbl.infRung = 9218868437227405312 := by rfl
theorem dbl_least : dbl.leastPlace = -1074 := by rfl
theorem dbl_frac : dbl.fractionBits = 52 := by rfl

theorem neg_read {b : Nat} (hb : b < 18446744073709551616) : (b / 9223372036854775808 % 2 == 1) = negF b := by
  unfold negF
  rw [Bool.eq_iff_iff, beq_iff_eq, decide_eq_true_eq]; omega

/-- What a number's word stands for. -/
theorem read_num {b : Nat} (hb : b < 18446744073709551616) (h : kindF b < 3) : ∃ m e : Nat, dbl.read b = .number (negF b) m (-1074 + (e : Int)) ∧ magF b = m * 2 ^ e := by
  rw [kind_num] at h
  unfold Ieee.Format.read
  rw [dbl_sw, dbl_bin, dbl_inf, dbl_least, neg_read hb]
  rw [mag_rung]
  unfold rungF at h ⊢
  have hr : b % 9223372036854775808 < 9223372036854775808 := Nat.mod_lt _ (by decide)
  generalize b % 9223372036854775808 = r at *
  have e1 : expo r = r / 4503599627370496 := by unfold expo; omega
  dsimp only
  by_cases h1 : r < 4503599627370496
  · rw [if_pos h1]
    refine ⟨r, 0, by simp, ?_⟩
    unfold magF
    rw [e1, if_pos (by omega), Nat.pow_zero]
    unfold frac; omega
  · rw [if_neg h1, if_pos h]
    refine ⟨4503599627370496 + r % 4503599627370496, r / 4503599627370496 - 1, rfl, ?_⟩
    unfold magF
    rw [e1, if_neg (by omega)]
    rfl
theorem read_inf {b : Nat} (hb : b < 18446744073709551616) (h : kindF b = 3) : dbl.read b = .infinity (negF b) := by
  rw [kind_inf] at h
  unfold Ieee.Format.read
  rw [dbl_sw, dbl_bin, dbl_inf, neg_read hb]
  unfold rungF at h
  dsimp only
  rw [h, if_neg (by decide), if_neg (by decide), if_pos rfl]
theorem read_nan {b : Nat} (hb : b < 18446744073709551616) (h : kindF b = 4) : ∃ f, dbl.read b = .nan (negF b) f := by
  rw [kind_nan] at h
  unfold Ieee.Format.read
  rw [dbl_sw, dbl_bin, dbl_inf, neg_read hb]
  unfold rungF at h
  dsimp only
  rw [if_neg (by omega), if_neg (by omega), if_neg (by omega)]
  exact ⟨_, rfl⟩

theorem order_nan {b c : Nat} (hb : b < 18446744073709551616) (hc : c < 18446744073709551616) (h : kindF b = 4 ∨ kindF c = 4) : dbl.order b c = none := by
  unfold Ieee.Format.order
  rcases h with h | h
  · obtain ⟨f, e⟩ := read_nan hb h
    rw [e]; rfl
  · obtain ⟨f, e⟩ := read_nan hc h
    rw [e]
    cases dbl.read b <;> rfl

theorem icmp (x y : Int) : compare x y = if x < y then .lt else if x = y then .eq else .gt := rfl
theorem icmp_lt {x y : Int} (h : x < y) : compare x y = .lt := by rw [icmp, if_pos h]
theorem icmp_eq {x y : Int} (h : x = y) : compare x y = .eq := by rw [icmp, if_neg (by omega), if_pos h]
theorem icmp_gt {x y : Int} (h : y < x) : compare x y = .gt := by rw [icmp, if_neg (by omega), if_neg (by omega)]

theorem signed_eq (s : Bool) (m k : Nat) : Ieee.signed s m k = if s then -((m * 2 ^ k : Nat) : Int) else ((m * 2 ^ k : Nat) : Int) := by
  unfold Ieee.signed
  rw [Nat.shiftLeft_eq]
theorem compare_scale (x y : Int) (k : Nat) (hk : 0 < k) : compare (x * k) (y * k) = compare x y := by
  have hk' : (0 : Int) < k := by omega
  rcases Int.lt_trichotomy x y with h | h | h
  · rw [icmp_lt h, icmp_lt (Int.mul_lt_mul_of_pos_right h hk')]
  · subst h; rw [icmp_eq rfl, icmp_eq rfl]
  · rw [icmp_gt h, icmp_gt (Int.mul_lt_mul_of_pos_right h hk')]

/-- The numbers at their common place. -/
theorem at_base (s : Bool) (m e k : Nat) (hk : k ≤ e) : Ieee.signed s m (-1074 + (e : Int) - (-1074 + (k : Int))).toNat * ((2 ^ k : Nat) : Int) = if s then -((m * 2 ^ e : Nat) : Int) else ((m * 2 ^ e : Nat) : Int) := by
  rw [signed_eq, show (-1074 + (e : Int) - (-1074 + (k : Int))).toNat = e - k by omega]
  have h : m * 2 ^ (e - k) * 2 ^ k = m * 2 ^ e := by rw [Nat.mul_assoc, ← Nat.pow_add, show e - k + k = e by omega]
  cases s
  · simp only [Bool.false_eq_true, if_false]
    rw [← Int.natCast_mul, h]
  · simp only [if_true]
    rw [Int.neg_mul, ← Int.natCast_mul, h]

theorem sval_eq {b m e : Nat} (h : magF b = m * 2 ^ e) : svalF b = if negF b then -((m * 2 ^ e : Nat) : Int) else ((m * 2 ^ e : Nat) : Int) := by
  unfold svalF; rw [h]

theorem min_place (e k : Nat) : min (-1074 + (e : Int)) (-1074 + (k : Int)) = -1074 + ((min e k : Nat) : Int) := by omega

theorem order_num {b c : Nat} (hb : b < 18446744073709551616) (hc : c < 18446744073709551616) (h1 : kindF b < 3) (h2 : kindF c < 3) : dbl.order b c = some (compare (svalF b) (svalF c)) := by
  obtain ⟨m, e, r1, v1⟩ := read_num hb h1
  obtain ⟨n, k, r2, v2⟩ := read_num hc h2
  unfold Ieee.Format.order
  rw [r1, r2]
  unfold Ieee.Datum.order
  dsimp only
  rw [min_place, sval_eq v1, sval_eq v2, ← at_base (negF b) m e (min e k) (by omega), ← at_base (negF c) n k (min e k) (by omega), compare_scale _ _ _ (pow_pos2 _)]

theorem mag_num_lt {b : Nat} (h : kindF b < 3) : magF b < magF 9218868437227405312 := by
  rw [mag_rung]
  exact mag_strict ((kind_num b).1 h) (by decide)
theorem mag_inf_of {b : Nat} (h : kindF b = 3) : magF b = magF 9218868437227405312 := by
  rw [mag_rung, (kind_inf b).1 h]

/-- Of two floats that are no NaNs. -/
theorem order_vals {b c : Nat} (hb : b < 18446744073709551616) (hc : c < 18446744073709551616) (h1 : kindF b ≠ 4) (h2 : kindF c ≠ 4) : dbl.order b c = some (compare (svalF b) (svalF c)) := by
  have hk1 := kind_le b
  have hk2 := kind_le c
  have hpos : 0 < magF 9218868437227405312 := Nat.lt_of_le_of_lt (Nat.zero_le _) (mag_num_lt (b := 0) (by decide))
  by_cases c1 : kindF b < 3
  · by_cases c2 : kindF c < 3
    · exact order_num hb hc c1 c2
    · have c3 : kindF c = 3 := by omega
      obtain ⟨m, e, r1, v1⟩ := read_num hb c1
      have r2 := read_inf hc c3
      have l := mag_num_lt c1
      have i := mag_inf_of c3
      unfold Ieee.Format.order
      rw [r1, r2]
      unfold Ieee.Datum.order
      dsimp only
      congr 1
      unfold svalF
      rw [i]
      generalize magF 9218868437227405312 = I at *
      cases negF c <;> cases negF b <;> simp only [if_true, if_false, Bool.false_eq_true] <;> symm
      · exact icmp_lt (by omega)
      · exact icmp_lt (by omega)
      · exact icmp_gt (by omega)
      · exact icmp_gt (by omega)
  · have c1' : kindF b = 3 := by omega
    have r1 := read_inf hb c1'
    have i1 := mag_inf_of c1'
    by_cases c2 : kindF c < 3
    · obtain ⟨m, e, r2, v2⟩ := read_num hc c2
      have l := mag_num_lt c2
      unfold Ieee.Format.order
      rw [r1, r2]
      unfold Ieee.Datum.order
      dsimp only
      congr 1
      unfold svalF
      rw [i1]
      generalize magF 9218868437227405312 = I at *
      cases negF c <;> cases negF b <;> simp only [if_true, if_false, Bool.false_eq_true] <;> symm
      · exact icmp_gt (by omega)
      · exact icmp_lt (by omega)
      · exact icmp_gt (by omega)
      · exact icmp_lt (by omega)
    · have c3 : kindF c = 3 := by omega
      have r2 := read_inf hc c3
      have i2 := mag_inf_of c3
      unfold Ieee.Format.order
      rw [r1, r2]
      unfold Ieee.Datum.order
      dsimp only
      congr 1
      unfold svalF
      rw [i1, i2]
      generalize magF 9218868437227405312 = I at *
      cases negF c <;> cases negF b <;> simp only [if_true, if_false, Bool.false_eq_true] <;> symm
      · exact icmp_eq rfl
      · exact icmp_lt (by omega)
      · exact icmp_gt (by omega)
      · exact icmp_eq rfl

theorem order_self {b : Nat} (hb : b < 18446744073709551616) : (dbl.order b b == some .eq) = !(kindF b == 4) := by
  by_cases h : kindF b = 4
  · rw [order_nan hb hb (.inl h), h]; rfl
  · rw [order_vals hb hb h h, icmp_eq rfl]
    have : (kindF b == 4) = false := by rw [beq_eq_false_iff_ne]; exact h
    rw [this]; rfl
end Go.Proofs.YtlcgmniahdngdaaGreatDoor

/- The walks of package float: how floats stand in order. -/
namespace Go.Proofs.YtlcgmniahdngdaaGreatDoor
open Go.RowKit

theorem kind_ref (b : Nat) (_hb : b < 18446744073709551616) : kindF b = if 9218868437227405312 < b % 9223372036854775808 then 4 else if b % 9223372036854775808 = 9218868437227405312 then 3 else if 4503599627370496 ≤ b % 9223372036854775808 then 2 else if 0 < b % 9223372036854775808 then 1 else 0 := by
  unfold kindF expo frac
  have e1 : b / 4503599627370496 % 2048 = b % 9223372036854775808 / 4503599627370496 := by omega
  have e2 : b % 4503599627370496 = b % 9223372036854775808 % 4503599627370496 := by omega
  rw [e1, e2]
  have hx : b % 9223372036854775808 < 9223372036854775808 := Nat.mod_lt _ (by decide)
  generalize b % 9223372036854775808 = x at *
  (repeat' split) <;> omega

theorem kind2_any (b : Nat) (hb : b < 18446744073709551616) (w : World) :
    Calls Tryz.prog 15 #[.int .u64 (b : Int)] w fun e w' => e = .returned (.int .i64 (kindF b : Int)) ∧ w = w' := by
  have hk := kind_ref b hb
  have hx : (b : Int) % 9223372036854775808 = ((b % 9223372036854775808 : Nat) : Int) := by omega
  have hxl : b % 9223372036854775808 < 9223372036854775808 := Nat.mod_lt _ (by decide)
  generalize b % 9223372036854775808 = x at *
  by_cases h4 : 9218868437227405312 < x
  · rw [hk, if_pos h4]
    clear hk
    go_enter Tryz.func15, Tryz.ntmps15
    go_wp2
    go_ret
    exact ⟨rfl, rfl⟩
  · by_cases h3 : x = 9218868437227405312
    · rw [hk, if_neg h4, if_pos h3]
      subst h3
      clear hk
      go_enter Tryz.func15, Tryz.ntmps15
      go_wp2
      go_ret
      exact ⟨rfl, rfl⟩
    · have g3 : ((x : Int) == 9218868437227405312) = false := by rw [beq_eq_false_iff_ne]; omega
      have i4 : (x : Int) ≤ 9218868437227405312 := by omega
      by_cases h2 : 4503599627370496 ≤ x
      · rw [hk, if_neg h4, if_neg h3, if_pos h2]
        have i2 : (4503599627370496 : Int) ≤ x := by omega
        clear hk h3 h2 h4
        go_enter Tryz.func15, Tryz.ntmps15
        go_wp2
        go_ret
        exact ⟨rfl, rfl⟩
      · have i2 : (x : Int) < 4503599627370496 := by omega
        by_cases h1 : 0 < x
        · rw [hk, if_neg h4, if_neg h3, if_neg h2, if_pos h1]
          have d2 : decide ((4503599627370496 : Int) ≤ x) = false := by simpa using i2
          have d1 : decide (0 < x) = true := by simpa using h1
          clear hk h3 h2 h4 i2 h1
          go_enter Tryz.func15, Tryz.ntmps15
          go_wp2
          go_ret
          exact ⟨rfl, rfl⟩
        · rw [hk, if_neg h4, if_neg h3, if_neg h2, if_neg h1]
          obtain rfl : x = 0 := by omega
          clear hk h3
          go_enter Tryz.func15, Tryz.ntmps15
          go_wp2
          go_ret
          exact ⟨rfl, rfl⟩

/-- What lies in a row of floats, told plainly. -/
structure Pt where
  a : Nat
  b : Nat
  nan : Bool
  up : Bool
  down : Bool
  all : Bool
theorem not_nat (y : Nat) (hy : y < 18446744073709551616) : 18446744073709551615 ^^^ y = 18446744073709551615 - y := by
  have e : 18446744073709551615 - y = 2 ^ 64 - (y + 1) := by omega
  rw [e]
  apply Nat.eq_of_testBit_eq
  intro i
  rw [Nat.testBit_two_pow_sub_succ (by exact hy), Nat.testBit_xor, show (18446744073709551615 : Nat) = 2 ^ 64 - 1 by rfl, Nat.testBit_two_pow_sub_one]
  by_cases hi : i < 64
  · simp [hi]
  · have h0 : y.testBit i = false := Nat.testBit_lt_two_pow (Nat.lt_of_lt_of_le hy (Nat.pow_le_pow_right (n := 2) (by decide) (by omega : 64 ≤ i)))
    simp [hi, h0]
theorem not_raw (y : Nat) (hy : y < 18446744073709551616) : bits .xor .u64 IntKind.u64.max (y : Int) = ((18446744073709551615 - y : Nat) : Int) := by
  have h := u64_xor_nat 18446744073709551615 y (by decide) hy
  rw [not_nat y hy] at h
  exact h

def canonF (f : Nat) : Nat := if kindF f = 4 then 9221120237041090560 else f

theorem canon_lt {f : Nat} (h : f < 18446744073709551616) : canonF f < 18446744073709551616 := by
  unfold canonF; split <;> omega
theorem canon_nan {f : Nat} (h : kindF f = 4) : canonF f = 9221120237041090560 := by unfold canonF; rw [if_pos h]
theorem canon_num {f : Nat} (h : kindF f ≠ 4) : canonF f = f := by unfold canonF; rw [if_neg h]

def OneFloat (w : World) (v : Nat) (e : Ending) (w' : World) : Prop := e = .returned (.float .f64 v) ∧ w = w'
theorem nan_ne {b : Nat} (hb : b < 18446744073709551616) : (FloatKind.f64.format.order b b != some .eq) = (kindF b == 4) := by
  have := order_self hb
  rw [bne, this, Bool.not_not]

def OneBool (w : World) (v : Bool) (e : Ending) (w' : World) : Prop := e = .returned (.bool v) ∧ w = w'

/-- The word by which floats stand in order. -/
def keyN (b : Nat) : Nat := if 9223372036854775808 ≤ b then 18446744073709551615 - b else b + 9223372036854775808

theorem or_sign (b : Nat) (hb : b < 9223372036854775808) : bits .or .u64 (b : Int) 9223372036854775808 = ((b + 9223372036854775808 : Nat) : Int) := by
  have h := u64_or_nat b 9223372036854775808 (by omega) (by decide)
  have e : b ||| 9223372036854775808 = b + 9223372036854775808 := by
    have := Nat.two_pow_add_eq_or_of_lt (i := 63) (b := b) hb 1
    rw [Nat.or_comm]
    rw [show (2 : Nat) ^ 63 * 1 = 9223372036854775808 by rfl] at this
    rw [← this]; omega
  rw [e] at h
  exact h
theorem key_lt {b : Nat} (hb : b < 18446744073709551616) : keyN b < 18446744073709551616 := by unfold keyN; split <;> omega

/-- Which of two floats stands ahead. -/
def aheadF (a b : Nat) : Bool := decide (keyN a < keyN b)
set_option maxRecDepth 100000 in
set_option maxHeartbeats 400000 in
theorem nan2_any (b : Nat) (hb : b < 18446744073709551616) (w : World) :
    Calls Tryz.prog 7 #[.int .u64 (b : Int)] w fun e w' => e = .returned (.bool (kindF b == 4)) ∧ w = w' := by
  have H1 := Lib.hid (kind2_any b hb w)
  have hr : ((kindF b : Int) == 4) = (kindF b == 4) := by rw [Bool.eq_iff_iff, beq_iff_eq, beq_iff_eq]; omega
  generalize (kindF b == 4) = r at *
  generalize kindF b = k at *
  go_enter Tryz.func7, Tryz.ntmps7
  go_wp2_with fail
  refine (H1.out).mono ?_
  rintro e w' ⟨rfl, rfl⟩
  go_wp2
  go_ret
  exact ⟨rfl, rfl⟩

end Go.Proofs.YtlcgmniahdngdaaGreatDoor

/- The walk of math/bits.TrailingZeros64. -/
namespace Go.Proofs.YtlcgmniahdngdaaGreatDoor
open Go.RowKit

def tabD : List Nat := [0, 1, 56, 2, 57, 49, 28, 3, 61, 58, 42, 50, 38, 29, 17, 4, 62, 47, 59, 36, 45, 43, 51, 22, 53, 39, 33, 30, 24, 18, 12, 5, 63, 55, 48, 27, 60, 41, 37, 16, 46, 35, 44, 21, 52, 32, 23, 11, 54, 26, 40, 15, 34, 20, 31, 10, 25, 14, 19, 9, 13, 8, 7, 6]
def TabD (w : World) : Prop := ∀ (i k : Nat), tabD[i]? = some k → w.cell? ⟨1, i, none⟩ = some (.int .u8 (k : Int))

theorem tab_at : ∀ k, k < 64 → tabD[2 ^ k * 285870213051353865 % 18446744073709551616 / 288230376151711744]? = some k := by decide +kernel

theorem tz_raw (x k : Nat) (hx : x < 18446744073709551616) (m : Nat) (h : x = 2 ^ k * (2 * m + 1)) :
    IntKind.u64.wrap (bits BinOp.and IntKind.u64 (x : Int) (IntKind.u64.wrap (-(x : Int))) * 285870213051353865) / 288230376151711744 = ((2 ^ k * 285870213051353865 % 18446744073709551616 / 288230376151711744 : Nat) : Int) := by
  have hpos : 0 < x := by rw [h]; exact Nat.mul_pos (Nat.two_pow_pos k) (by omega)
  have e1 : IntKind.u64.wrap (-(x : Int)) = ((18446744073709551616 - x : Nat) : Int) := by rw [IntKind.wrap_u64]; omega
  have e2 : x &&& (18446744073709551616 - x) = 2 ^ k := by
    have := Lib.and_neg 64 k m (by rw [← h]; exact hx)
    rw [← h] at this
    exact this
  rw [e1, u64_and_nat x _ hx (by omega), e2, IntKind.wrap_u64]
  omega

theorem tz_core (x k idx : Nat) (w : World) (hz : ((x : Int) == 0) = false) (hk : k < 64) (hlt : idx < 64) (hcell : w.cell? ⟨1, idx, none⟩ = some (.int .u8 (k : Int)))
    (key : IntKind.u64.wrap (bits BinOp.and IntKind.u64 (x : Int) (IntKind.u64.wrap (-(x : Int))) * 285870213051353865) / 288230376151711744 = (idx : Int)) :
    Calls Tryz.prog 66 #[.int .u64 (x : Int)] w fun e w' => e = .returned (.int .i64 (k : Int)) ∧ w = w' := by
  go_enter Tryz.func66, Tryz.ntmps66
  go_wp2_with (simp only [key])
  go_ret
  exact ⟨rfl, rfl⟩

theorem tz_zero (w : World) :
    Calls Tryz.prog 66 #[.int .u64 0] w fun e w' => e = .returned (.int .i64 64) ∧ w = w' := by
  go_enter Tryz.func66, Tryz.ntmps66
  go_wp2
  go_ret
  exact ⟨rfl, rfl⟩

theorem tz_odd (x k m : Nat) (hx : x < 18446744073709551616) (h : x = 2 ^ k * (2 * m + 1)) (w : World) (hT : TabD w) :
    Calls Tryz.prog 66 #[.int .u64 (x : Int)] w fun e w' => e = .returned (.int .i64 (k : Int)) ∧ w = w' := by
  have hpos : 0 < x := by rw [h]; exact Nat.mul_pos (Nat.two_pow_pos k) (by omega)
  have hk : k < 64 := by
    rcases Nat.lt_or_ge k 64 with h1 | h1
    · exact h1
    · have h2 : 2 ^ 64 ≤ 2 ^ k := Nat.pow_le_pow_right (by decide) h1
      have h3 : 2 ^ k * 1 ≤ 2 ^ k * (2 * m + 1) := Nat.mul_le_mul_left _ (by omega)
      rw [← h] at h3
      exact absurd (Nat.le_trans (Nat.le_trans h2 (by omega : 2 ^ k ≤ 2 ^ k * 1)) h3) (Nat.not_le.2 hx)
  have hi := tab_at k hk
  exact tz_core x k _ w (by rw [beq_eq_false_iff_ne]; omega) hk (List.getElem?_eq_some_iff.1 hi).1 (hT _ k hi) (tz_raw x k hx m h)
end Go.Proofs.YtlcgmniahdngdaaGreatDoor
