/- The walks of the next floats up and down. -/
import Derived.Test.YtcmdcclolkgjeaaDoorFFlip
namespace Go.Proofs.YtcmdcclolkgjeaaDoor
open Go.RowKit

theorem mag_zero {b : Nat} (h : magF b = 0) : rungF b = 0 := by
  rcases Nat.eq_zero_or_pos (rungF b) with h0 | h0
  · exact h0
  · have h1 := mag_strict h0 (Nat.mod_lt _ (by decide))
    rw [← mag_rung, h] at h1
    omega
theorem kind_zero (b : Nat) : kindF b = 0 ↔ rungF b = 0 := by
  unfold kindF
  rw [expo_rung, frac_rung]
  have : rungF b < 9223372036854775808 := Nat.mod_lt _ (by decide)
  generalize rungF b = r at *
  (repeat' split) <;> omega
theorem sval_zero : svalF 0 = 0 := by decide
theorem sval_eq0 (b : Nat) : svalF b = 0 ↔ kindF b = 0 := by
  rw [kind_zero]
  constructor
  · intro h
    refine mag_zero ?_
    unfold svalF at h
    split at h <;> omega
  · intro h
    have : magF b = 0 := by rw [mag_rung, h]; decide
    unfold svalF
    rw [this]
    split <;> rfl
theorem zero_eq {b : Nat} (hb : b < 18446744073709551616) (h4 : kindF b ≠ 4) : (FloatKind.f64.format.order b 0 == some .eq) = (kindF b == 0) := by
  have := order_vals hb (by decide : 0 < 18446744073709551616) h4 (by decide)
  rw [show FloatKind.f64.format.order b 0 = dbl.order b 0 from rfl, this, sval_zero]
  by_cases h : kindF b = 0
  · rw [icmp_eq ((sval_eq0 b).2 h), h]; rfl
  · have h1 : svalF b ≠ 0 := fun e => h ((sval_eq0 b).1 e)
    rw [show (kindF b == 0) = false by rw [beq_eq_false_iff_ne]; exact h]
    rcases Int.lt_or_gt_of_ne h1 with h2 | h2
    · rw [icmp_lt h2]; rfl
    · rw [icmp_gt h2]; rfl

/-- The next float up. -/
def upF (b : Nat) : Nat := if kindF b = 4 ∨ b = 9218868437227405312 then b else if kindF b = 0 then 1 else if 9223372036854775808 ≤ b then b - 1 else b + 1
theorem up_lt {b : Nat} (hb : b < 18446744073709551616) : upF b < 18446744073709551616 := by
  unfold upF
  split
  · exact hb
  · split
    · decide
    · split <;> omega

set_option maxRecDepth 100000 in
set_option maxHeartbeats 1600000 in
theorem up_any (b : Nat) (hb : b < 18446744073709551616) (w : World) : Calls Tryd.prog 25 #[.float .f64 b] w (OneFloat w (upF b)) := by
  have hn := nan_ne hb
  have HB := Lib.hid (bits_any b w)
  have hu : upF b = if kindF b = 4 ∨ b = 9218868437227405312 then b else if kindF b = 0 then 1 else if 9223372036854775808 ≤ b then b - 1 else b + 1 := rfl
  generalize upF b = U at *
  by_cases h4 : kindF b = 4
  · rw [if_pos (.inl h4)] at hu
    subst hu
    rw [show (kindF U == 4) = true by rw [h4]; rfl] at hn
    clear h4
    go_enter Tryd.func25, Tryd.ntmps25
    go_wp2_with fail
    refine (HB.out).mono ?_
    rintro e w' ⟨rfl, rfl⟩
    go_wp2
    go_ret
    exact ⟨rfl, rfl⟩
  rw [show (kindF b == 4) = false by rw [beq_eq_false_iff_ne]; exact h4] at hn
  by_cases hi : b = 9218868437227405312
  · rw [if_pos (.inr hi)] at hu
    subst hu
    subst hi
    clear h4
    go_enter Tryd.func25, Tryd.ntmps25
    go_wp2_with fail
    refine (HB.out).mono ?_
    rintro e w' ⟨rfl, rfl⟩
    go_wp2
    go_ret
    exact ⟨rfl, rfl⟩
  have q1 : ((b : Int) == 9218868437227405312) = false := by rw [beq_eq_false_iff_ne]; omega
  rw [if_neg (by rintro (h | h); exact h4 h; exact hi h)] at hu
  have hz := zero_eq hb h4
  by_cases h0 : kindF b = 0
  · rw [if_pos h0] at hu
    subst hu
    rw [show (kindF b == 0) = true by rw [h0]; rfl] at hz
    have HO := Lib.hid (of_any 1 w)
    clear h4 hi h0
    go_enter Tryd.func25, Tryd.ntmps25
    go_wp2_with fail
    refine (HB.out).mono ?_
    rintro e w' ⟨rfl, rfl⟩
    go_wp2_with fail
    refine (HO.out).mono ?_
    rintro e w' ⟨rfl, rfl⟩
    go_wp2
    go_ret
    exact ⟨rfl, rfl⟩
  rw [show (kindF b == 0) = false by rw [beq_eq_false_iff_ne]; exact h0] at hz
  rw [if_neg h0] at hu
  have e1 := sign_raw b hb
  by_cases hs : 9223372036854775808 ≤ b
  · rw [if_pos hs] at hu
    have hne : negF b = true := by unfold negF; simpa using hs
    rw [hne, if_pos rfl] at e1
    have e2 : (b : Int) - 1 = ((b - 1 : Nat) : Int) := by omega
    rw [← hu] at e2
    have HO := Lib.hid (of_any U w)
    have hb1 : (1 : Int) ≤ b := by omega
    have hb2 : (b : Int) < 18446744073709551616 := by omega
    clear h4 hi h0 hne hs hu
    go_enter Tryd.func25, Tryd.ntmps25
    go_wp2_with fail
    refine (HB.out).mono ?_
    rintro e w' ⟨rfl, rfl⟩
    go_wp2_with fail
    refine (HO.out).mono ?_
    rintro e w' ⟨rfl, rfl⟩
    go_wp2
    go_ret
    exact ⟨rfl, rfl⟩
  · rw [if_neg hs] at hu
    have hne : negF b = false := by unfold negF; simpa using hs
    rw [hne] at e1
    simp only [Bool.false_eq_true, if_false] at e1
    have e2 : (b : Int) + 1 = (U : Int) := by omega
    have HO := Lib.hid (of_any U w)
    have hb2 : (b : Int) < 9223372036854775808 := by omega
    clear h4 hi h0 hne hs hu
    go_enter Tryd.func25, Tryd.ntmps25
    go_wp2_with fail
    refine (HB.out).mono ?_
    rintro e w' ⟨rfl, rfl⟩
    go_wp2_with fail
    refine (HO.out).mono ?_
    rintro e w' ⟨rfl, rfl⟩
    go_wp2
    go_ret
    exact ⟨rfl, rfl⟩

/-- The next float down. -/
def downF (b : Nat) : Nat := if kindF b = 4 then b else flipF (upF (flipF b))
theorem down_lt {b : Nat} (hb : b < 18446744073709551616) : downF b < 18446744073709551616 := by
  unfold downF
  split
  · exact hb
  · exact (flip_neg (up_lt (flip_neg hb).1)).1
set_option maxRecDepth 100000 in
set_option maxHeartbeats 800000 in
theorem down_any (b : Nat) (hb : b < 18446744073709551616) (w : World) : Calls Tryd.prog 27 #[.float .f64 b] w (OneFloat w (downF b)) := by
  have hn := nan_ne hb
  by_cases h4 : kindF b = 4
  · rw [show downF b = b from if_pos h4]
    rw [show (kindF b == 4) = true by rw [h4]; rfl] at hn
    clear h4
    go_enter Tryd.func27, Tryd.ntmps27
    go_wp2
    go_ret
    exact ⟨rfl, rfl⟩
  · rw [show downF b = flipF (upF (flipF b)) from if_neg h4]
    rw [show (kindF b == 4) = false by rw [beq_eq_false_iff_ne]; exact h4] at hn
    have HU := Lib.hid (up_any (flipF b) (flip_neg hb).1 w)
    have h1 := fun w => run_neg_float (P := Tryd.prog) b w
    have h2 := fun w => run_neg_float (P := Tryd.prog) (upF (flipF b)) w
    generalize upF (flipF b) = U at *
    generalize flipF b = F at *
    generalize flipF U = V at *
    clear h4
    go_enter Tryd.func27, Tryd.ntmps27
    go_wp2_with fail
    refine (HU.out).mono ?_
    rintro e w' ⟨rfl, rfl⟩
    go_wp2
    go_ret
    exact ⟨rfl, rfl⟩

/-! ### The references -/
def NatOne (w : World) (v : Nat) (e : Ending) (w' : World) : Prop := e = .returned (.int .u64 (v : Int)) ∧ w = w'
set_option maxRecDepth 100000 in
set_option maxHeartbeats 800000 in
theorem turn_any (b : Nat) (hb : b < 18446744073709551616) (w : World) : Calls Tryd.prog 39 #[.int .u64 (b : Int)] w (NatOne w (flipF b)) := by
  have hf := flip_eq hb
  by_cases hs : 9223372036854775808 ≤ b
  · rw [if_pos hs] at hf
    have d1 : decide ((9223372036854775808 : Int) ≤ (b : Int)) = true := by rw [decide_eq_true_eq]; omega
    have e2 : (b : Int) - 9223372036854775808 = (flipF b : Int) := by omega
    have hb1 : (9223372036854775808 : Int) ≤ b := by omega
    have hb2 : (b : Int) < 18446744073709551616 := by omega
    generalize flipF b = F at *
    clear hs hf
    go_enter Tryd.func39, Tryd.ntmps39
    go_wp2
    go_ret
    exact ⟨rfl, rfl⟩
  · rw [if_neg hs] at hf
    have d1 : decide ((9223372036854775808 : Int) ≤ (b : Int)) = false := by rw [decide_eq_false_iff_not]; omega
    have e2 : (b : Int) + 9223372036854775808 = (flipF b : Int) := by omega
    have hb2 : (b : Int) < 9223372036854775808 := by omega
    generalize flipF b = F at *
    clear hs hf
    go_enter Tryd.func39, Tryd.ntmps39
    go_wp2
    go_ret
    exact ⟨rfl, rfl⟩

set_option maxRecDepth 100000 in
set_option maxHeartbeats 1600000 in
theorem up2_any (b : Nat) (hb : b < 18446744073709551616) (w : World) : Calls Tryd.prog 26 #[.int .u64 (b : Int)] w (NatOne w (upF b)) := by
  have HN := Lib.hid (nan2_any b hb w)
  have HK := Lib.hid (kind2_any b hb w)
  have hu : upF b = if kindF b = 4 ∨ b = 9218868437227405312 then b else if kindF b = 0 then 1 else if 9223372036854775808 ≤ b then b - 1 else b + 1 := rfl
  generalize upF b = U at *
  by_cases h4 : kindF b = 4
  · rw [if_pos (.inl h4)] at hu
    subst hu
    rw [show (kindF U == 4) = true by rw [h4]; rfl] at HN
    clear h4
    go_enter Tryd.func26, Tryd.ntmps26
    go_wp2_with fail
    refine (HN.out).mono ?_
    rintro e w' ⟨rfl, rfl⟩
    go_wp2
    go_ret
    exact ⟨rfl, rfl⟩
  rw [show (kindF b == 4) = false by rw [beq_eq_false_iff_ne]; exact h4] at HN
  by_cases hi : b = 9218868437227405312
  · rw [if_pos (.inr hi)] at hu
    subst hu
    subst hi
    clear h4 HK
    go_enter Tryd.func26, Tryd.ntmps26
    go_wp2_with fail
    refine (HN.out).mono ?_
    rintro e w' ⟨rfl, rfl⟩
    go_wp2
    go_ret
    exact ⟨rfl, rfl⟩
  have q1 : ((b : Int) == 9218868437227405312) = false := by rw [beq_eq_false_iff_ne]; omega
  rw [if_neg (by rintro (h | h); exact h4 h; exact hi h)] at hu
  by_cases h0 : kindF b = 0
  · rw [if_pos h0] at hu
    subst hu
    rw [h0] at HK
    clear h4 hi h0
    go_enter Tryd.func26, Tryd.ntmps26
    go_wp2_with fail
    refine (HN.out).mono ?_
    rintro e w' ⟨rfl, rfl⟩
    go_wp2_with fail
    refine (HK.out).mono ?_
    rintro e w' ⟨rfl, rfl⟩
    go_wp2
    go_ret
    exact ⟨rfl, rfl⟩
  rw [if_neg h0] at hu
  have q0 : ((kindF b : Int) == 0) = false := by rw [beq_eq_false_iff_ne]; omega
  have hns : b ≠ 9223372036854775808 := by rintro rfl; exact h0 (by decide)
  by_cases hs : 9223372036854775808 ≤ b
  · rw [if_pos hs] at hu
    have e2 : (b : Int) - 1 = (U : Int) := by omega
    have hb1 : (9223372036854775808 : Int) < b := by omega
    have hb2 : (b : Int) < 18446744073709551616 := by omega
    have d1 : decide ((9223372036854775808 : Int) < (b : Int)) = true := by rw [decide_eq_true_eq]; omega
    generalize kindF b = K at *
    clear h4 hi h0 hs hu hns
    go_enter Tryd.func26, Tryd.ntmps26
    go_wp2_with fail
    refine (HN.out).mono ?_
    rintro e w' ⟨rfl, rfl⟩
    go_wp2_with fail
    refine (HK.out).mono ?_
    rintro e w' ⟨rfl, rfl⟩
    go_wp2
    go_ret
    exact ⟨rfl, rfl⟩
  · rw [if_neg hs] at hu
    have e2 : (b : Int) + 1 = (U : Int) := by omega
    have hb2 : (b : Int) < 9223372036854775808 := by omega
    have d1 : decide ((9223372036854775808 : Int) < (b : Int)) = false := by rw [decide_eq_false_iff_not]; omega
    generalize kindF b = K at *
    clear h4 hi h0 hs hu hns
    go_enter Tryd.func26, Tryd.ntmps26
    go_wp2_with fail
    refine (HN.out).mono ?_
    rintro e w' ⟨rfl, rfl⟩
    go_wp2_with fail
    refine (HK.out).mono ?_
    rintro e w' ⟨rfl, rfl⟩
    go_wp2
    go_ret
    exact ⟨rfl, rfl⟩

set_option maxRecDepth 100000 in
set_option maxHeartbeats 800000 in
theorem down2_any (b : Nat) (hb : b < 18446744073709551616) (w : World) : Calls Tryd.prog 28 #[.int .u64 (b : Int)] w (NatOne w (downF b)) := by
  have HN := Lib.hid (nan2_any b hb w)
  by_cases h4 : kindF b = 4
  · rw [show downF b = b from if_pos h4]
    rw [show (kindF b == 4) = true by rw [h4]; rfl] at HN
    clear h4
    go_enter Tryd.func28, Tryd.ntmps28
    go_wp2_with fail
    refine (HN.out).mono ?_
    rintro e w' ⟨rfl, rfl⟩
    go_wp2
    go_ret
    exact ⟨rfl, rfl⟩
  · rw [show downF b = flipF (upF (flipF b)) from if_neg h4]
    rw [show (kindF b == 4) = false by rw [beq_eq_false_iff_ne]; exact h4] at HN
    have H1 := Lib.hid (turn_any b hb w)
    have H2 := Lib.hid (up2_any (flipF b) (flip_neg hb).1 w)
    have H3 := Lib.hid (turn_any (upF (flipF b)) (up_lt (flip_neg hb).1) w)
    generalize upF (flipF b) = U at *
    generalize flipF b = F at *
    generalize flipF U = V at *
    clear h4
    go_enter Tryd.func28, Tryd.ntmps28
    go_wp2_with fail
    refine (HN.out).mono ?_
    rintro e w' ⟨rfl, rfl⟩
    go_wp2_with fail
    refine (H1.out).mono ?_
    rintro e w' ⟨rfl, rfl⟩
    go_wp2_with fail
    refine (H2.out).mono ?_
    rintro e w' ⟨rfl, rfl⟩
    go_wp2_with fail
    refine (H3.out).mono ?_
    rintro e w' ⟨rfl, rfl⟩
    go_wp2
    go_ret
    exact ⟨rfl, rfl⟩
end Go.Proofs.YtcmdcclolkgjeaaDoor
