/- The walks of math.Ldexp and of the float of a whole number and a power of two. -/
import Derived.Test.YtlcgmniahdngdaaGreatDoorFCut
namespace Go.Proofs.YtlcgmniahdngdaaGreatDoor
open Go.RowKit

theorem i64_and2047 (n : Int) : bits .and .i64 n 2047 = n % 2048 := by
  have h127 : (BitVec.ofInt 64 2047).toNat = 2 ^ 11 - 1 := by decide
  have key : (BitVec.ofInt 64 n &&& BitVec.ofInt 64 2047).toNat = (n % ((2 ^ 64 : Nat) : Int)).toNat % 2 ^ 11 := by
    rw [BitVec.toNat_and, BitVec.toNat_ofInt, h127, Nat.and_two_pow_sub_one_eq_mod]
  show IntKind.i64.wrap ((BitVec.ofInt 64 n &&& BitVec.ofInt 64 2047).toNat : Nat) = n % 2048
  rw [key, IntKind.wrap_i64]
  omega
theorem clear_sign (b : Nat) (hb : b < 9223372036854775808) : bits .andNot .u64 (b : Int) 9223372036854775808 = (b : Int) := by
  have h := u64_andNot_nat b 9223372036854775808 (by omega) (by decide)
  rw [show (18446744073709551615 - 9223372036854775808 : Nat) = 2 ^ 63 - 1 by rfl, Nat.and_two_pow_sub_one_eq_mod, Nat.mod_eq_of_lt (by omega)] at h
  exact h
theorem clear_expo (b : Nat) (hb : b < 9223372036854775808) : bits .andNot .u64 (b : Int) 9218868437227405312 = (frac b : Int) := by
  have h := u64_andNot_nat b 9218868437227405312 (by omega) (by decide)
  have e0 : (18446744073709551615 - 9218868437227405312 : Nat) = 2 ^ 63 ||| (2 ^ 52 - 1) := by decide
  have e1 : b &&& (2 ^ 63) = 0 := by
    apply Nat.eq_of_testBit_eq
    intro i
    rw [Nat.testBit_and, Nat.zero_testBit]
    by_cases hi : i = 63
    · subst hi
      rw [Nat.testBit_lt_two_pow (by omega)]; rfl
    · rw [Nat.testBit_two_pow_of_ne (Ne.symm hi), Bool.and_false]
  rw [e0, Nat.and_or_distrib_left, e1, Nat.and_two_pow_sub_one_eq_mod, Nat.zero_or] at h
  exact h
theorem or_expo (a f : Nat) (hf : f < 4503599627370496) (ha : a < 2048) : bits .or .u64 (f : Int) ((a : Int) * 4503599627370496) = ((a * 4503599627370496 + f : Nat) : Int) := by
  have h := u64_or_nat f (a * 4503599627370496) (by omega) (by omega)
  have e : f ||| (a * 4503599627370496) = a * 4503599627370496 + f := by
    have := Nat.two_pow_add_eq_or_of_lt (i := 52) (b := f) hf a
    rw [Nat.or_comm, Nat.mul_comm a]
    exact this.symm
  rw [e] at h
  have c : ((a * 4503599627370496 : Nat) : Int) = (a : Int) * 4503599627370496 := by omega
  rw [c] at h
  exact h

set_option maxRecDepth 100000 in
theorem abs_any (b : Nat) (hb : b < 9223372036854775808) (w : World) : Calls Tryz.prog 126 #[.float .f64 b] w (OneFloat w b) := by
  have h := call_bits b
  have h2 := call_of b
  have h3 := clear_sign b hb
  clear hb
  go_enter Tryz.func126, Tryz.ntmps126
  go_wp2
  go_ret
  exact ⟨rfl, rfl⟩
set_option maxRecDepth 100000 in
theorem isinf_low (b : Nat) (hb : b < 9218868437227405312) (w : World) : Calls Tryz.prog 117 #[.float .f64 b, .int .i64 0] w (OneBool w false) := by
  have HA := Lib.hid (abs_any b (by omega))
  have e1 : (FloatKind.f64.format.order b 9218868437227405311 == some .gt) = false := by
    have := order_low (b := b) (c := 9218868437227405311) (by omega) (by decide)
    change dbl.order b _ = _ at this
    change (dbl.order b _ == _) = _
    rw [this]
    by_cases h : b < 9218868437227405311
    · rw [if_pos h]; rfl
    · rw [if_neg h, if_pos (by omega)]; rfl
  clear hb
  go_enter Tryz.func117, Tryz.ntmps117
  go_wp2_with fail
  refine (HA.out _).mono ?_
  rintro e w' ⟨rfl, rfl⟩
  go_wp2
  go_ret
  exact ⟨rfl, rfl⟩
set_option maxRecDepth 100000 in
theorem isnan_low (b : Nat) (hb : b < 9218868437227405312) (w : World) : Calls Tryz.prog 118 #[.float .f64 b] w (OneBool w false) := by
  have e1 : (FloatKind.f64.format.order b b != some .eq) = false := by
    have := order_low (b := b) (c := b) (by omega) (by omega)
    rw [if_neg (Nat.lt_irrefl b), if_pos rfl] at this
    change (dbl.order b b != _) = _
    rw [this]; rfl
  clear hb
  go_enter Tryz.func118, Tryz.ntmps118
  go_wp2
  go_ret
  exact ⟨rfl, rfl⟩
set_option maxRecDepth 100000 in
theorem normal_any (b : Nat) (h1 : 4503599627370496 ≤ b) (hb : b < 9218868437227405312) (w : World) : Calls Tryz.prog 119 #[.float .f64 b] w fun e w' => e = .returned (.tuple #[.float .f64 b, .int .i64 0]) ∧ w = w' := by
  have HA := Lib.hid (abs_any b (by omega))
  have e1 : (FloatKind.f64.format.order b 4503599627370496 == some .lt) = false := by
    have := order_low (b := b) (c := 4503599627370496) (by omega) (by decide)
    change (dbl.order b _ == _) = _
    rw [this, if_neg (by omega)]
    by_cases h : b = 4503599627370496
    · rw [if_pos h]; rfl
    · rw [if_neg h]; rfl
  clear hb h1
  go_enter Tryz.func119, Tryz.ntmps119
  go_wp2_with fail
  refine (HA.out _).mono ?_
  rintro e w' ⟨rfl, rfl⟩
  go_wp2
  go_ret2
  exact ⟨rfl, rfl⟩
theorem inf_one (w : World) : Calls Tryz.prog 57 #[.int .i64 1] w (OneFloat w 9218868437227405312) := by
  have h : ∀ w, (callFunc 73 #[.int .u64 9218868437227405312]).run Tryz.prog w = .ok (.value (.float .f64 9218868437227405312)) w := fun w => by kernel_rfl
  go_enter Tryz.func57, Tryz.ntmps57
  go_wp2
  go_ret
  exact ⟨rfl, rfl⟩

/-- What Ldexp gives of a whole number m: some float; and the float that stands for it, if there is one. -/
def LdPost (w : World) (m : Nat) (n : Int) (e : Ending) (w' : World) : Prop :=
  w = w' ∧ ∃ r, r < 9223372036854775808 ∧ e = .returned (.float .f64 r) ∧ ∀ c, c < 9223372036854775808 → kindF c < 3 → magF c = m * 2 ^ (n + 1074).toNat → r = c

set_option maxRecDepth 100000 in
theorem ldexp_zero (n : Int) (w : World) : Calls Tryz.prog 102 #[.float .f64 0, .int .i64 n] w (OneFloat w 0) := by
  have e1 : (FloatKind.f64.format.order 0 0 == some .eq) = true := by decide
  go_enter Tryz.func102, Tryz.ntmps102
  go_wp2
  go_ret
  exact ⟨rfl, rfl⟩

theorem mul_run {c y r : Nat} (h : dbl.mul c y = some r) (t : TypeId) (w : World) : (binOp .mul t (.float .f64 c) (.float .f64 y)).run Tryz.prog w = .ok (.float .f64 r) w := run_float_arith w .mul t .f64 c y r h
theorem near_le (m : Nat) (p : Int) : dbl.nearest false m p ≤ 9218868437227405312 := by
  unfold Ieee.Format.nearest
  by_cases h : m = 0
  · rw [if_pos h, word_eq, if_neg Bool.false_ne_true]; exact Nat.zero_le _
  · rw [if_neg h, word_eq, if_neg Bool.false_ne_true, dbl_inf]; exact Nat.min_le_right _ _
theorem mul_some {c d : Nat} (hc : c < 18446744073709551616) (hd : d < 18446744073709551616) (h1 : kindF c < 3) (h2 : kindF d < 3) (n1 : negF c = false) (n2 : negF d = false) : ∃ r, dbl.mul c d = some r ∧ r ≤ 9218868437227405312 := by
  obtain ⟨m, e, r1, v1⟩ := read_num hc h1
  obtain ⟨n, f, r2, v2⟩ := read_num hd h2
  have h3 := near_le (m * n) (-1074 + (e : Int) + (-1074 + (f : Int)))
  generalize hx : dbl.nearest false (m * n) (-1074 + (e : Int) + (-1074 + (f : Int))) = x at h3
  refine ⟨x, ?_, h3⟩
  unfold Ieee.Format.mul
  rw [r1, r2, n1, n2]
  exact congrArg some hx
/-- The two scales of Ldexp. -/
theorem one_mag (k : Nat) (hk : k = 1074) : 4607182418800017408 < 9218868437227405312 ∧ kindF 4607182418800017408 < 3 ∧ negF 4607182418800017408 = false ∧ magF 4607182418800017408 = 2 ^ k := by
  obtain ⟨K, hK⟩ : ∃ K, K = 1022 := ⟨_, rfl⟩
  obtain ⟨h1, h2, h3, h4, h5, h6⟩ := form_of (a := K) (q := 4503599627370496) (by decide) (by decide) (by omega)
  have e : K * 4503599627370496 + 4503599627370496 = 4607182418800017408 := by omega
  rw [e] at h4 h5 h6
  refine ⟨by decide, h4, h5, ?_⟩
  rw [h6, show (4503599627370496 : Nat) = 2 ^ 52 by rfl, ← Nat.pow_add, show 52 + K = k by omega]
theorem scale_mag (k : Nat) (hk : k = 1021) : 4368491638549381120 < 9218868437227405312 ∧ kindF 4368491638549381120 < 3 ∧ negF 4368491638549381120 = false ∧ magF 4368491638549381120 = 2 ^ k := by
  obtain ⟨K, hK⟩ : ∃ K, K = 969 := ⟨_, rfl⟩
  obtain ⟨h1, h2, h3, h4, h5, h6⟩ := form_of (a := K) (q := 4503599627370496) (by decide) (by decide) (by omega)
  have e : K * 4503599627370496 + 4503599627370496 = 4368491638549381120 := by omega
  rw [e] at h4 h5 h6
  refine ⟨by decide, h4, h5, ?_⟩
  rw [h6, show (4503599627370496 : Nat) = 2 ^ 52 by rfl, ← Nat.pow_add, show 52 + K = k by omega]
/-- What the product with 1 is. -/
theorem mul_one_exact {y : Nat} (hy : y < 9218868437227405312) (hk : kindF y < 3) (hn : negF y = false) : dbl.mul 4607182418800017408 y = some y := by
  obtain ⟨k, hk2⟩ : ∃ k, k = 1074 := ⟨_, rfl⟩
  obtain ⟨a1, a2, a3, a4⟩ := one_mag k hk2
  exact mul_exact (by omega) (by omega) (by omega) a2 hk hk (by rw [a3, hn]; rfl) k hk2 (by rw [a4, Nat.mul_comm])
theorem call_word (T F : Nat) (w : World) : (callFunc 73 #[.int .u64 ((T : Int) * 4503599627370496 + (F : Int))]).run Tryz.prog w = .ok (.value (.float .f64 (T * 4503599627370496 + F))) w := by
  have h := call_of (T * 4503599627370496 + F) w
  rwa [show ((T * 4503599627370496 + F : Nat) : Int) = (T : Int) * 4503599627370496 + (F : Int) by omega] at h
set_option maxRecDepth 100000 in
set_option maxHeartbeats 1600000 in
theorem ldexp_num (m : Nat) (h0 : m ≠ 0) (hm : m < 9007199254740992) (n : Int) (hn : -1074 ≤ n ∧ n ≤ 1023) (w : World) : Calls Tryz.prog 102 #[.float .f64 (flN m), .int .i64 n] w (LdPost w m n) := by
  have hL := log_52 h0 hm
  obtain ⟨q1, q2⟩ := top_form h0 hm
  obtain ⟨i1, i2, i3, i4, i5, i6⟩ := form_of (a := 1022 + m.log2) q1 q2 (by omega)
  have hfl : flN m = (1022 + m.log2) * 4503599627370496 + m * 2 ^ (52 - m.log2) := rfl
  rw [← hfl] at i1 i2 i3 i4 i5 i6
  have hb1 : 4503599627370496 ≤ flN m := by omega
  have hcb := call_bits (flN m)
  have hco := call_of
  have HN := Lib.hid (normal_any (flN m) hb1 i1)
  have HI := Lib.hid (isinf_low (flN m) i1)
  have HA := Lib.hid (isnan_low (flN m) i1)
  have HINF := Lib.hid inf_one
  have e1 : (FloatKind.f64.format.order (flN m) 0 == some .eq) = false := by
    change (dbl.order _ _ == _) = _
    rw [order_low (by omega) (by decide), if_neg (by omega), if_neg (by omega)]; rfl
  have e2 : (FloatKind.f64.format.order (flN m) 0 == some .lt) = false := by
    change (dbl.order _ _ == _) = _
    rw [order_low (by omega) (by decide), if_neg (by omega), if_neg (by omega)]; rfl
  have e3 : bits .and .i64 ((flN m : Int) / 4503599627370496) 2047 = ((1023 + m.log2 : Nat) : Int) := by rw [i64_and2047]; omega
  have e4 := clear_expo (flN m) (by omega)
  have hq3 : frac (flN m) = m * 2 ^ (52 - m.log2) - 4503599627370496 := i3
  have hval : ∀ c, magF c = m * 2 ^ (n + 1074).toNat → m * 2 ^ (52 - m.log2) * 2 ^ (n + 1074).toNat = magF c * 2 ^ (52 - m.log2) := fun c hc => by
    rw [hc, Nat.mul_assoc, Nat.mul_assoc, Nat.mul_comm (2 ^ (52 - m.log2))]
  generalize flN m = B at *
  by_cases hov : 1023 < n + m.log2
  · -- too great
    have hres : LdPost w m n (.returned (.float .f64 9218868437227405312)) w := by
      refine ⟨rfl, _, by decide, rfl, fun c hc hk hmag => ?_⟩
      exfalso
      have hr := (kind_num c).1 hk
      obtain ⟨a, q, ea, hq, ha, hl⟩ := mag_form c hc
      have hM : magF c = q * 2 ^ a := by rw [ea]; exact mag_at a q hq ha hl
      have hcr : c < 9218868437227405312 := by unfold rungF at hr; omega
      have ha2 : a ≤ 2045 := by omega
      have h1 := hval c hmag
      rw [hM] at h1
      have h2 : 4503599627370496 * 2 ^ (n + 1074).toNat ≤ q * 2 ^ a * 2 ^ (52 - m.log2) := by rw [← h1]; exact Nat.mul_le_mul_right _ q1
      have h3 : q * (2 ^ a * 2 ^ (52 - m.log2)) < 9007199254740992 * (2 ^ a * 2 ^ (52 - m.log2)) := Nat.mul_lt_mul_of_pos_right hq (Nat.mul_pos (pow_pos2 _) (pow_pos2 _))
      rw [Nat.mul_assoc] at h2
      have h4 := Nat.lt_of_le_of_lt h2 h3
      rw [← Nat.pow_add, show (4503599627370496 : Nat) = 2 ^ 52 by rfl, show (9007199254740992 : Nat) = 2 ^ 53 by rfl, ← Nat.pow_add, ← Nat.pow_add] at h4
      have h5 := (Nat.pow_lt_pow_iff_right (by decide : 1 < 2)).1 h4
      omega
    have HRES := Lib.hid hres
    generalize m.log2 = L at *
    clear hval hres hfl q1 q2 i2 i3 i4 i5 i6 e4 hq3 hco hm h0 hb1
    go_enter Tryz.func102, Tryz.ntmps102
    go_wp2_with fail
    refine (HI.out _).mono ?_
    rintro e w' ⟨rfl, rfl⟩
    go_wp2_with fail
    refine (HA.out _).mono ?_
    rintro e w' ⟨rfl, rfl⟩
    go_wp2_with fail
    refine (HN.out _).mono ?_
    rintro e w' ⟨rfl, rfl⟩
    go_wp2_with fail
    refine (HINF.out _).mono ?_
    rintro e w' ⟨rfl, rfl⟩
    go_wp2
    go_ret
    exact HRES.out
  by_cases hsm : n + m.log2 < -1022
  · obtain ⟨T, hT⟩ : ∃ T : Nat, n + (1023 + (m.log2 : Int) - 1023) + 53 + 1023 = (T : Int) := ⟨(n + m.log2 + 53 + 1023).toNat, by omega⟩
    have hfr : frac B < 4503599627370496 := Nat.mod_lt _ (by decide)
    have e5 := or_expo T (frac B) hfr (by omega)
    obtain ⟨j1, j2, j3, j4, j5, j6⟩ := form_of (a := T - 1) q1 q2 (by omega)
    have hy : (T - 1) * 4503599627370496 + m * 2 ^ (52 - m.log2) = T * 4503599627370496 + frac B := by omega
    rw [hy] at j1 j4 j5 j6
    obtain ⟨k1, hk1⟩ : ∃ k, k = 1021 := ⟨_, rfl⟩
    obtain ⟨k2, hk2⟩ : ∃ k, k = 1074 := ⟨_, rfl⟩
    obtain ⟨a1, a2, a3, a4⟩ := scale_mag k1 hk1
    obtain ⟨r, hmul, hrl⟩ := mul_some (c := 4368491638549381120) (d := T * 4503599627370496 + frac B) (by omega) (by omega) a2 j4 a3 j5
    have hres : LdPost w m n (.returned (.float .f64 r)) w := by
      refine ⟨rfl, r, by omega, rfl, fun c hc hk hmag => ?_⟩
      have hnc : negF c = false := by unfold negF; rw [decide_eq_false_iff_not]; omega
      have := mul_exact (c := 4368491638549381120) (d := T * 4503599627370496 + frac B) (b := c) (by omega) (by omega) (by omega) a2 j4 hk (by rw [a3, j5, hnc]; rfl) k2 hk2 (by
        rw [a4, j6, hmag, Nat.mul_assoc, Nat.mul_left_comm, ← Nat.pow_add, ← Nat.pow_add, Nat.mul_assoc, ← Nat.pow_add]
        congr 2
        omega)
      rw [hmul] at this
      exact Option.some.inj this
    have HRES := Lib.hid hres
    have HM := Lib.hid (mul_run hmul)
    have HW := Lib.hid (call_word T (frac B))
    generalize frac B = F at *
    generalize m.log2 = L at *
    clear i2 i3 i4 i5 i6 hfl hres hmul hval hm h0 q1 q2 hq3 j1 j2 j3 j4 j5 j6 a1 a2 a3 a4 hy hrl hco
    have hm2 := HM.out
    have hw2 := HW.out
    go_enter Tryz.func102, Tryz.ntmps102
    go_wp2_with fail
    refine (HI.out _).mono ?_
    rintro e w' ⟨rfl, rfl⟩
    go_wp2_with fail
    refine (HA.out _).mono ?_
    rintro e w' ⟨rfl, rfl⟩
    go_wp2_with fail
    refine (HN.out _).mono ?_
    rintro e w' ⟨rfl, rfl⟩
    go_wp2
    go_ret
    exact HRES.out
  · obtain ⟨T, hT⟩ : ∃ T : Nat, n + (1023 + (m.log2 : Int) - 1023) + 1023 = (T : Int) := ⟨(n + m.log2 + 1023).toNat, by omega⟩
    have hfr : frac B < 4503599627370496 := Nat.mod_lt _ (by decide)
    have e5 := or_expo T (frac B) hfr (by omega)
    obtain ⟨j1, j2, j3, j4, j5, j6⟩ := form_of (a := T - 1) q1 q2 (by omega)
    have hy : (T - 1) * 4503599627370496 + m * 2 ^ (52 - m.log2) = T * 4503599627370496 + frac B := by omega
    rw [hy] at j1 j4 j5 j6
    have hmul := mul_one_exact j1 j4 j5
    have hres : LdPost w m n (.returned (.float .f64 (T * 4503599627370496 + frac B))) w := by
      refine ⟨rfl, _, by omega, rfl, fun c hc hk hmag => ?_⟩
      refine mag_inj (by omega) hc ?_
      rw [j6, hmag, Nat.mul_assoc, ← Nat.pow_add]
      congr 2
      omega
    have HRES := Lib.hid hres
    have HM := Lib.hid (mul_run hmul)
    have HW := Lib.hid (call_word T (frac B))
    generalize frac B = F at *
    generalize m.log2 = L at *
    clear i2 i3 i4 i5 i6 hfl hres hmul hval hm h0 q1 q2 hq3 j1 j2 j3 j4 j5 j6 hy hco
    have hm2 := HM.out
    have hw2 := HW.out
    go_enter Tryz.func102, Tryz.ntmps102
    go_wp2_with fail
    refine (HI.out _).mono ?_
    rintro e w' ⟨rfl, rfl⟩
    go_wp2_with fail
    refine (HA.out _).mono ?_
    rintro e w' ⟨rfl, rfl⟩
    go_wp2_with fail
    refine (HN.out _).mono ?_
    rintro e w' ⟨rfl, rfl⟩
    go_wp2
    go_ret
    exact HRES.out

set_option maxRecDepth 100000 in
theorem number_any (m : Nat) (hm : m < 9007199254740992) (n : Int) (hn : -1074 ≤ n ∧ n ≤ 1023) (w : World) : Calls Tryz.prog 61 #[.int .u64 (m : Int), .int .i64 n] w (LdPost w m n) := by
  obtain ⟨B, hB, HL⟩ : ∃ B, FloatKind.f64.nearest (m : Int) = B ∧ Hid (∀ w, Calls Tryz.prog 102 #[.float .f64 B, .int .i64 n] w (LdPost w m n)) := by
    by_cases h0 : m = 0
    · subst h0
      refine ⟨0, to_float0, fun w => (ldexp_zero n w).mono ?_⟩
      rintro e w' ⟨rfl, rfl⟩
      refine ⟨rfl, 0, by decide, rfl, fun c hc hk hmag => ?_⟩
      rw [Nat.zero_mul] at hmag
      have h2 : magF 0 = 0 := by decide
      exact mag_inj (by decide) hc (h2.trans hmag.symm)
    · exact ⟨_, to_float h0 hm, ldexp_num m h0 hm n hn⟩
  have hB2 : floatOfInt .f64 (m : Int) = B := hB
  have HL2 : Hid (∀ w, Calls Tryz.prog 77 #[.float .f64 B, .int .i64 n] w (LdPost w m n)) := fun w => by
    clear hB hB2 hm
    go_enter Tryz.func77, Tryz.ntmps77
    go_wp2_with fail
    refine (HL.out _).mono ?_
    rintro e w' ⟨rfl, r, h1, rfl, h2⟩
    have H2 := Lib.hid h2
    clear h2
    go_wp2
    go_ret
    exact ⟨rfl, r, h1, rfl, H2.out⟩
  clear HL hB
  go_enter Tryz.func61, Tryz.ntmps61
  go_wp2_with fail
  refine (HL2.out _).mono ?_
  rintro e w' ⟨rfl, r, h1, rfl, h2⟩
  have H2 := Lib.hid h2
  clear h2
  go_wp2
  go_ret
  exact ⟨rfl, r, h1, rfl, H2.out⟩
end Go.Proofs.YtlcgmniahdngdaaGreatDoor
