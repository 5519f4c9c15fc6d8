/- The walks of package masks: what each function computes. -/
import Derived.Test.YtheajimjmhocgaaDoorBase
import Derived.Test.YtheajimjmhocgaaDoorBits
namespace Go.Proofs.YtheajimjmhocgaaDoor
open Go.RowKit

theorem and_cast (a b : Nat) (x y : Int) (hx : x = a) (hy : y = b) (ha : a < 18446744073709551616) (hb : b < 18446744073709551616) : bits .and .u64 x y = ((a &&& b : Nat) : Int) := by
  subst hx; subst hy; exact u64_and_nat a b ha hb
theorem or_cast (a b : Nat) (x y : Int) (hx : x = a) (hy : y = b) (ha : a < 18446744073709551616) (hb : b < 18446744073709551616) : bits .or .u64 x y = ((a ||| b : Nat) : Int) := by
  subst hx; subst hy; exact u64_or_nat a b ha hb

set_option maxHeartbeats 400000 in
theorem ones_any (x : Nat) (hx : x < 18446744073709551616) (w : World) :
    Calls Tryd.prog 34 #[.int .u64 (x : Int)] w fun e w' => e = .returned (.int .i64 (cntW (fun j => x.testBit j) 64 : Nat)) ∧ w = w' := by
  have key := popcount x hx
  dsimp only at key
  generalize cntW (fun j => x.testBit j) 64 = N at key ⊢
  have e1 := and_cast (x / 2) 6148914691236517205 ((x : Int) / 2) 6148914691236517205 (by omega) rfl (by omega) (by decide)
  have e2 := and_cast x 6148914691236517205 (x : Int) 6148914691236517205 rfl rfl hx (by decide)
  generalize x / 2 &&& 6148914691236517205 = A at key e1
  generalize x &&& 6148914691236517205 = B at key e2
  obtain ⟨k1, k2, k3, k4, k5, k6, k7⟩ := key
  have e3 := and_cast ((A + B) / 4) 3689348814741910323 (((A : Int) + B) / 4) 3689348814741910323 (by omega) rfl (by omega) (by decide)
  have e4 := and_cast (A + B) 3689348814741910323 ((A : Int) + B) 3689348814741910323 (by omega) rfl (by omega) (by decide)
  generalize (A + B) / 4 &&& 3689348814741910323 = C at *
  generalize (A + B) &&& 3689348814741910323 = D at *
  have e5 := and_cast ((C + D) / 16 + (C + D)) 1085102592571150095 (((C : Int) + D) / 16 + (C + D)) 1085102592571150095 (by omega) rfl (by omega) (by decide)
  generalize ((C + D) / 16 + (C + D)) &&& 1085102592571150095 = E at *
  have e6 : bits .and .i64 ((E : Int) + E / 256 + ((E : Int) + E / 256) / 65536 + ((E : Int) + E / 256 + ((E : Int) + E / 256) / 65536) / 4294967296) 127 = N := by
    have h := i64_and_nat (((E / 256 + E) / 65536 + (E / 256 + E)) / 4294967296 + ((E / 256 + E) / 65536 + (E / 256 + E))) 127 (by omega) (by decide)
    rw [show ((127 : Nat) : Int) = 127 from rfl, Nat.and_two_pow_sub_one_eq_mod _ 7, show (2 : Nat) ^ 7 = 128 from rfl, k7] at h
    rw [← h]
    have q1 : (E : Int) + E / 256 = ((E / 256 + E : Nat) : Int) := by omega
    rw [q1]
    generalize E / 256 + E = F
    have q2 : (F : Int) + F / 65536 = ((F / 65536 + F : Nat) : Int) := by omega
    rw [q2]
    generalize F / 65536 + F = G
    have q3 : (G : Int) + G / 4294967296 = ((G / 4294967296 + G : Nat) : Int) := by omega
    rw [q3]
  have Hk := Lib.hid k7
  clear k7
  go_enter Tryd.func34, Tryd.ntmps34
  go_wp2
  go_ret
  exact ⟨rfl, rfl⟩

/-! ### The reference -/
set_option maxHeartbeats 400000 in
theorem in_any (x i : Nat) (hx : x < 18446744073709551616) (hi : i < 64) (w : World) :
    Calls Tryd.prog 31 #[.int .u64 (x : Int), .int .i64 (i : Int)] w fun e w' => e = .returned (.bool (x.testBit i)) ∧ w = w' := by
  have hb : x.testBit i = (((x / 2 ^ i : Nat) : Int) % 2 == 1) := by
    rw [Nat.testBit_eq_decide_div_mod_eq, Bool.eq_iff_iff]
    simp only [decide_eq_true_eq, beq_iff_eq]
    omega
  generalize x.testBit i = B at hb ⊢
  have Hb := Lib.hid hb
  clear hb
  go_enter Tryd.func31, Tryd.ntmps31
  go_wp2
  go_loop [0, 5] (fun v k => ∃ j : Nat, j ≤ i ∧ k = .int .i64 j ∧ v = .int .u64 ((x / 2 ^ j : Nat) : Int)) (fun _ k => i - (intOf k).toNat)
  case atStart => exact ⟨0, Nat.zero_le _, rfl, by simp⟩
  case round =>
    obtain ⟨j, hj, rfl, rfl⟩ := hrel
    have hle : x / 2 ^ j ≤ x := Nat.div_le_self _ _
    by_cases hlt : j < i
    · have hs : (x / 2 ^ (j + 1)) = x / 2 ^ j / 2 := by rw [Nat.pow_succ, Nat.div_div_eq_div_mul]
      have Hs := Lib.hid hs
      clear hs
      generalize hv : x / 2 ^ j = v at *
      have Hv := Lib.hid hv
      clear hv
      go_wp2
      go_round
      case rel => exact ⟨j + 1, by omega, by go_num, by rw [Hs.out]; simp⟩
      case measure => simp [intOf]; omega
    · obtain rfl : j = i := by omega
      generalize hv : x / 2 ^ j = v at *
      have Hv := Lib.hid hv
      clear hv
      go_wp2
      go_ret
      exact ⟨congrArg (fun z => Ending.returned (.bool z)) (by rw [Hb.out]), rfl⟩

set_option maxHeartbeats 400000 in
theorem with_any (x i : Nat) (hx : x < 18446744073709551616) (hi : i < 64) (w : World) :
    Calls Tryd.prog 32 #[.int .u64 (x : Int), .int .i64 (i : Int)] w fun e w' => e = .returned (.int .u64 ((x ||| 2 ^ i : Nat) : Int)) ∧ w = w' := by
  have hb := u64_or_nat x (2 ^ i) hx (Nat.lt_of_lt_of_le (Nat.pow_lt_pow_right (by decide) hi) (Nat.le_refl _))
  generalize hz : ((x ||| 2 ^ i : Nat) : Int) = z at hb ⊢
  clear hz
  go_enter Tryd.func32, Tryd.ntmps32
  go_wp2
  go_loop [5, 6] (fun v k => ∃ j : Nat, j ≤ i ∧ k = .int .i64 j ∧ v = .int .u64 ((2 ^ j : Nat) : Int)) (fun _ k => i - (intOf k).toNat)
  case atStart => exact ⟨0, Nat.zero_le _, rfl, by simp⟩
  case round =>
    obtain ⟨j, hj, rfl, rfl⟩ := hrel
    by_cases hlt : j < i
    · have hs : (2 ^ (j + 1)) = 2 ^ j * 2 := Nat.pow_succ ..
      have hP : 2 ^ j ≤ 4611686018427387904 := Nat.le_trans (Nat.pow_le_pow_right (by decide) (show j ≤ 62 by omega)) (Nat.le_refl _)
      have Hs := Lib.hid hs
      clear hs
      generalize hv : 2 ^ j = v at *
      have Hv := Lib.hid hv
      clear hv
      go_wp2
      go_round
      case rel => exact ⟨j + 1, by omega, by go_num, by rw [Hs.out]; simp⟩
      case measure => simp [intOf]; omega
    · obtain rfl : j = i := by omega
      generalize hv : 2 ^ j = v at *
      have Hv := Lib.hid hv
      clear hv
      go_wp2
      go_ret
      exact ⟨rfl, rfl⟩

/-- The numbers of a run. -/
def runF (a b : Int) (j : Nat) : Bool := decide (a ≤ (j : Int)) && decide ((j : Int) < b)

set_option maxHeartbeats 400000 in
theorem rrun_any (a b : Int) (w : World) :
    Calls Tryd.prog 25 #[.int .i64 a, .int .i64 b] w fun e w' => e = .returned (.int .u64 ((mkW (runF a b) 64 : Nat) : Int)) ∧ w = w' := by
  go_enter Tryd.func25, Tryd.ntmps25
  go_wp2
  go_loop [5, 6] (fun v k => ∃ j : Nat, j ≤ 64 ∧ k = .int .i64 j ∧ v = .int .u64 ((mkW (runF a b) j : Nat) : Int)) (fun _ k => 64 - (intOf k).toNat)
  case atStart => exact ⟨0, Nat.zero_le _, rfl, rfl⟩
  case round =>
    obtain ⟨j, hj, rfl, rfl⟩ := hrel
    by_cases hlt : j < 64
    · have hx := mkW_lt64 (runF a b) hj
      have hs : mkW (runF a b) (j + 1) = mkW (runF a b) j ||| (if runF a b j then 2 ^ j else 0) := rfl
      unfold runF at hs
      by_cases h1 : a ≤ (j : Int)
      · by_cases h2 : (j : Int) < b
        · simp only [h1, h2, decide_true, Bool.and_self, if_true] at hs
          have Hs := Lib.hid hs
          clear hs
          change Hid (mkW (runF a b) (j + 1) = mkW (runF a b) j ||| 2 ^ j) at Hs
          generalize mkW (runF a b) j = v at *
          go_wp2_with (go_at_call 32; refine (with_any _ j hx hlt _).mono ?_; rintro e w' ⟨rfl, rfl⟩)
          go_round
          case rel => exact ⟨j + 1, by omega, by go_num, by rw [Hs.out]⟩
          case measure => simp [intOf]; omega
        · simp only [h1, h2, decide_true, decide_false, Bool.and_false, Bool.false_eq_true, if_false, Nat.or_zero] at hs
          have Hs := Lib.hid hs
          clear hs
          change Hid (mkW (runF a b) (j + 1) = mkW (runF a b) j) at Hs
          generalize mkW (runF a b) j = v at *
          go_wp2
          go_round
          case rel => exact ⟨j + 1, by omega, by go_num, by rw [Hs.out]⟩
          case measure => simp [intOf]; omega
      · simp only [h1, decide_false, Bool.false_and, Bool.false_eq_true, if_false, Nat.or_zero] at hs
        have Hs := Lib.hid hs
        clear hs
        change Hid (mkW (runF a b) (j + 1) = mkW (runF a b) j) at Hs
        generalize mkW (runF a b) j = v at *
        go_wp2
        go_round
        case rel => exact ⟨j + 1, by omega, by go_num, by rw [Hs.out]⟩
        case measure => simp [intOf]; omega
    · obtain rfl : j = 64 := by omega
      go_wp2
      go_ret
      exact ⟨rfl, rfl⟩

/-- The numbers of a run that are in a word. -/
def inF (x : Nat) (a b : Int) (j : Nat) : Bool := decide (a ≤ (j : Int)) && (decide ((j : Int) < b) && x.testBit j)

set_option maxHeartbeats 800000 in
theorem rcount_any (x : Nat) (hx : x < 18446744073709551616) (a b : Int) (w : World) :
    Calls Tryd.prog 26 #[.int .u64 (x : Int), .int .i64 a, .int .i64 b] w fun e w' => e = .returned (.int .i64 ((cntW (inF x a b) 64 : Nat) : Int)) ∧ w = w' := by
  go_enter Tryd.func26, Tryd.ntmps26
  go_wp2
  go_loop [7, 8] (fun v k => ∃ j : Nat, j ≤ 64 ∧ k = .int .i64 j ∧ v = .int .i64 ((cntW (inF x a b) j : Nat) : Int)) (fun _ k => 64 - (intOf k).toNat)
  case atStart => exact ⟨0, Nat.zero_le _, rfl, rfl⟩
  case round =>
    obtain ⟨j, hj, rfl, rfl⟩ := hrel
    by_cases hlt : j < 64
    · have hle := cntW_le (inF x a b) j
      have hs : cntW (inF x a b) (j + 1) = cntW (inF x a b) j + (if inF x a b j then 1 else 0) := rfl
      generalize hB : x.testBit j = B
      have HB := Lib.hid hB
      clear hB
      have hF : inF x a b j = (decide (a ≤ (j : Int)) && (decide ((j : Int) < b) && B)) := by unfold inF; rw [HB.out]
      rw [hF] at hs
      clear hF
      generalize cntW (inF x a b) j = v at *
      by_cases h1 : a ≤ (j : Int)
      · by_cases h2 : (j : Int) < b
        · have hc := in_any x j hx hlt w
          rw [HB.out] at hc
          cases B with
          | true =>
            simp only [h1, h2, decide_true, Bool.and_self, if_true] at hs
            have Hs := Lib.hid hs
            clear hs
            have Hc := Lib.hid hc
            clear hc
            go_wp2_with (go_at_call 31; refine (Hc.out).mono ?_; rintro e w' ⟨rfl, rfl⟩)
            go_round
            case rel => exact ⟨j + 1, by omega, by go_num, by rw [Hs.out]; go_num⟩
            case measure => simp [intOf]; omega
          | false =>
            simp only [h1, h2, decide_true, Bool.and_false, Bool.false_eq_true, if_false, Nat.add_zero] at hs
            have Hs := Lib.hid hs
            clear hs
            have Hc := Lib.hid hc
            clear hc
            go_wp2_with (go_at_call 31; refine (Hc.out).mono ?_; rintro e w' ⟨rfl, rfl⟩)
            go_round
            case rel => exact ⟨j + 1, by omega, by go_num, by rw [Hs.out]⟩
            case measure => simp [intOf]; omega
        · simp only [h1, h2, decide_true, decide_false, Bool.false_and, Bool.and_false, Bool.false_eq_true, if_false, Nat.add_zero] at hs
          have Hs := Lib.hid hs
          clear hs
          go_wp2
          go_round
          case rel => exact ⟨j + 1, by omega, by go_num, by rw [Hs.out]⟩
          case measure => simp [intOf]; omega
      · simp only [h1, decide_false, Bool.false_and, Bool.false_eq_true, if_false, Nat.add_zero] at hs
        have Hs := Lib.hid hs
        clear hs
        go_wp2
        go_round
        case rel => exact ⟨j + 1, by omega, by go_num, by rw [Hs.out]⟩
        case measure => simp [intOf]; omega
    · obtain rfl : j = 64 := by omega
      go_wp2
      go_ret
      exact ⟨rfl, rfl⟩

theorem in_b (x i : Nat) (hx : x < 18446744073709551616) (hi : i < 64) (B : Bool) (hB : x.testBit i = B) (w : World) :
    Calls Tryd.prog 31 #[.int .u64 (x : Int), .int .i64 (i : Int)] w fun e w' => e = .returned (.bool B) ∧ w = w' := by
  subst hB; exact in_any x i hx hi w

/-- The numbers of a word from one on. -/
def fromF (x : Nat) (a : Int) (j : Nat) : Bool := decide (a ≤ (j : Int)) && x.testBit j

set_option maxHeartbeats 800000 in
theorem rnext_any (x : Nat) (hx : x < 18446744073709551616) (a : Int) (w : World) :
    Calls Tryd.prog 28 #[.int .u64 (x : Int), .int .i64 a] w fun e w' => e = .returned (.int .i64 ((firstW (fromF x a) 0 64 : Nat) : Int)) ∧ w = w' := by
  go_enter Tryd.func28, Tryd.ntmps28
  go_wp2
  go_loop [5] (fun k => ∃ j : Nat, j ≤ 64 ∧ k = .int .i64 j ∧ firstW (fromF x a) 0 64 = firstW (fromF x a) j (64 - j)) (fun k => 64 - (intOf k).toNat)
  case atStart => exact ⟨0, Nat.zero_le _, rfl, rfl⟩
  case round =>
    obtain ⟨j, hj, rfl, hf⟩ := hrel
    by_cases hlt : j < 64
    · rw [firstW_step _ hlt] at hf
      unfold fromF at hf
      change firstW (fromF x a) 0 64 = if (decide (a ≤ (j : Int)) && x.testBit j) = true then j else firstW (fromF x a) (j + 1) (64 - (j + 1)) at hf
      by_cases h1 : a ≤ (j : Int)
      · cases hB : x.testBit j with
        | true =>
          simp only [h1, hB, decide_true, Bool.and_self, if_true] at hf
          have Hf := Lib.hid hf
          clear hf
          have HB := Lib.hid hB
          clear hB
          go_wp2_with (go_at_call 31; refine (in_b x j hx hlt _ HB.out _).mono ?_; rintro e w' ⟨rfl, rfl⟩)
          go_ret
          exact ⟨congrArg (fun z : Nat => Ending.returned (.int .i64 (z : Int))) Hf.out.symm, rfl⟩
        | false =>
          simp only [h1, hB, decide_true, Bool.and_false, Bool.false_eq_true, if_false] at hf
          have Hf := Lib.hid hf
          clear hf
          have HB := Lib.hid hB
          clear hB
          go_wp2_with (go_at_call 31; refine (in_b x j hx hlt _ HB.out _).mono ?_; rintro e w' ⟨rfl, rfl⟩)
          go_round
          case rel => exact ⟨j + 1, by omega, by go_num, Hf.out⟩
          case measure => simp [intOf]; omega
      · simp only [h1, decide_false, Bool.false_and, Bool.false_eq_true, if_false] at hf
        have Hf := Lib.hid hf
        clear hf
        go_wp2
        go_round
        case rel => exact ⟨j + 1, by omega, by go_num, Hf.out⟩
        case measure => simp [intOf]; omega
    · obtain rfl : j = 64 := by omega
      have hf' : firstW (fromF x a) 0 64 = 64 := hf
      have Hf := Lib.hid hf'
      clear hf hf'
      go_wp2
      go_ret
      exact ⟨congrArg (fun z : Nat => Ending.returned (.int .i64 (z : Int))) Hf.out.symm, rfl⟩

/-- The numbers of a word below one. -/
def belowF (x : Nat) (b : Int) (j : Nat) : Bool := decide ((j : Int) < b) && x.testBit j

set_option maxHeartbeats 800000 in
theorem rlast_any (x : Nat) (hx : x < 18446744073709551616) (b : Int) (w : World) :
    Calls Tryd.prog 30 #[.int .u64 (x : Int), .int .i64 b] w fun e w' => e = .returned (.int .i64 (lastW (belowF x b) 64)) ∧ w = w' := by
  go_enter Tryd.func30, Tryd.ntmps30
  go_wp2
  go_loop [5, 6] (fun v k => ∃ j : Nat, j ≤ 64 ∧ k = .int .i64 j ∧ v = .int .i64 (lastW (belowF x b) j)) (fun _ k => 64 - (intOf k).toNat)
  case atStart => exact ⟨0, Nat.zero_le _, rfl, rfl⟩
  case round =>
    obtain ⟨j, hj, rfl, rfl⟩ := hrel
    by_cases hlt : j < 64
    · have hs : lastW (belowF x b) (j + 1) = if (decide ((j : Int) < b) && x.testBit j) = true then (j : Int) else lastW (belowF x b) j := rfl
      generalize lastW (belowF x b) j = v at *
      by_cases h1 : (j : Int) < b
      · cases hB : x.testBit j with
        | true =>
          simp only [h1, hB, decide_true, Bool.and_self, if_true] at hs
          have Hs := Lib.hid hs
          clear hs
          have HB := Lib.hid hB
          clear hB
          go_wp2_with (go_at_call 31; refine (in_b x j hx hlt _ HB.out _).mono ?_; rintro e w' ⟨rfl, rfl⟩)
          go_round
          case rel => exact ⟨j + 1, by omega, by go_num, by rw [Hs.out]⟩
          case measure => simp [intOf]; omega
        | false =>
          simp only [h1, hB, decide_true, Bool.and_false, Bool.false_eq_true, if_false] at hs
          have Hs := Lib.hid hs
          clear hs
          have HB := Lib.hid hB
          clear hB
          go_wp2_with (go_at_call 31; refine (in_b x j hx hlt _ HB.out _).mono ?_; rintro e w' ⟨rfl, rfl⟩)
          go_round
          case rel => exact ⟨j + 1, by omega, by go_num, by rw [Hs.out]⟩
          case measure => simp [intOf]; omega
      · simp only [h1, decide_false, Bool.false_and, Bool.false_eq_true, if_false] at hs
        have Hs := Lib.hid hs
        clear hs
        go_wp2
        go_round
        case rel => exact ⟨j + 1, by omega, by go_num, by rw [Hs.out]⟩
        case measure => simp [intOf]; omega
    · obtain rfl : j = 64 := by omega
      go_wp2
      go_ret
      exact ⟨rfl, rfl⟩

set_option maxHeartbeats 1600000 in
theorem rpack_any (x m : Nat) (hx : x < 18446744073709551616) (hm : m < 18446744073709551616) (w : World) :
    Calls Tryd.prog 10 #[.int .u64 (x : Int), .int .u64 (m : Int)] w fun e w' => e = .returned (.int .u64 (((packS x m 64).1 : Nat) : Int)) ∧ w = w' := by
  go_enter Tryd.func10, Tryd.ntmps10
  go_wp2
  go_loop [5, 6, 7] (fun v c k => ∃ j : Nat, j ≤ 64 ∧ k = .int .i64 j ∧ v = .int .u64 (((packS x m j).1 : Nat) : Int) ∧ c = .int .i64 (((packS x m j).2 : Nat) : Int)) (fun _ _ k => 64 - (intOf k).toNat)
  case atStart => exact ⟨0, Nat.zero_le _, rfl, rfl, rfl⟩
  case round =>
    obtain ⟨j, hj, rfl, rfl, rfl⟩ := hrel
    by_cases hlt : j < 64
    · obtain ⟨hk, hv⟩ := packS_le x m j
      have hv' := lt64_of_pow hv hj
      clear hv
      have hs : packS x m (j + 1) = if m.testBit j = true then (if x.testBit j = true then (packS x m j).1 ||| 2 ^ (packS x m j).2 else (packS x m j).1, (packS x m j).2 + 1) else packS x m j := rfl
      generalize packS x m j = v at *
      obtain ⟨v, c⟩ := v
      dsimp only at hk hv' hs ⊢
      have hk' : c < 64 := by omega
      cases hM : m.testBit j with
      | false =>
        rw [hM] at hs
        simp only [Bool.false_eq_true, if_false] at hs
        have Hs := Lib.hid hs
        clear hs
        have HM := Lib.hid hM
        clear hM
        go_wp2_with (go_at_call 31; refine (in_b m j hm hlt _ HM.out _).mono ?_; rintro e w' ⟨rfl, rfl⟩)
        go_round
        case rel => exact ⟨j + 1, by omega, by go_num, by rw [Hs.out], by rw [Hs.out]⟩
        case measure => simp [intOf]; omega
      | true =>
        cases hB : x.testBit j with
        | true =>
          rw [hM, hB] at hs
          simp only [if_true] at hs
          have Hs := Lib.hid hs
          clear hs
          have HM := Lib.hid hM
          clear hM
          have HB := Lib.hid hB
          clear hB
          go_wp2_with fail
          refine (in_b m j hm hlt _ HM.out _).mono ?_
          rintro e w' ⟨rfl, rfl⟩
          go_wp2_with fail
          refine (in_b x j hx hlt _ HB.out _).mono ?_
          rintro e w' ⟨rfl, rfl⟩
          go_wp2_with (go_at_call 32; refine (with_any _ c hv' hk' _).mono ?_; rintro e w' ⟨rfl, rfl⟩)
          go_round
          case rel => exact ⟨j + 1, by omega, by go_num, by rw [Hs.out], by rw [Hs.out]; go_num⟩
          case measure => simp [intOf]; omega
        | false =>
          rw [hM, hB] at hs
          simp only [if_true, Bool.false_eq_true, if_false] at hs
          have Hs := Lib.hid hs
          clear hs
          have HM := Lib.hid hM
          clear hM
          have HB := Lib.hid hB
          clear hB
          go_wp2_with fail
          refine (in_b m j hm hlt _ HM.out _).mono ?_
          rintro e w' ⟨rfl, rfl⟩
          go_wp2_with fail
          refine (in_b x j hx hlt _ HB.out _).mono ?_
          rintro e w' ⟨rfl, rfl⟩
          go_wp2
          go_round
          case rel => exact ⟨j + 1, by omega, by go_num, by rw [Hs.out], by rw [Hs.out]; go_num⟩
          case measure => simp [intOf]; omega
    · obtain rfl : j = 64 := by omega
      go_wp2
      go_ret
      exact ⟨rfl, rfl⟩

set_option maxHeartbeats 1600000 in
theorem rspread_any (x m : Nat) (hx : x < 18446744073709551616) (hm : m < 18446744073709551616) (w : World) :
    Calls Tryd.prog 12 #[.int .u64 (x : Int), .int .u64 (m : Int)] w fun e w' => e = .returned (.int .u64 (((spreadS x m 64).1 : Nat) : Int)) ∧ w = w' := by
  go_enter Tryd.func12, Tryd.ntmps12
  go_wp2
  go_loop [5, 6, 7] (fun v c k => ∃ j : Nat, j ≤ 64 ∧ k = .int .i64 j ∧ v = .int .u64 (((spreadS x m j).1 : Nat) : Int) ∧ c = .int .i64 (((spreadS x m j).2 : Nat) : Int)) (fun _ _ k => 64 - (intOf k).toNat)
  case atStart => exact ⟨0, Nat.zero_le _, rfl, rfl, rfl⟩
  case round =>
    obtain ⟨j, hj, rfl, rfl, rfl⟩ := hrel
    by_cases hlt : j < 64
    · obtain ⟨hk, hv⟩ := spreadS_le x m j
      have hv' := lt64_of_pow hv hj
      clear hv
      have hs : spreadS x m (j + 1) = if m.testBit j = true then (if x.testBit (spreadS x m j).2 = true then (spreadS x m j).1 ||| 2 ^ j else (spreadS x m j).1, (spreadS x m j).2 + 1) else spreadS x m j := rfl
      generalize spreadS x m j = v at *
      obtain ⟨v, c⟩ := v
      dsimp only at hk hv' hs ⊢
      have hk' : c < 64 := by omega
      cases hM : m.testBit j with
      | false =>
        rw [hM] at hs
        simp only [Bool.false_eq_true, if_false] at hs
        have Hs := Lib.hid hs
        clear hs
        have HM := Lib.hid hM
        clear hM
        go_wp2_with (go_at_call 31; refine (in_b m j hm hlt _ HM.out _).mono ?_; rintro e w' ⟨rfl, rfl⟩)
        go_round
        case rel => exact ⟨j + 1, by omega, by go_num, by rw [Hs.out], by rw [Hs.out]⟩
        case measure => simp [intOf]; omega
      | true =>
        cases hB : x.testBit c with
        | true =>
          rw [hM, hB] at hs
          simp only [if_true] at hs
          have Hs := Lib.hid hs
          clear hs
          have HM := Lib.hid hM
          clear hM
          have HB := Lib.hid hB
          clear hB
          go_wp2_with fail
          refine (in_b m j hm hlt _ HM.out _).mono ?_
          rintro e w' ⟨rfl, rfl⟩
          go_wp2_with fail
          refine (in_b x c hx hk' _ HB.out _).mono ?_
          rintro e w' ⟨rfl, rfl⟩
          go_wp2_with (go_at_call 32; refine (with_any _ j hv' hlt _).mono ?_; rintro e w' ⟨rfl, rfl⟩)
          go_round
          case rel => exact ⟨j + 1, by omega, by go_num, by rw [Hs.out], by rw [Hs.out]; go_num⟩
          case measure => simp [intOf]; omega
        | false =>
          rw [hM, hB] at hs
          simp only [if_true, Bool.false_eq_true, if_false] at hs
          have Hs := Lib.hid hs
          clear hs
          have HM := Lib.hid hM
          clear hM
          have HB := Lib.hid hB
          clear hB
          go_wp2_with fail
          refine (in_b m j hm hlt _ HM.out _).mono ?_
          rintro e w' ⟨rfl, rfl⟩
          go_wp2_with fail
          refine (in_b x c hx hk' _ HB.out _).mono ?_
          rintro e w' ⟨rfl, rfl⟩
          go_wp2
          go_round
          case rel => exact ⟨j + 1, by omega, by go_num, by rw [Hs.out], by rw [Hs.out]; go_num⟩
          case measure => simp [intOf]; omega
    · obtain rfl : j = 64 := by omega
      go_wp2
      go_ret
      exact ⟨rfl, rfl⟩

set_option maxHeartbeats 800000 in
theorem rturn_any (x : Nat) (hx : x < 18446744073709551616) (w : World) :
    Calls Tryd.prog 19 #[.int .u64 (x : Int)] w fun e w' => e = .returned (.int .u64 ((turnS x 64 : Nat) : Int)) ∧ w = w' := by
  go_enter Tryd.func19, Tryd.ntmps19
  go_wp2
  go_loop [3, 4] (fun v k => ∃ j : Nat, j ≤ 64 ∧ k = .int .i64 j ∧ v = .int .u64 ((turnS x j : Nat) : Int)) (fun _ k => 64 - (intOf k).toNat)
  case atStart => exact ⟨0, Nat.zero_le _, rfl, rfl⟩
  case round =>
    obtain ⟨j, hj, rfl, rfl⟩ := hrel
    by_cases hlt : j < 64
    · have hv := turnS_lt x j hj
      have hs : turnS x (j + 1) = if x.testBit j = true then turnS x j ||| 2 ^ (63 - j) else turnS x j := rfl
      generalize turnS x j = v at *
      have hv' : v < 18446744073709551616 := hv
      clear hv
      cases hB : x.testBit j with
      | true =>
        rw [hB] at hs
        simp only [if_true] at hs
        have Hs := Lib.hid hs
        clear hs
        have HB := Lib.hid hB
        clear hB
        go_wp2_with fail
        refine (in_b x j hx hlt _ HB.out _).mono ?_
        rintro e w' ⟨rfl, rfl⟩
        go_wp2_with fail
        rw [show (63 : Int) - (j : Int) = ((63 - j : Nat) : Int) by omega]
        refine (with_any _ (63 - j) hv' (by omega) _).mono ?_
        rintro e w' ⟨rfl, rfl⟩
        go_wp2
        go_round
        case rel => exact ⟨j + 1, by omega, by go_num, by rw [Hs.out]⟩
        case measure => simp [intOf]; omega
      | false =>
        rw [hB] at hs
        simp only [Bool.false_eq_true, if_false] at hs
        have Hs := Lib.hid hs
        clear hs
        have HB := Lib.hid hB
        clear hB
        go_wp2_with (go_at_call 31; refine (in_b x j hx hlt _ HB.out _).mono ?_; rintro e w' ⟨rfl, rfl⟩)
        go_round
        case rel => exact ⟨j + 1, by omega, by go_num, by rw [Hs.out]⟩
        case measure => simp [intOf]; omega
    · obtain rfl : j = 64 := by omega
      go_wp2
      go_ret
      exact ⟨rfl, rfl⟩
end Go.Proofs.YtheajimjmhocgaaDoor
