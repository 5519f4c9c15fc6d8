/- The walks of package masks: what each function computes. -/
import Derived.Test.YtheajimjmhocgaaDoorMasks
import Derived.Test.YtheajimjmhocgaaDoorBits3
import Derived.Test.YtheajimjmhocgaaDoorShelf
namespace Go.Proofs.YtheajimjmhocgaaDoor
open Go.RowKit

set_option maxHeartbeats 400000 in
theorem clip_n (n : Int) (A : Nat) (hA : min (max n 0) 64 = (A : Int)) (w : World) :
    Calls Tryd.prog 33 #[.int .i64 n] w fun e w' => e = .returned (.int .i64 (A : Int)) ∧ w = w' := by
  by_cases h1 : n < 0
  · have e : A = 0 := by omega
    subst e
    go_enter Tryd.func33, Tryd.ntmps33
    go_wp2
    go_ret
    exact ⟨rfl, rfl⟩
  · by_cases h2 : 64 < n
    · have e : A = 64 := by omega
      subst e
      go_enter Tryd.func33, Tryd.ntmps33
      go_wp2
      go_ret
      exact ⟨rfl, rfl⟩
    · have e : n = A := by omega
      subst e
      have h3 : A ≤ 64 := by omega
      clear h1 h2 hA
      go_enter Tryd.func33, Tryd.ntmps33
      go_wp2
      go_ret
      exact ⟨congrArg (fun z => Ending.returned (.int .i64 z)) (by omega : min (A : Int) 64 = A), rfl⟩

/-- Where a run's ends are cut. -/
theorem clip_ex (n : Int) : ∃ A : Nat, min (max n 0) 64 = (A : Int) ∧ A ≤ 64 ∧ ∀ j : Nat, j < 64 → ((n ≤ (j : Int)) ↔ A ≤ j) ∧ (((j : Int) < n) ↔ j < A) :=
  ⟨(min (max n 0) 64).toNat, by omega, by omega, fun j hj => ⟨by omega, by omega⟩⟩

set_option maxHeartbeats 400000 in
theorem run_any (a b : Int) (w : World) :
    Calls Tryd.prog 14 #[.int .i64 a, .int .i64 b] w fun e w' => e = .returned (.int .u64 ((mkW (runF a b) 64 : Nat) : Int)) ∧ w = w' := by
  obtain ⟨A, hA, lA, fA⟩ := clip_ex a
  obtain ⟨B, hB, lB, fB⟩ := clip_ex b
  have HA := Lib.hid hA
  have HB := Lib.hid hB
  have hf : mkW (runF a b) 64 = mkW (fun j => decide (A ≤ j) && decide (j < B)) 64 := mkW_congr (fun j hj => by
    unfold runF; rw [Bool.eq_iff_iff]; simp only [Bool.and_eq_true, decide_eq_true_eq, (fA j hj).1, (fB j hj).2])
  rw [hf]
  clear hA hB fA fB hf
  by_cases hlt : A < B
  · have hr := run_raw A B hlt lB
    generalize hv : mkW (fun j => decide (A ≤ j) && decide (j < B)) 64 = v at *
    clear hv
    have Hr := Lib.hid hr
    clear hr
    go_enter Tryd.func14, Tryd.ntmps14
    go_wp2_with fail
    refine (clip_n a A HA.out _).mono ?_
    rintro e w' ⟨rfl, rfl⟩
    go_wp2_with fail
    refine (clip_n b B HB.out _).mono ?_
    rintro e w' ⟨rfl, rfl⟩
    go_wp2
    go_ret
    exact ⟨congrArg (fun z => Ending.returned (.int .u64 z)) Hr.out, rfl⟩
  · have h0 : mkW (fun j => decide (A ≤ j) && decide (j < B)) 64 = 0 := by
      apply Nat.eq_of_testBit_eq
      intro j
      rw [testBit_mkW, Nat.zero_testBit, Bool.eq_false_iff]
      simp only [ne_eq, Bool.and_eq_true, decide_eq_true_eq]
      omega
    rw [h0]
    go_enter Tryd.func14, Tryd.ntmps14
    go_wp2_with fail
    refine (clip_n a A HA.out _).mono ?_
    rintro e w' ⟨rfl, rfl⟩
    go_wp2_with fail
    refine (clip_n b B HB.out _).mono ?_
    rintro e w' ⟨rfl, rfl⟩
    go_wp2
    go_ret
    exact ⟨rfl, rfl⟩

set_option maxHeartbeats 400000 in
theorem count_any (x : Nat) (hx : x < 18446744073709551616) (a b : Int) (w : World) :
    Calls Tryd.prog 15 #[.int .u64 (x : Int), .int .i64 a, .int .i64 b] w fun e w' => e = .returned (.int .i64 ((cntW (inF x a b) 64 : Nat) : Int)) ∧ w = w' := by
  have hv := mkW_lt64 (runF a b) (Nat.le_refl 64)
  have ha := u64_and_nat x (mkW (runF a b) 64) hx hv
  have hlt : x &&& mkW (runF a b) 64 < 18446744073709551616 := Nat.lt_of_le_of_lt Nat.and_le_left hx
  have hc : cntW (inF x a b) 64 = cntW (fun j => (x &&& mkW (runF a b) 64).testBit j) 64 := cntW_congr (fun j hj => by
    rw [Nat.testBit_and, testBit_mkW]; unfold inF runF; simp only [hj, decide_true, Bool.true_and]
    cases x.testBit j <;> simp)
  rw [hc]
  have hr := run_any a b w
  generalize mkW (runF a b) 64 = v at *
  generalize x &&& v = y at *
  clear hc hv
  have Hr := Lib.hid hr
  clear hr
  go_enter Tryd.func15, Tryd.ntmps15
  go_wp2_with fail
  refine (Hr.out).mono ?_
  rintro e w' ⟨rfl, rfl⟩
  go_wp2_with fail
  refine (ones_any y hlt _).mono ?_
  rintro e w' ⟨rfl, rfl⟩
  go_wp2
  go_ret
  exact ⟨rfl, rfl⟩

/-- The table that TrailingZeros64 looks into. -/
def tabD : List Nat := [0, 1, 56, 2, 57, 49, 28, 3, 61, 58, 42, 50, 38, 29, 17, 4, 62, 47, 59, 36, 45, 43, 51, 22, 53, 39, 33, 30, 24, 18, 12, 5, 63, 55, 48, 27, 60, 41, 37, 16, 46, 35, 44, 21, 52, 32, 23, 11, 54, 26, 40, 15, 34, 20, 31, 10, 25, 14, 19, 9, 13, 8, 7, 6]
def TabD (w : World) : Prop := ∀ (i k : Nat), tabD[i]? = some k → w.cell? ⟨0, i, none⟩ = some (.int .u8 (k : Int))

theorem tab_at : ∀ k, k < 64 → tabD[2 ^ k * 285870213051353865 % 18446744073709551616 / 288230376151711744]? = some k := by decide +kernel

theorem tz_raw (x k : Nat) (hx : x < 18446744073709551616) (m : Nat) (h : x = 2 ^ k * (2 * m + 1)) :
    IntKind.u64.wrap (bits BinOp.and IntKind.u64 (x : Int) (IntKind.u64.wrap (-(x : Int))) * 285870213051353865) / 288230376151711744 = ((2 ^ k * 285870213051353865 % 18446744073709551616 / 288230376151711744 : Nat) : Int) := by
  have hpos : 0 < x := by rw [h]; exact Nat.mul_pos (Nat.two_pow_pos k) (by omega)
  have e1 : IntKind.u64.wrap (-(x : Int)) = ((18446744073709551616 - x : Nat) : Int) := by rw [IntKind.wrap_u64]; omega
  have e2 : x &&& (18446744073709551616 - x) = 2 ^ k := by
    have := Lib.and_neg 64 k m (by rw [← h]; exact hx)
    rw [← h] at this
    exact this
  rw [e1, u64_and_nat x _ hx (by omega), e2, IntKind.wrap_u64]
  omega

theorem tz_ex (x : Nat) (hx : x < 18446744073709551616) (h0 : x ≠ 0) : ∃ k idx : Nat, firstW (fun j => x.testBit j) 0 64 = k ∧ k < 64 ∧ idx < 64 ∧ tabD[idx]? = some k ∧
    IntKind.u64.wrap (bits BinOp.and IntKind.u64 (x : Int) (IntKind.u64.wrap (-(x : Int))) * 285870213051353865) / 288230376151711744 = (idx : Int) := by
  obtain ⟨k, m, hk, hxk, hf⟩ := first_ctz x hx h0
  have hi := tab_at k hk
  have hlt := (List.getElem?_eq_some_iff.1 hi).1
  exact ⟨k, _, hf, hk, hlt, hi, tz_raw x k hx m hxk⟩

set_option maxHeartbeats 400000 in
theorem tz_core (x k idx : Nat) (w : World) (hz : ((x : Int) == 0) = false) (hk : k < 64) (hlt : idx < 64) (hcell : w.cell? ⟨0, idx, none⟩ = some (.int .u8 (k : Int)))
    (key : IntKind.u64.wrap (bits BinOp.and IntKind.u64 (x : Int) (IntKind.u64.wrap (-(x : Int))) * 285870213051353865) / 288230376151711744 = (idx : Int)) :
    Calls Tryd.prog 37 #[.int .u64 (x : Int)] w fun e w' => e = .returned (.int .i64 (k : Int)) ∧ w = w' := by
  go_enter Tryd.func37, Tryd.ntmps37
  go_wp2_with (simp only [key])
  go_ret
  exact ⟨rfl, rfl⟩

set_option maxHeartbeats 400000 in
theorem tz_zero (w : World) :
    Calls Tryd.prog 37 #[.int .u64 0] w fun e w' => e = .returned (.int .i64 64) ∧ w = w' := by
  go_enter Tryd.func37, Tryd.ntmps37
  go_wp2
  go_ret
  exact ⟨rfl, rfl⟩

theorem tz_any (x : Nat) (hx : x < 18446744073709551616) (w : World) (hT : TabD w) :
    Calls Tryd.prog 37 #[.int .u64 (x : Int)] w fun e w' => e = .returned (.int .i64 ((firstW (fun j => x.testBit j) 0 64 : Nat) : Int)) ∧ w = w' := by
  by_cases h0 : x = 0
  · subst h0
    rw [firstW_none (fun j _ _ => Nat.zero_testBit j)]
    exact tz_zero w
  · obtain ⟨k, idx, hf, hk, hlt, hi, key⟩ := tz_ex x hx h0
    rw [hf]
    exact tz_core x k idx w (by rw [beq_eq_false_iff_ne]; omega) hk hlt (hT idx k hi) key

set_option maxHeartbeats 400000 in
theorem next_any (x : Nat) (hx : x < 18446744073709551616) (a : Int) (w : World) (hT : TabD w) :
    Calls Tryd.prog 27 #[.int .u64 (x : Int), .int .i64 a] w fun e w' => e = .returned (.int .i64 ((firstW (fromF x a) 0 64 : Nat) : Int)) ∧ w = w' := by
  have hv := mkW_lt64 (runF a 64) (Nat.le_refl 64)
  have ha := u64_and_nat x (mkW (runF a 64) 64) hx hv
  have hlt : x &&& mkW (runF a 64) 64 < 18446744073709551616 := Nat.lt_of_le_of_lt Nat.and_le_left hx
  have hc : firstW (fromF x a) 0 64 = firstW (fun j => (x &&& mkW (runF a 64) 64).testBit j) 0 64 := firstW_congr 64 0 (fun j _ hj => by
    rw [Nat.testBit_and, testBit_mkW]; unfold fromF runF
    simp only [show j < 64 by omega, show (j : Int) < 64 by omega, decide_true, Bool.true_and, Bool.and_true]
    cases x.testBit j <;> simp)
  rw [hc]
  have hr := run_any a 64 w
  generalize mkW (runF a 64) 64 = v at *
  generalize x &&& v = y at *
  clear hc hv
  have Hr := Lib.hid hr
  clear hr
  have HT := Lib.hid hT
  clear hT
  go_enter Tryd.func27, Tryd.ntmps27
  go_wp2_with fail
  refine (Hr.out).mono ?_
  rintro e w' ⟨rfl, rfl⟩
  go_wp2_with fail
  refine (tz_any y hlt _ HT.out).mono ?_
  rintro e w' ⟨rfl, rfl⟩
  go_wp2
  go_ret
  exact ⟨rfl, rfl⟩

set_option maxHeartbeats 400000 in
theorem last_any (x : Nat) (hx : x < 18446744073709551616) (b : Int) (w : World) :
    Calls Tryd.prog 29 #[.int .u64 (x : Int), .int .i64 b] w fun e w' => e = .returned (.int .i64 (lastW (belowF x b) 64)) ∧ w = w' := by
  have hv := mkW_lt64 (runF 0 b) (Nat.le_refl 64)
  have ha := u64_and_nat x (mkW (runF 0 b) 64) hx hv
  have hlt : x &&& mkW (runF 0 b) 64 < 18446744073709551616 := Nat.lt_of_le_of_lt Nat.and_le_left hx
  have hc : lastW (belowF x b) 64 = lastW (fun j => (x &&& mkW (runF 0 b) 64).testBit j) 64 := lastW_congr (fun j hj => by
    rw [Nat.testBit_and, testBit_mkW]; unfold belowF runF
    simp only [hj, show (0 : Int) ≤ (j : Int) by omega, decide_true, Bool.true_and]
    cases x.testBit j <;> simp)
  rw [hc]
  have hr := run_any 0 b w
  generalize mkW (runF 0 b) 64 = v at *
  generalize x &&& v = y at *
  rw [bitLen_last y 64 hlt]
  clear hc hv
  have Hr := Lib.hid hr
  clear hr
  have hl := Tryd.bits_Len64 (y : Int) w (by omega) (by omega)
  rw [Int.toNat_natCast] at hl
  change Calls Tryd.prog 38 #[.int .u64 (y : Int)] w (fun e w' => e = .returned (.int .i64 (Lib.bitLenAux 64 y : Nat)) ∧ w' = w) at hl
  have hb : Lib.bitLenAux 64 y ≤ 64 := by
    have : ∀ n z, Lib.bitLenAux n z ≤ n := by
      intro n
      induction n with
      | zero => intro z; simp [Lib.bitLenAux]
      | succ n ih => intro z; rw [Lib.bitLenAux]; split; omega; have := ih (z / 2); omega
    exact this 64 y
  generalize Lib.bitLenAux 64 y = n at *
  have Hl := Lib.hid hl
  clear hl
  go_enter Tryd.func29, Tryd.ntmps29
  go_wp2_with fail
  refine (Hr.out).mono ?_
  rintro e w' ⟨rfl, rfl⟩
  go_wp2_with fail
  refine (Hl.out).mono ?_
  rintro e w' ⟨rfl, hw⟩
  subst hw
  go_wp2
  go_ret
  exact ⟨rfl, rfl⟩
end Go.Proofs.YtheajimjmhocgaaDoor
