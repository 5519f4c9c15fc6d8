/- The walks of package masks and of its reference: rounding. -/
import Derived.Test.YtheajimjmhocgaaDoorMasks5
namespace Go.Proofs.YtheajimjmhocgaaDoor
open Go.RowKit

/-- May a number be rounded by a unit? -/
def Fit (n unit : Int) : Prop := isPow unit = true ∧ unit ≤ 1073741824 ∧ 0 ≤ n ∧ n ≤ 1152921504606846976

theorem power_b (n : Int) (h1 : n ≤ 9223372036854775807) (B : Bool) (hB : isPow n = B) (w : World) :
    Calls Tryd.prog 20 #[.int .i64 n] w fun e w' => e = .returned (.bool B) ∧ w = w' := by subst hB; exact power_any n h1 w
theorem rpower_b (n : Int) (B : Bool) (hB : isPow n = B) (w : World) :
    Calls Tryd.prog 21 #[.int .i64 n] w fun e w' => e = .returned (.bool B) ∧ w = w' := by subst hB; exact rpower_any n w

theorem unfit {n unit : Int} (h : ¬ Fit n unit) : isPow unit = false ∨ (isPow unit = true ∧ 1073741824 < unit) ∨ (isPow unit = true ∧ unit ≤ 1073741824 ∧ n < 0) ∨ (isPow unit = true ∧ unit ≤ 1073741824 ∧ 0 ≤ n ∧ 1152921504606846976 < n) := by
  unfold Fit at h
  cases hp : isPow unit with
  | false => exact .inl rfl
  | true =>
    right
    by_cases h1 : unit ≤ 1073741824
    · by_cases h2 : 0 ≤ n
      · exact .inr (.inr ⟨rfl, h1, h2, by simp only [hp, true_and] at h; omega⟩)
      · exact .inr (.inl ⟨rfl, h1, by omega⟩)
    · exact .inl ⟨rfl, by omega⟩

set_option maxHeartbeats 400000 in
theorem fits_no (n unit : Int) (hu : unit ≤ 9223372036854775807) (h : ¬ Fit n unit) (w : World) :
    Calls Tryd.prog 36 #[.int .i64 n, .int .i64 unit] w fun e w' => e = .returned (.bool false) ∧ w = w' := by
  rcases unfit h with h | ⟨h, h1⟩ | ⟨h, h1, h2⟩ | ⟨h, h1, h2, h3⟩
  all_goals
    have HB := Lib.hid h
    clear h
    go_enter Tryd.func36, Tryd.ntmps36
    go_wp2_with (go_at_call 20; refine (power_b unit hu _ HB.out _).mono ?_; rintro e w' ⟨rfl, rfl⟩)
    go_ret
    first | exact ⟨rfl, rfl⟩ | exact ⟨by simp; omega, rfl⟩

set_option maxHeartbeats 400000 in
theorem fits_yes (n unit : Int) (h : Fit n unit) (w : World) :
    Calls Tryd.prog 36 #[.int .i64 n, .int .i64 unit] w fun e w' => e = .returned (.bool true) ∧ w = w' := by
  obtain ⟨h, h1, h2, h3⟩ := h
  have HB := Lib.hid h
  clear h
  go_enter Tryd.func36, Tryd.ntmps36
  go_wp2_with (go_at_call 20; refine (power_b unit (by omega) _ HB.out _).mono ?_; rintro e w' ⟨rfl, rfl⟩)
  go_ret
  first | exact ⟨rfl, rfl⟩ | exact ⟨by simp; omega, rfl⟩

/-- What a number is when it is rounded. -/
noncomputable def roundS (n unit : Int) (up : Bool) : Int :=
  open Classical in if Fit n unit then (if up then (n + unit - 1) / unit * unit else n / unit * unit) else -1

theorem round_fit {n unit : Int} (h : Fit n unit) : ∃ N k : Nat, n = N ∧ unit = ((2 ^ k : Nat) : Int) ∧ k ≤ 30 ∧ N ≤ 1152921504606846976 ∧ 2 ^ k ≤ 1073741824 ∧ 1 ≤ 2 ^ k := by
  obtain ⟨h, h1, h2, h3⟩ := h
  obtain ⟨i, hi, rfl⟩ := (isPow_iff unit).1 h
  obtain ⟨N, rfl⟩ := Int.eq_ofNat_of_zero_le h2
  have e : ((2 ^ i : Nat) : Int) = 2 ^ i := by simp
  have h30 : 2 ^ i ≤ 1073741824 := by omega
  have hi30 : i ≤ 30 := by
    rcases Nat.lt_or_ge 30 i with h | h
    · have : 2 ^ 31 ≤ 2 ^ i := Nat.pow_le_pow_right (by decide) h
      omega
    · exact h
  exact ⟨N, i, rfl, e.symm, hi30, by omega, h30, Nat.one_le_two_pow⟩

set_option maxHeartbeats 400000 in
theorem up_any (n unit : Int) (hu : unit ≤ 9223372036854775807) (w : World) :
    Calls Tryd.prog 22 #[.int .i64 n, .int .i64 unit] w fun e w' => e = .returned (.int .i64 (roundS n unit true)) ∧ w = w' := by
  by_cases h : Fit n unit
  · have hr : roundS n unit true = (n + unit - 1) / unit * unit := by unfold roundS; rw [if_pos h]; rfl
    rw [hr]
    have hf := Lib.hid h
    obtain ⟨N, k, rfl, rfl, hk, hN, hp, hp1⟩ := round_fit h
    have e1 := i64_andNot_nat (N + 2 ^ k - 1) (2 ^ k - 1) (by omega) (by omega)
    rw [andNot_round (N + 2 ^ k - 1) k (by omega) hk] at e1
    have e2 : (((N + 2 ^ k - 1) / 2 ^ k * 2 ^ k : Nat) : Int) = ((N : Int) + (2 ^ k : Nat) - 1) / (2 ^ k : Nat) * (2 ^ k : Nat) := by
      rw [Int.natCast_mul, Int.natCast_ediv, show ((N + 2 ^ k - 1 : Nat) : Int) = (N : Int) + (2 ^ k : Nat) - 1 by omega]
    rw [e2, show ((N + 2 ^ k - 1 : Nat) : Int) = (N : Int) + (2 ^ k : Nat) - 1 by omega, show ((2 ^ k - 1 : Nat) : Int) = ((2 ^ k : Nat) : Int) - 1 by omega] at e1
    clear hr h e2
    generalize 2 ^ k = u at *
    generalize ((N : Int) + u - 1) / u * u = r at *
    go_enter Tryd.func22, Tryd.ntmps22
    go_wp2_with (go_at_call 36; refine (fits_yes _ _ hf.out _).mono ?_; rintro e w' ⟨rfl, rfl⟩)
    go_ret
    exact ⟨rfl, rfl⟩
  · have hr : roundS n unit true = -1 := by unfold roundS; rw [if_neg h]
    rw [hr]
    have hf := Lib.hid h
    clear hr h
    go_enter Tryd.func22, Tryd.ntmps22
    go_wp2_with (go_at_call 36; refine (fits_no _ _ hu hf.out _).mono ?_; rintro e w' ⟨rfl, rfl⟩)
    go_ret
    exact ⟨rfl, rfl⟩

set_option maxHeartbeats 400000 in
theorem down_any (n unit : Int) (hu : unit ≤ 9223372036854775807) (w : World) :
    Calls Tryd.prog 24 #[.int .i64 n, .int .i64 unit] w fun e w' => e = .returned (.int .i64 (roundS n unit false)) ∧ w = w' := by
  by_cases h : Fit n unit
  · have hr : roundS n unit false = n / unit * unit := by unfold roundS; rw [if_pos h]; rfl
    rw [hr]
    have hf := Lib.hid h
    obtain ⟨N, k, rfl, rfl, hk, hN, hp, hp1⟩ := round_fit h
    have e1 := i64_andNot_nat N (2 ^ k - 1) (by omega) (by omega)
    rw [andNot_round N k (by omega) hk] at e1
    have e2 : ((N / 2 ^ k * 2 ^ k : Nat) : Int) = (N : Int) / (2 ^ k : Nat) * (2 ^ k : Nat) := by
      rw [Int.natCast_mul, Int.natCast_ediv]
    rw [e2, show ((2 ^ k - 1 : Nat) : Int) = ((2 ^ k : Nat) : Int) - 1 by omega] at e1
    clear hr h e2
    generalize 2 ^ k = u at *
    generalize (N : Int) / u * u = r at *
    go_enter Tryd.func24, Tryd.ntmps24
    go_wp2_with (go_at_call 36; refine (fits_yes _ _ hf.out _).mono ?_; rintro e w' ⟨rfl, rfl⟩)
    go_ret
    exact ⟨rfl, rfl⟩
  · have hr : roundS n unit false = -1 := by unfold roundS; rw [if_neg h]
    rw [hr]
    have hf := Lib.hid h
    clear hr h
    go_enter Tryd.func24, Tryd.ntmps24
    go_wp2_with (go_at_call 36; refine (fits_no _ _ hu hf.out _).mono ?_; rintro e w' ⟨rfl, rfl⟩)
    go_ret
    exact ⟨rfl, rfl⟩

theorem round_up (N u : Nat) (hu : 1 ≤ u) : ((N : Int) + u - 1) / u * u = if (N : Int) / u * u < N then (N : Int) / u * u + u else (N : Int) / u * u := by
  have h1 : (N : Int) = u * (N / u) + N % u := (Int.mul_ediv_add_emod N u).symm
  have h2 : 0 ≤ (N : Int) % u := Int.emod_nonneg _ (by omega)
  have h3 : (N : Int) % u < u := Int.emod_lt_of_pos _ (by omega)
  have hc : (N : Int) / u * u = u * (N / u) := Int.mul_comm _ _
  rw [hc]
  generalize (N : Int) / u = q at *
  generalize (N : Int) % u = r at *
  by_cases hr : r = 0
  · have : ((N : Int) + u - 1) / u = q := by
      rw [h1, hr, show (u : Int) * q + 0 + u - 1 = (u - 1) + u * q by omega, Int.add_mul_ediv_left _ _ (by omega), Int.ediv_eq_zero_of_lt (by omega) (by omega)]; omega
    rw [this, if_neg (by omega), Int.mul_comm]
  · have : ((N : Int) + u - 1) / u = q + 1 := by
      rw [h1, show (u : Int) * q + r + u - 1 = (r - 1) + u * (q + 1) by rw [Int.mul_add]; omega, Int.add_mul_ediv_left _ _ (by omega), Int.ediv_eq_zero_of_lt (by omega) (by omega)]; omega
    rw [this, if_pos (by omega), Int.add_mul, Int.mul_comm, Int.one_mul]

set_option maxHeartbeats 800000 in
theorem rround_any (n unit : Int) (up : Bool) (w : World) :
    Calls Tryd.prog 23 #[.int .i64 n, .int .i64 unit, .bool up] w fun e w' => e = .returned (.int .i64 (roundS n unit up)) ∧ w = w' := by
  by_cases h : Fit n unit
  · have hr : roundS n unit up = if up then (n + unit - 1) / unit * unit else n / unit * unit := by unfold roundS; rw [if_pos h]
    rw [hr]
    obtain ⟨h0, h1, h2, h3⟩ := id h
    obtain ⟨N, k, rfl, rfl, hk, hN, hp, hp1⟩ := round_fit h
    have HB := Lib.hid h0
    have hru := round_up N (2 ^ k) hp1
    rw [hru]
    clear hr h h0 hru
    generalize 2 ^ k = u at *
    have hle : (N : Int) / u * u ≤ N := Int.ediv_mul_le _ (by omega)
    have hge : 0 ≤ (N : Int) / u * u := Int.mul_nonneg (Int.ediv_nonneg (by omega) (by omega)) (by omega)
    have hq0 : 0 ≤ (N : Int) / u := Int.ediv_nonneg (by omega) (by omega)
    have hq1 : (N : Int) / u ≤ N := Int.ediv_le_self _ (by omega)
    have hz : ((u : Int) == 0) = false := by rw [beq_eq_false_iff_ne]; omega
    generalize hQ : (N : Int) / u = Q at *
    generalize hR : Q * (u : Int) = R at *
    cases up with
    | false =>
      go_enter Tryd.func23, Tryd.ntmps23
      go_wp2_with (go_at_call 21; refine (rpower_b _ _ HB.out _).mono ?_; rintro e w' ⟨rfl, rfl⟩)
      go_ret
      exact ⟨rfl, rfl⟩
    | true =>
      by_cases hlt : R < (N : Int)
      · rw [if_pos rfl, if_pos hlt]
        go_enter Tryd.func23, Tryd.ntmps23
        go_wp2_with (go_at_call 21; refine (rpower_b _ _ HB.out _).mono ?_; rintro e w' ⟨rfl, rfl⟩)
        go_ret
        exact ⟨rfl, rfl⟩
      · rw [if_pos rfl, if_neg hlt]
        go_enter Tryd.func23, Tryd.ntmps23
        go_wp2_with (go_at_call 21; refine (rpower_b _ _ HB.out _).mono ?_; rintro e w' ⟨rfl, rfl⟩)
        go_ret
        exact ⟨rfl, rfl⟩
  · have hr : roundS n unit up = -1 := by unfold roundS; rw [if_neg h]
    rw [hr]
    rcases unfit h with h | ⟨h, h1⟩ | ⟨h, h1, h2⟩ | ⟨h, h1, h2, h3⟩
    all_goals
      have HB := Lib.hid h
      clear h hr
      go_enter Tryd.func23, Tryd.ntmps23
      go_wp2_with (go_at_call 21; refine (rpower_b _ _ HB.out _).mono ?_; rintro e w' ⟨rfl, rfl⟩)
      go_ret
      exact ⟨rfl, rfl⟩
end Go.Proofs.YtheajimjmhocgaaDoor
