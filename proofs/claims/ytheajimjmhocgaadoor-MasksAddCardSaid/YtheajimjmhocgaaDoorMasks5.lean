/- The walks of package masks and of its reference: turning, powers of two, rounding. -/
import Derived.Test.YtheajimjmhocgaaDoorMasks4
namespace Go.Proofs.YtheajimjmhocgaaDoor
open Go.RowKit

theorem wrap_small (n : Nat) (h : n < 18446744073709551616) (z : Int) (hz : z = (n : Int)) : IntKind.u64.wrap z = (n : Int) := by
  subst hz; rw [IntKind.wrap_u64]; omega

set_option maxHeartbeats 800000 in
theorem revb_any (x : Nat) (hx : x < 18446744073709551616) (w : World) :
    Calls Tryd.prog 39 #[.int .u64 (x : Int)] w fun e w' => ∃ y : Nat, y < 18446744073709551616 ∧ (∀ j, j < 64 → y.testBit j = x.testBit (((j ^^^ 32) ^^^ 16) ^^^ 8)) ∧ e = .returned (.int .u64 (y : Int)) ∧ w = w' := by
  obtain ⟨a1, a2, a3⟩ := swap8 x hx
  have e1 := and_cast (x / 256) 71777214294589695 ((x : Int) / 256) 71777214294589695 (by omega) rfl (by omega) (by decide)
  have e2 := and_cast x 71777214294589695 (x : Int) 71777214294589695 rfl rfl hx (by decide)
  have hA : x / 256 &&& 71777214294589695 < 18446744073709551616 := Nat.lt_of_le_of_lt Nat.and_le_left (by omega)
  have e3 := wrap_small ((x &&& 71777214294589695) * 256) a1 (((x &&& 71777214294589695 : Nat) : Int) * 256) (by omega)
  have e4 := or_cast (x / 256 &&& 71777214294589695) ((x &&& 71777214294589695) * 256) _ _ rfl rfl hA a1
  generalize hB : (x / 256 &&& 71777214294589695) ||| ((x &&& 71777214294589695) * 256) = B at *
  generalize x / 256 &&& 71777214294589695 = A1 at *
  generalize x &&& 71777214294589695 = A2 at *
  obtain ⟨b1, b2, b3⟩ := swap16 B a2
  have f1 := and_cast (B / 65536) 281470681808895 ((B : Int) / 65536) 281470681808895 (by omega) rfl (by omega) (by decide)
  have f2 := and_cast B 281470681808895 (B : Int) 281470681808895 rfl rfl a2 (by decide)
  have hC : B / 65536 &&& 281470681808895 < 18446744073709551616 := Nat.lt_of_le_of_lt Nat.and_le_left (by omega)
  have f3 := wrap_small ((B &&& 281470681808895) * 65536) b1 (((B &&& 281470681808895 : Nat) : Int) * 65536) (by omega)
  have f4 := or_cast (B / 65536 &&& 281470681808895) ((B &&& 281470681808895) * 65536) _ _ rfl rfl hC b1
  generalize hD : (B / 65536 &&& 281470681808895) ||| ((B &&& 281470681808895) * 65536) = D at *
  generalize B / 65536 &&& 281470681808895 = C1 at *
  generalize B &&& 281470681808895 = C2 at *
  obtain ⟨c1, c2⟩ := swap32 D b2
  have g3 : IntKind.u64.wrap ((D : Int) * 4294967296) = ((D * 4294967296 % 18446744073709551616 : Nat) : Int) := by rw [IntKind.wrap_u64]; omega
  have g4 := or_cast (D / 4294967296) (D * 4294967296 % 18446744073709551616) ((D : Int) / 4294967296) _ (by omega) rfl (by omega) (Nat.mod_lt _ (by decide))
  generalize hE : (D / 4294967296 ||| (D * 4294967296 % 18446744073709551616)) = E at *
  generalize D * 4294967296 % 18446744073709551616 = D2 at *
  have hfin : ∀ j, j < 64 → E.testBit j = x.testBit (((j ^^^ 32) ^^^ 16) ^^^ 8) := fun j hj => by
    rw [c2 j hj, b3 _ (xor_lt j 32 hj (by decide)), a3 _ (xor_lt _ 16 (xor_lt j 32 hj (by decide)) (by decide))]
  have Hf := Lib.hid hfin
  have e3' : IntKind.u64.wrap ((A2 : Int) * 256) = (A2 : Int) * 256 := by rw [e3]; omega
  have e4' : bits .or .u64 (A1 : Int) ((A2 : Int) * 256) = (B : Int) := by rw [← e4]; congr 1
  have f3' : IntKind.u64.wrap ((C2 : Int) * 65536) = (C2 : Int) * 65536 := by rw [f3]; omega
  have f4' : bits .or .u64 (C1 : Int) ((C2 : Int) * 65536) = (D : Int) := by rw [← f4]; congr 1
  clear e3 e4 f3 f4 hB hD hE a3 b3 c2 hfin
  have P : ∀ (e : Ending) (w' : World), e = .returned (.int .u64 (E : Int)) ∧ w = w' → ∃ y : Nat, y < 18446744073709551616 ∧ (∀ j, j < 64 → y.testBit j = x.testBit (((j ^^^ 32) ^^^ 16) ^^^ 8)) ∧ e = .returned (.int .u64 (y : Int)) ∧ w = w' :=
    fun e w' h => ⟨E, c1, Hf.out, h.1, h.2⟩
  refine Calls.mono ?_ P
  clear P Hf
  go_enter Tryd.func39, Tryd.ntmps39
  go_wp2
  go_ret
  exact ⟨rfl, rfl⟩

theorem swap_facts (k p M x : Nat) (p' M' : Int) (hp' : p' = p) (hM' : M' = M) (hM : M < 18446744073709551616) (hx : x < 18446744073709551616)
    (h : (x &&& M) * p < 18446744073709551616 ∧ (x / p &&& M) ||| ((x &&& M) * p) < 18446744073709551616 ∧ ∀ j, j < 64 → ((x / p &&& M) ||| ((x &&& M) * p)).testBit j = x.testBit (j ^^^ k)) :
    ∃ A1 A2 B : Nat, A1 < 18446744073709551616 ∧ A2 < 18446744073709551616 ∧ B < 18446744073709551616 ∧ (∀ j, j < 64 → B.testBit j = x.testBit (j ^^^ k)) ∧ bits .and .u64 ((x : Int) / p') M' = A1 ∧ bits .and .u64 (x : Int) M' = A2 ∧
      IntKind.u64.wrap ((A2 : Int) * p') = (A2 : Int) * p' ∧ bits .or .u64 (A1 : Int) ((A2 : Int) * p') = B := by
  subst hp'; subst hM'
  obtain ⟨a1, a2, a3⟩ := h
  have hd : x / p ≤ x := Nat.div_le_self _ _
  have hA : x / p &&& M < 18446744073709551616 := Nat.lt_of_le_of_lt Nat.and_le_left (by omega)
  refine ⟨x / p &&& M, x &&& M, _, hA, Nat.lt_of_le_of_lt Nat.and_le_left hx, a2, a3, ?_, ?_, ?_, ?_⟩
  · exact and_cast (x / p) M _ _ (by simp) rfl (by omega) hM
  · exact and_cast x M _ _ rfl rfl hx hM
  · rw [show ((x &&& M : Nat) : Int) * p = (((x &&& M) * p : Nat) : Int) by simp, wrap_small _ a1 _ rfl]
  · rw [show ((x &&& M : Nat) : Int) * p = (((x &&& M) * p : Nat) : Int) by simp]
    exact or_cast _ _ _ _ rfl rfl hA a1

set_option maxHeartbeats 800000 in
theorem rev_any (x : Nat) (hx : x < 18446744073709551616) (w : World) :
    Calls Tryd.prog 35 #[.int .u64 (x : Int)] w fun e w' => e = .returned (.int .u64 ((turnS x 64 : Nat) : Int)) ∧ w = w' := by
  obtain ⟨A1, A2, B, l1, l2, l3, hB, e1, e2, e3, e4⟩ := swap_facts 1 2 6148914691236517205 x 2 6148914691236517205 rfl rfl (by decide) hx (swap1 x hx)
  obtain ⟨C1, C2, D, m1, m2, m3, hD, f1, f2, f3, f4⟩ := swap_facts 2 4 3689348814741910323 B 4 3689348814741910323 rfl rfl (by decide) l3 (swap2 B l3)
  obtain ⟨E1, E2, F, n1, n2, n3, hF, g1, g2, g3, g4⟩ := swap_facts 4 16 1085102592571150095 D 16 1085102592571150095 rfl rfl (by decide) m3 (swap4 D m3)
  have hR := revb_any F n3 w
  have hall : ∀ y : Nat, y < 18446744073709551616 → (∀ j, j < 64 → y.testBit j = F.testBit (((j ^^^ 32) ^^^ 16) ^^^ 8)) → y = turnS x 64 := fun y hy h => turn_of x y hy (fun j hj => by
    rw [h j hj, hF _ (xor_lt _ 8 (xor_lt _ 16 (xor_lt j 32 hj (by decide)) (by decide)) (by decide)), hD _ (xor_lt _ 4 (xor_lt _ 8 (xor_lt _ 16 (xor_lt j 32 hj (by decide)) (by decide)) (by decide)) (by decide)),
      hB _ (xor_lt _ 2 (xor_lt _ 4 (xor_lt _ 8 (xor_lt _ 16 (xor_lt j 32 hj (by decide)) (by decide)) (by decide)) (by decide)) (by decide))])
  have hR2 : Calls Tryd.prog 39 #[.int .u64 (F : Int)] w fun e w' => e = .returned (.int .u64 ((turnS x 64 : Nat) : Int)) ∧ w = w' :=
    hR.mono fun e w' ⟨y, hy, hb, he, hw⟩ => ⟨by rw [he, hall y hy hb], hw⟩
  have HR := Lib.hid hR2
  clear hall hR hR2 hB hD hF
  go_enter Tryd.func35, Tryd.ntmps35
  go_wp2_with (go_at_call 39; refine (HR.out).mono ?_; rintro e w' ⟨rfl, rfl⟩)
  go_ret
  exact ⟨rfl, rfl⟩

set_option maxHeartbeats 400000 in
theorem turn_any (x : Nat) (hx : x < 18446744073709551616) (w : World) :
    Calls Tryd.prog 18 #[.int .u64 (x : Int)] w fun e w' => e = .returned (.int .u64 ((turnS x 64 : Nat) : Int)) ∧ w = w' := by
  go_enter Tryd.func18, Tryd.ntmps18
  go_wp2_with (go_at_call 35; refine (rev_any x hx _).mono ?_; rintro e w' ⟨rfl, rfl⟩)
  go_ret
  exact ⟨rfl, rfl⟩

/-! ### Powers of two -/
set_option maxHeartbeats 400000 in
theorem power_any (n : Int) (h1 : n ≤ 9223372036854775807) (w : World) :
    Calls Tryd.prog 20 #[.int .i64 n] w fun e w' => e = .returned (.bool (isPow n)) ∧ w = w' := by
  by_cases hn : n ≤ 0
  · have hp : isPow n = false := by
      rw [Bool.eq_false_iff, ne_eq, isPow_iff]
      rintro ⟨i, _, h⟩
      have : (0 : Int) < 2 ^ i := Int.pow_pos (by decide)
      omega
    rw [hp]
    go_enter Tryd.func20, Tryd.ntmps20
    go_wp2
    go_ret
    exact ⟨rfl, rfl⟩
  · obtain ⟨m, rfl⟩ := Int.eq_ofNat_of_zero_le (show 0 ≤ n by omega)
    have hm : 0 < m := by omega
    have hm2 : m < 9223372036854775808 := by omega
    have hp : isPow (m : Int) = ((((m &&& (m - 1) : Nat) : Int)) == 0) := by
      rw [Bool.eq_iff_iff, isPow_iff, beq_iff_eq, Int.natCast_eq_zero, pow_and m hm hm2]
      constructor
      · rintro ⟨i, hi, h⟩; exact ⟨i, hi, by have : ((2 ^ i : Nat) : Int) = 2 ^ i := by simp
                                            omega⟩
      · rintro ⟨i, hi, h⟩; exact ⟨i, hi, by subst h; simp⟩
    have e1 : bits .and .i64 (m : Int) ((m : Int) - 1) = ((m &&& (m - 1) : Nat) : Int) := by
      rw [show (m : Int) - 1 = ((m - 1 : Nat) : Int) by omega]
      exact i64_and_nat m (m - 1) hm2 (by omega)
    rw [hp]
    generalize m &&& (m - 1) = q at *
    clear hp hn
    go_enter Tryd.func20, Tryd.ntmps20
    go_wp2
    go_ret
    exact ⟨rfl, rfl⟩

set_option maxHeartbeats 400000 in
theorem rpower_any (n : Int) (w : World) :
    Calls Tryd.prog 21 #[.int .i64 n] w fun e w' => e = .returned (.bool (isPow n)) ∧ w = w' := by
  go_enter Tryd.func21, Tryd.ntmps21
  go_wp2
  go_loop [3, 4] (fun v k => ∃ j : Nat, j ≤ 62 ∧ k = .int .i64 j ∧ v = .int .i64 ((2 ^ j : Nat) : Int) ∧ ∀ i, i < j → n ≠ 2 ^ i) (fun _ k => 62 - (intOf k).toNat)
  case atStart => exact ⟨0, Nat.zero_le _, rfl, by simp, fun i hi => absurd hi (by omega)⟩
  case round =>
    obtain ⟨j, hj, rfl, rfl, hno⟩ := hrel
    have hpow : ((2 ^ j : Nat) : Int) = 2 ^ j := by simp
    by_cases hlt : j < 62
    · have hP : 2 ^ j ≤ 2305843009213693952 := Nat.le_trans (Nat.pow_le_pow_right (by decide) (show j ≤ 61 by omega)) (Nat.le_refl _)
      by_cases he : ((2 ^ j : Nat) : Int) = n
      · have hp : isPow n = true := (isPow_iff n).2 ⟨j, by omega, by rw [← he]; exact hpow⟩
        have HP := Lib.hid hp
        have hq : (((2 ^ j : Nat) : Int) == n) = true := by simpa using he
        have Hno := Lib.hid hno
        clear hp he hno hpow
        generalize 2 ^ j = v at *
        go_wp2
        go_ret
        exact ⟨congrArg (fun z => Ending.returned (.bool z)) HP.out.symm, rfl⟩
      · have hno' : ∀ i, i < j + 1 → n ≠ 2 ^ i := by
          intro i hi
          rcases Nat.lt_succ_iff_lt_or_eq.1 hi with h | h
          · exact hno i h
          · subst h; rw [← hpow]; exact fun e => he e.symm
        have hq : (((2 ^ j : Nat) : Int) == n) = false := by simpa using he
        have hs : (2 : Nat) ^ (j + 1) = 2 ^ j * 2 := Nat.pow_succ ..
        have Hs := Lib.hid hs
        have Hno := Lib.hid hno'
        clear he hno hno' hpow hs
        generalize hv : 2 ^ j = v at *
        have Hv := Lib.hid hv
        clear hv
        go_wp2
        go_round
        case rel => exact ⟨j + 1, by omega, by go_num, by rw [Hs.out]; go_num, Hno.out⟩
        case measure => simp [intOf]; omega
    · obtain rfl : j = 62 := by omega
      have hp : isPow n = (((2 ^ 62 : Nat) : Int) == n) := by
        rw [Bool.eq_iff_iff, isPow_iff, beq_iff_eq]
        constructor
        · rintro ⟨i, hi, h⟩
          by_cases h62 : i < 62
          · exact absurd h (hno i h62)
          · have : i = 62 := by omega
            subst this; rw [h]; simp
        · intro h; exact ⟨62, by omega, by rw [← h]; simp⟩
      have HP := Lib.hid hp
      have Hno := Lib.hid hno
      clear hp hno hpow
      generalize ((2 ^ 62 : Nat) : Int) = v at *
      go_wp2
      go_ret
      exact ⟨congrArg (fun z => Ending.returned (.bool z)) HP.out.symm, rfl⟩
end Go.Proofs.YtheajimjmhocgaaDoor
