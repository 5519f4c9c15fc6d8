/- The walks of package masks: pack, spread, turn, powers and rounding. -/
import Derived.Test.YtheajimjmhocgaaDoorMasks2
namespace Go.Proofs.YtheajimjmhocgaaDoor
open Go.RowKit

theorem bit_and_one (x i : Nat) (hx : x < 18446744073709551616) (B : Bool) (hB : x.testBit i = B) : bits .and .u64 ((x : Int) / 2 ^ i) 1 = if B then 1 else 0 := by
  have h := and_cast (x / 2 ^ i) 1 ((x : Int) / 2 ^ i) 1 (by simp) rfl (Nat.lt_of_le_of_lt (Nat.div_le_self _ _) hx) (by decide)
  rw [h, Nat.and_one_is_mod, ← hB, Nat.testBit_eq_decide_div_mod_eq]
  have : x / 2 ^ i % 2 = 0 ∨ x / 2 ^ i % 2 = 1 := by omega
  rcases this with h | h <;> simp [h]

theorem wrap_pow (c : Nat) (hc : c < 64) : IntKind.u64.wrap (2 ^ c) = ((2 ^ c : Nat) : Int) := by
  have h : (2 : Nat) ^ c < 18446744073709551616 := Nat.lt_of_lt_of_le (Nat.pow_lt_pow_right (by decide) hc) (Nat.le_refl _)
  rw [IntKind.wrap_u64, show (2 : Int) ^ c = ((2 ^ c : Nat) : Int) by simp]
  exact Int.emod_eq_of_lt (Int.natCast_nonneg _) (by omega)

set_option maxHeartbeats 1600000 in
theorem pack_any (x m : Nat) (hx : x < 18446744073709551616) (hm : m < 18446744073709551616) (w : World) :
    Calls Tryd.prog 9 #[.int .u64 (x : Int), .int .u64 (m : Int)] w fun e w' => e = .returned (.int .u64 (((packS x m 64).1 : Nat) : Int)) ∧ w = w' := by
  go_enter Tryd.func9, Tryd.ntmps9
  go_wp2
  go_loop [5, 6, 8] (fun v c k => ∃ j : Nat, j ≤ 64 ∧ k = .int .i64 j ∧ v = .int .u64 (((packS x m j).1 : Nat) : Int) ∧ c = .int .i64 (((packS x m j).2 : Nat) : Int)) (fun _ _ k => 64 - (intOf k).toNat)
  case atStart => exact ⟨0, Nat.zero_le _, rfl, rfl, rfl⟩
  case round =>
    obtain ⟨j, hj, rfl, rfl, rfl⟩ := hrel
    by_cases hlt : j < 64
    · obtain ⟨hk, hv⟩ := packS_le x m j
      have hv' := lt64_of_pow hv hj
      clear hv
      have hs : packS x m (j + 1) = if m.testBit j = true then (if x.testBit j = true then (packS x m j).1 ||| 2 ^ (packS x m j).2 else (packS x m j).1, (packS x m j).2 + 1) else packS x m j := rfl
      generalize packS x m j = v at *
      obtain ⟨v, c⟩ := v
      dsimp only at hk hv' hs ⊢
      have hk' : c < 64 := by omega
      cases hM : m.testBit j with
      | false =>
        rw [hM] at hs
        simp only [Bool.false_eq_true, if_false] at hs
        have Hs := Lib.hid hs
        clear hs
        have eM := bit_and_one m j hm false hM
        simp only [Bool.false_eq_true, if_false] at eM
        clear hM
        go_wp2
        go_round
        case rel => exact ⟨j + 1, by omega, by go_num, by rw [Hs.out], by rw [Hs.out]⟩
        case measure => simp [intOf]; omega
      | true =>
        have eM := bit_and_one m j hm true hM
        simp only [if_true] at eM
        cases hB : x.testBit j with
        | true =>
          rw [hM, hB] at hs
          simp only [if_true] at hs
          have Hs := Lib.hid hs
          have eB := bit_and_one x j hx true hB
          simp only [if_true] at eB
          clear hs hM hB
          have eP := wrap_pow c hk'
          have eO := u64_or_nat v (2 ^ c) hv' (Nat.lt_of_lt_of_le (Nat.pow_lt_pow_right (by decide) hk') (Nat.le_refl _))
          generalize hp : 2 ^ c = p at *
          generalize v ||| p = q at *
          go_wp2
          go_round
          case rel => exact ⟨j + 1, by omega, by go_num, by rw [Hs.out], by rw [Hs.out]; go_num⟩
          case measure => simp [intOf]; omega
        | false =>
          rw [hM, hB] at hs
          simp only [if_true, Bool.false_eq_true, if_false] at hs
          have Hs := Lib.hid hs
          have eB := bit_and_one x j hx false hB
          simp only [Bool.false_eq_true, if_false] at eB
          clear hs hM hB
          have eO := u64_or_nat v 0 hv' (by decide)
          simp only [Nat.or_zero] at eO
          have eO' : bits .or .u64 (v : Int) 0 = v := eO
          clear eO
          go_wp2
          go_round
          case rel => exact ⟨j + 1, by omega, by go_num, by rw [Hs.out], by rw [Hs.out]; go_num⟩
          case measure => simp [intOf]; omega
    · obtain rfl : j = 64 := by omega
      go_wp2
      go_ret
      exact ⟨rfl, rfl⟩

/-- What Spread has done behind t numbers of the word: the mask that is left, the word that is made. -/
def SpreadRel (x m t v k : Nat) : Prop :=
  k < 18446744073709551616 ∧ v < 18446744073709551616 ∧ (∀ j, k.testBit j = (m.testBit j && decide (t ≤ below m j))) ∧ ∀ j, v.testBit j = (m.testBit j && (decide (below m j < t) && x.testBit (below m j)))

theorem spread_done {x m t v k : Nat} (hm : m < 18446744073709551616) (h : SpreadRel x m t v k) (h0 : k = 0 ∨ x / 2 ^ t = 0) : v = (spreadS x m 64).1 := by
  obtain ⟨h1, h2, h3, h4⟩ := h
  apply Nat.eq_of_testBit_eq
  intro j
  rw [h4, spreadS_bit]
  by_cases hj : j < 64
  · simp only [hj, decide_true, Bool.true_and]
    by_cases hb : m.testBit j
    · simp only [hb, Bool.true_and]
      by_cases hlt : below m j < t
      · simp [hlt]
      · rcases h0 with h0 | h0
        · have := h3 j
          rw [h0, Nat.zero_testBit, hb, Bool.true_and] at this
          simp only [Bool.false_eq, decide_eq_false_iff_not] at this
          omega
        · have : x.testBit (below m j) = false := by
            have hx : x < 2 ^ t := (Nat.div_eq_zero_iff.1 h0).resolve_left (by have := Nat.two_pow_pos t; omega)
            exact Nat.testBit_lt_two_pow (Nat.lt_of_lt_of_le hx (Nat.pow_le_pow_right (by decide) (by omega)))
          simp [this]
    · simp [hb]
  · rw [testBit_hi hm (by omega)]; simp

/-- One round: the lowest number p of the mask that is left. -/
theorem spread_round {x m t v k : Nat} (h : SpreadRel x m t v k) (h0 : k ≠ 0) : ∃ p, p < 64 ∧ k &&& (18446744073709551616 - k) = 2 ^ p ∧
    SpreadRel x m (t + 1) (if x.testBit t then v ||| 2 ^ p else v) (k &&& (18446744073709551615 - 2 ^ p)) := by
  obtain ⟨h1, h2, h3, h4⟩ := h
  obtain ⟨p, q, hp, hkp, hf⟩ := first_ctz k h1 h0
  refine ⟨p, hp, ?_, ?_⟩
  · have := Lib.and_neg 64 p q (by rw [← hkp]; exact h1)
    rw [← hkp] at this
    exact this
  have hkb : k.testBit p = true := by rw [hkp, Nat.testBit_two_pow_mul]; simp
  have hlow : ∀ j, j < p → k.testBit j = false := by
    intro j hj
    rw [hkp, Nat.testBit_two_pow_mul]; simp; omega
  have hmp := h3 p
  rw [hkb] at hmp
  simp only [Bool.true_eq, Bool.and_eq_true, decide_eq_true_eq] at hmp
  obtain ⟨hmp, htp⟩ := hmp
  have hbt : below m p = t := by
    rcases Nat.lt_or_ge t (below m p) with hlt | hge
    · obtain ⟨j, hj, hb, hbj⟩ := below_reach m hlt
      have := hlow j hj
      rw [h3, hb, hbj] at this
      simp at this
    · omega
  have hpp : 2 ^ p < 18446744073709551616 := Nat.lt_of_lt_of_le (Nat.pow_lt_pow_right (by decide) hp) (Nat.le_refl _)
  refine ⟨Nat.lt_of_le_of_lt Nat.and_le_left h1, ?_, ?_, ?_⟩
  · split
    · exact Nat.or_lt_two_pow (n := 64) h2 hpp
    · exact h2
  · intro j
    rw [Nat.testBit_and, h3, show 18446744073709551615 - 2 ^ p = 2 ^ 64 - (2 ^ p + 1) by omega, Nat.testBit_two_pow_sub_succ hpp]
    by_cases hj : j = p
    · subst hj; simp [hbt, Nat.testBit_two_pow_self]
    · rw [Nat.testBit_two_pow_of_ne (Ne.symm hj)]
      by_cases hb : m.testBit j
      · by_cases h64 : j < 64
        · have : below m j ≠ t := fun e => hj (below_inj m hb hmp (by omega))
          simp only [hb, h64, decide_true, Bool.true_and, Bool.not_false, Bool.and_true]
          rw [Bool.eq_iff_iff]; simp only [decide_eq_true_eq]; omega
        · have hk64 := testBit_hi h1 (show 64 ≤ j by omega)
          rw [h3, hb, Bool.true_and] at hk64
          simp only [decide_eq_false_iff_not] at hk64
          simp [h64]
          omega
      · simp [hb]
  · intro j
    by_cases hj : j = p
    · subst hj
      have hv : v.testBit j = false := by rw [h4, hbt]; simp
      by_cases hx : x.testBit t
      · simp [hx, Nat.testBit_or, hv, Nat.testBit_two_pow_self, hmp, hbt]
      · simp [hx, hv, hbt]
    · have hv2 : (if x.testBit t then v ||| 2 ^ p else v).testBit j = v.testBit j := by
        split
        · rw [Nat.testBit_or, Nat.testBit_two_pow_of_ne (Ne.symm hj)]; simp
        · rfl
      rw [hv2, h4]
      by_cases hb : m.testBit j
      · have : below m j ≠ t := fun e => hj (below_inj m hb hmp (by omega))
        have e : decide (below m j < t + 1) = decide (below m j < t) := by simp; omega
        rw [e]
      · simp [hb]

set_option maxHeartbeats 1600000 in
theorem spread_any (x m : Nat) (hx : x < 18446744073709551616) (hm : m < 18446744073709551616) (w : World) :
    Calls Tryd.prog 11 #[.int .u64 (x : Int), .int .u64 (m : Int)] w fun e w' => e = .returned (.int .u64 (((spreadS x m 64).1 : Nat) : Int)) ∧ w = w' := by
  go_enter Tryd.func11, Tryd.ntmps11
  go_wp2
  go_loop [0, 1, 5] (fun y c v => ∃ t q k : Nat, y = .int .u64 ((x / 2 ^ t : Nat) : Int) ∧ c = .int .u64 (k : Int) ∧ v = .int .u64 (q : Int) ∧ SpreadRel x m t q k) (fun y _ _ => (intOf y).toNat)
  case atStart => exact ⟨0, 0, m, by simp, rfl, rfl, hm, by decide, by simp, by simp⟩
  case round =>
    obtain ⟨t, q, k, rfl, rfl, rfl, hr⟩ := hrel
    by_cases hk : k = 0
    · have hd := spread_done hm hr (.inl hk)
      subst hk
      generalize x / 2 ^ t = y at *
      have Hd := Lib.hid hd
      clear hd
      go_wp2
      go_ret
      exact ⟨congrArg (fun z : Nat => Ending.returned (.int .u64 (z : Int))) Hd.out, rfl⟩
    · by_cases hy : x / 2 ^ t = 0
      · have hd := spread_done hm hr (.inr hy)
        rw [hy]
        have hk0 : 0 < k := by omega
        have Hd := Lib.hid hd
        clear hd hy
        go_wp2
        go_ret
        exact ⟨congrArg (fun z : Nat => Ending.returned (.int .u64 (z : Int))) Hd.out, rfl⟩
      · obtain ⟨p, hp, hlow, hr'⟩ := spread_round hr hk
        have hyx : x / 2 ^ t ≤ x := Nat.div_le_self _ _
        have hs : x / 2 ^ (t + 1) = x / 2 ^ t / 2 := by rw [Nat.pow_succ, Nat.div_div_eq_div_mul]
        have hb : x.testBit t = (x / 2 ^ t).testBit 0 := by rw [Nat.testBit_div_two_pow]; simp
        have hpp : 2 ^ p < 18446744073709551616 := Nat.lt_of_lt_of_le (Nat.pow_lt_pow_right (by decide) hp) (Nat.le_refl _)
        have eN : IntKind.u64.wrap (-(k : Int)) = ((18446744073709551616 - k : Nat) : Int) := by rw [IntKind.wrap_u64]; have := hr.1; omega
        have eA := u64_and_nat k (18446744073709551616 - k) hr.1 (by omega)
        rw [hlow] at eA
        have eT := u64_andNot_nat k (2 ^ p) hr.1 hpp
        have eO := u64_or_nat q (2 ^ p) hr.2.1 hpp
        have hk0 : 0 < k := by omega
        have hy0 : 0 < x / 2 ^ t := Nat.pos_of_ne_zero hy
        generalize 18446744073709551616 - k = nk at eN eA
        generalize k &&& (18446744073709551615 - 2 ^ p) = k' at *
        generalize q ||| 2 ^ p = q' at *
        generalize 2 ^ p = pp at *
        have hyl : x / 2 ^ t < 18446744073709551616 := Nat.lt_of_le_of_lt hyx hx
        have e1 : bits .and .u64 ((x / 2 ^ t : Nat) : Int) 1 = if x.testBit t then 1 else 0 := by
          have := bit_and_one (x / 2 ^ t) 0 hyl (x.testBit t) hb.symm
          simpa using this
        have Hs := Lib.hid hs
        have HR := Lib.hid hr'
        clear hs hlow hr hr' hb hyx hpp
        cases hB : x.testBit t with
        | true =>
          rw [hB] at HR e1
          simp only [if_true] at HR e1
          clear hB
          generalize x / 2 ^ t = y at *
          go_wp2
          go_round
          case rel => exact ⟨t + 1, q', k', by rw [Hs.out]; go_num, rfl, rfl, HR.out⟩
          case measure => simp [intOf]; omega
        | false =>
          rw [hB] at HR e1
          simp only [Bool.false_eq_true, if_false] at HR e1
          clear hB
          generalize x / 2 ^ t = y at *
          go_wp2
          go_round
          case rel => exact ⟨t + 1, q, k', by rw [Hs.out]; go_num, rfl, rfl, HR.out⟩
          case measure => simp [intOf]; omega
end Go.Proofs.YtheajimjmhocgaaDoor
