/- The walks of the law ExactTwo: two floats, their sum and their mean. -/
import Derived.Test.YtmllbdiljjimmaaAdd
namespace Go.Proofs.Ytmllbdiljjimmaa
open Go.RowKit

/-- The one NaN of any NaN. -/
def canonF (f : Nat) : Nat := if kindF f = 4 then 9221120237041090560 else f

theorem mag_zero {b : Nat} (h : magF b = 0) : rungF b = 0 := by
  rcases Nat.eq_zero_or_pos (rungF b) with h0 | h0
  · exact h0
  · have h1 := mag_strict h0 (Nat.mod_lt _ (by decide))
    rw [← mag_rung b, h] at h1
    omega
theorem bits_rung {b : Nat} (hb : b < 18446744073709551616) : b = if negF b then rungF b + 9223372036854775808 else rungF b := by
  unfold negF rungF
  by_cases h : 9223372036854775808 ≤ b
  · rw [if_pos (by simpa using h)]; omega
  · rw [if_neg (by simpa using h)]; omega
theorem rnd_mag {b : Nat} (h : kindF b < 3) : rnd (magF b) = rungF b := by
  have hr := (kind_num b).1 h
  rw [mag_rung b]
  have h1 := mag_lt1 (rungF b) (by omega)
  rw [← near_rnd (magF (rungF b)) (rungF b) (by omega) (Nat.le_refl _) (fun _ => h1)]
  unfold nearOf
  rw [if_neg (by omega), if_neg (by omega)]

theorem pack_lt (s : Bool) (N : Nat) : packF s N < 18446744073709551616 ∧ kindF (packF s N) ≠ 4 := by
  have h := rnd_le N
  unfold packF
  have hn : ∀ x, rungF x ≤ 9218868437227405312 → kindF x ≠ 4 := fun x hx _hk => by have := (kind_nan _).1 _hk; omega
  cases s
  · rw [if_neg Bool.false_ne_true]; exact ⟨by omega, hn _ (by unfold rungF; omega)⟩
  · rw [if_pos rfl]; exact ⟨by omega, hn _ (by unfold rungF; omega)⟩

/-- What came of two floats. -/
theorem got_two (b c : Nat) : Got.of [b, c] = ⟨0 + contrib b + contrib c, (false || kindF b == 4) || kindF c == 4, (false || (kindF b == 3 && !negF b)) || (kindF c == 3 && !negF c), (false || (kindF b == 3 && negF b)) || (kindF c == 3 && negF c), 0 + 1 + 1,
    0 + (if kindF b == 0 && negF b then 1 else 0) + (if kindF c == 0 && negF c then 1 else 0)⟩ := rfl
theorem got_one (b : Nat) : Got.of [b] = ⟨0 + contrib b, false || kindF b == 4, false || (kindF b == 3 && !negF b), false || (kindF b == 3 && negF b), 0 + 1, 0 + (if kindF b == 0 && negF b then 1 else 0)⟩ := rfl

theorem neg_zero {b : Nat} (h : svalF b = 0) (_hk : kindF b < 3) : kindF b = 0 := by
  have hm : magF b = 0 := by
    unfold svalF at h
    split at h <;> omega
  have hr := mag_zero hm
  unfold kindF
  rw [expo_rung, frac_rung, hr]
  rfl
theorem sval_neg {b : Nat} (h : negF b = true) : svalF b ≤ 0 := by unfold svalF; rw [if_pos h]; omega
theorem sval_pos {b : Nat} (h : negF b = false) : 0 ≤ svalF b := by unfold svalF; rw [if_neg (by rw [h]; exact Bool.false_ne_true)]; omega
theorem zero_sval {b : Nat} (h : kindF b = 0) : svalF b = 0 := by
  have hr : rungF b = 0 := by
    unfold kindF at h
    rw [expo_rung, frac_rung] at h
    have : rungF b < 9223372036854775808 := Nat.mod_lt _ (by decide)
    generalize rungF b = r at *
    revert h
    (repeat' split) <;> omega
  have hm : magF b = 0 := by rw [mag_rung, hr]; rfl
  unfold svalF
  rw [hm]
  split <;> rfl

theorem two_num {b c : Nat} (h1 : kindF b < 3) (h2 : kindF c < 3) : (Got.of [b, c]).whole = packF (if svalF b + svalF c = 0 then negF b && negF c else decide (svalF b + svalF c < 0)) (svalF b + svalF c).natAbs := by
  rw [got_two]
  unfold Got.whole contrib
  dsimp only
  have e1 : (kindF b == 4) = false := by rw [beq_eq_false_iff_ne]; omega
  have e2 : (kindF c == 4) = false := by rw [beq_eq_false_iff_ne]; omega
  have e3 : (kindF b == 3) = false := by rw [beq_eq_false_iff_ne]; omega
  have e4 : (kindF c == 3) = false := by rw [beq_eq_false_iff_ne]; omega
  rw [if_pos h1, if_pos h2, e1, e2, e3, e4, Int.zero_add]
  simp only [Bool.false_and, Bool.or_false, Bool.false_eq_true, if_false]
  have hz1 := @neg_zero b
  have hz2 := @neg_zero c
  have y1 := @zero_sval b
  have y2 := @zero_sval c
  have n1 := @sval_neg b
  have n2 := @sval_neg c
  have p1 := @sval_pos b
  have p2 := @sval_pos c
  unfold packF
  generalize svalF b = x at *
  generalize svalF c = y at *
  generalize kindF b = k at *
  generalize kindF c = l at *
  generalize negF b = s at *
  generalize negF c = t at *
  have key : (x + y < 0 ∨ (0 < 0 + 1 + 1 ∧ 0 + (if (k == 0 && s) = true then 1 else 0) + (if (l == 0 && t) = true then 1 else 0) = 0 + 1 + 1)) ↔ ((if x + y = 0 then s && t else decide (x + y < 0)) = true) := by
    by_cases h0 : x + y = 0
    · rw [if_pos h0, show ((s && t) = true) = (s = true ∧ t = true) from Bool.and_eq_true s t]
      constructor
      · rintro (h | ⟨_, h⟩)
        · omega
        · by_cases c1 : (k == 0 && s) = true
          · by_cases c2 : (l == 0 && t) = true
            · rw [Bool.and_eq_true] at c1 c2; exact ⟨c1.2, c2.2⟩
            · rw [if_pos c1, if_neg c2] at h; omega
          · rw [if_neg c1] at h; split at h <;> omega
      · rintro ⟨h3, h4⟩
        have := n1 h3
        have := n2 h4
        have k0 := hz1 (by omega) h1
        have l0 := hz2 (by omega) h2
        refine .inr ⟨by omega, ?_⟩
        rw [k0, l0, h3, h4]; rfl
    · rw [if_neg h0, decide_eq_true_eq]
      constructor
      · rintro (h | ⟨_, h⟩)
        · exact h
        · by_cases c1 : (k == 0 && s) = true
          · by_cases c2 : (l == 0 && t) = true
            · rw [Bool.and_eq_true, beq_iff_eq] at c1 c2
              have := y1 c1.1
              have := y2 c2.1
              omega
            · rw [if_pos c1, if_neg c2] at h; omega
          · rw [if_neg c1] at h; split at h <;> omega
      · intro h; exact .inl h
  by_cases h : (if x + y = 0 then s && t else decide (x + y < 0)) = true
  · rw [if_pos (key.2 h), if_pos h]
  · rw [if_neg (fun h' => h (key.1 h')), if_neg h]

theorem flags_nan {b c : Nat} (h : kindF b = 4 ∨ kindF c = 4) : (Got.of [b, c]).whole = 9221120237041090560 := by
  rw [got_two]
  unfold Got.whole
  dsimp only
  rw [if_pos]
  rcases h with h | h <;> rw [h] <;> simp

theorem add_none_nan {b c : Nat} (hb : b < 18446744073709551616) (hc : c < 18446744073709551616) (h : kindF b = 4 ∨ kindF c = 4) : dbl.add b c = none := by
  unfold Ieee.Format.add
  rcases h with h | h
  · obtain ⟨f, e⟩ := read_nan hb h
    rw [e]; rfl
  · obtain ⟨f, e⟩ := read_nan hc h
    rw [e]
    cases dbl.read b <;> rfl

theorem write_inf (s : Bool) : dbl.write (.infinity s) = if s then 18442240474082181120 else 9218868437227405312 := by
  show dbl.word s dbl.infRung = _
  rw [word_eq, dbl_inf]

/-- The exact sum of two floats is their sum. -/
theorem two_whole {b c : Nat} (hb : b < 18446744073709551616) (hc : c < 18446744073709551616) :
    (∀ r, dbl.add b c = some r → r < 18446744073709551616 ∧ kindF r ≠ 4 ∧ (Got.of [b, c]).whole = r) ∧ (dbl.add b c = none → (Got.of [b, c]).whole = 9221120237041090560) := by
  by_cases hn : kindF b = 4 ∨ kindF c = 4
  · have h1 := add_none_nan hb hc hn
    exact ⟨fun r h => (by rw [h1] at h; cases h), fun _ => flags_nan hn⟩
  have hk1 := kind_le b
  have hk2 := kind_le c
  by_cases c1 : kindF b < 3
  · by_cases c2 : kindF c < 3
    · have h1 := add_num hb hc c1 c2
      rw [two_num c1 c2, h1]
      refine ⟨fun r h => ?_, fun h => by cases h⟩
      cases h
      exact ⟨(pack_lt _ _).1, (pack_lt _ _).2, rfl⟩
    · have c3 : kindF c = 3 := by omega
      obtain ⟨m, e, r1, _⟩ := read_num hb c1
      have r2 := read_inf hc c3
      have h1 : dbl.add b c = some (if negF c then 18442240474082181120 else 9218868437227405312) := by
        unfold Ieee.Format.add
        rw [r1, r2]
        show some (dbl.write (.infinity (negF c))) = _
        rw [write_inf]
      rw [h1]
      refine ⟨fun r h => ?_, fun h => by cases h⟩
      cases h
      have e1 : (kindF b == 4) = false := by rw [beq_eq_false_iff_ne]; omega
      have e3 : (kindF b == 3) = false := by rw [beq_eq_false_iff_ne]; omega
      rw [got_two]
      unfold Got.whole
      dsimp only
      rw [e1, e3, c3]
      cases negF c
      · exact ⟨by decide, by decide, by rw [if_neg (by simp), if_pos (by simp)]; rfl⟩
      · exact ⟨by decide, by decide, by rw [if_neg (by simp), if_neg (by simp), if_pos (by simp)]; rfl⟩
  · have c1' : kindF b = 3 := by omega
    have r1 := read_inf hb c1'
    by_cases c2 : kindF c < 3
    · obtain ⟨m, e, r2, _⟩ := read_num hc c2
      have h1 : dbl.add b c = some (if negF b then 18442240474082181120 else 9218868437227405312) := by
        unfold Ieee.Format.add
        rw [r1, r2]
        show some (dbl.write (.infinity (negF b))) = _
        rw [write_inf]
      rw [h1]
      refine ⟨fun r h => ?_, fun h => by cases h⟩
      cases h
      have e1 : (kindF c == 4) = false := by rw [beq_eq_false_iff_ne]; omega
      have e3 : (kindF c == 3) = false := by rw [beq_eq_false_iff_ne]; omega
      rw [got_two]
      unfold Got.whole
      dsimp only
      rw [e1, e3, c1']
      cases negF b
      · exact ⟨by decide, by decide, by rw [if_neg (by simp), if_pos (by simp)]; rfl⟩
      · exact ⟨by decide, by decide, by rw [if_neg (by simp), if_neg (by simp), if_pos (by simp)]; rfl⟩
    · have c3 : kindF c = 3 := by omega
      have r2 := read_inf hc c3
      have h1 : dbl.add b c = if negF b = negF c then some (if negF b then 18442240474082181120 else 9218868437227405312) else none := by
        unfold Ieee.Format.add
        rw [r1, r2]
        show Option.map dbl.write (if negF b = negF c then some (.infinity (negF b)) else none) = _
        split
        · show some (dbl.write (.infinity (negF b))) = _
          rw [write_inf]
        · rfl
      rw [h1, got_two]
      unfold Got.whole
      dsimp only
      rw [c1', c3]
      cases negF b <;> cases negF c
      · refine ⟨fun r h => ?_, fun h => by cases h⟩
        cases h
        exact ⟨by decide, by decide, by rw [if_neg (by simp), if_pos (by simp)]; rfl⟩
      · exact ⟨fun r h => (by cases h), fun _ => by rw [if_pos (by simp)]⟩
      · exact ⟨fun r h => (by cases h), fun _ => by rw [if_pos (by simp)]⟩
      · refine ⟨fun r h => ?_, fun h => by cases h⟩
        cases h
        exact ⟨by decide, by decide, by rw [if_neg (by simp), if_neg (by simp), if_pos (by simp)]; rfl⟩

theorem one_whole {b : Nat} (hb : b < 18446744073709551616) : (Got.of [b]).whole = canonF b := by
  have hk1 := kind_le b
  rw [got_one]
  unfold Got.whole canonF
  dsimp only
  by_cases c4 : kindF b = 4
  · rw [c4, if_pos rfl, if_pos (by simp)]
  · rw [if_neg c4]
    by_cases c3 : kindF b = 3
    · rw [c3]
      rcases inf_bits hb c3 with ⟨rfl, h⟩ | ⟨rfl, h⟩
      · rw [h, if_neg (by simp), if_pos (by simp)]
      · rw [h, if_neg (by simp), if_neg (by simp), if_pos (by simp)]
    · have hk : kindF b < 3 := by omega
      have e1 : (kindF b == 4) = false := by rw [beq_eq_false_iff_ne]; omega
      have e3 : (kindF b == 3) = false := by rw [beq_eq_false_iff_ne]; omega
      have hab : (svalF b).natAbs = magF b := by unfold svalF; split <;> omega
      unfold contrib
      rw [if_pos hk, e1, e3, Int.zero_add, hab, rnd_mag hk]
      simp only [Bool.false_and, Bool.or_false, Bool.false_eq_true, if_false]
      have hbr := bits_rung hb
      have hz := @neg_zero b
      have p := @sval_pos b
      have n := @sval_neg b
      generalize svalF b = x at *
      generalize kindF b = k at *
      generalize rungF b = r at *
      cases hs : negF b
      · rw [hs] at hbr
        rw [if_neg Bool.false_ne_true] at hbr
        have := p hs
        rw [Bool.and_false, if_neg, ← hbr]
        rw [if_neg Bool.false_ne_true]; omega
      · rw [hs, if_pos rfl] at hbr
        have h1 := n hs
        rw [Bool.and_true, if_pos, ← hbr]
        by_cases h0 : x = 0
        · have := hz h0 hk
          rw [this]
          exact .inr ⟨by omega, rfl⟩
        · exact .inl (by omega)
end Go.Proofs.Ytmllbdiljjimmaa
