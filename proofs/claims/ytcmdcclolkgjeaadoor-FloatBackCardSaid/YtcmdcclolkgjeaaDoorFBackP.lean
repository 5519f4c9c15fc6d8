/- Plain lemmas: what a float's text consists of, and which float has a text. -/
import Derived.Test.YtcmdcclolkgjeaaDoorFDec
import Derived.Test.YtcmdcclolkgjeaaDoorFFlip
import Derived.Test.YtcmdcclolkgjeaaDoorFParts
import Derived.Lib.IndexMore
import Derived.Lib.IndexBytes
namespace Go.Proofs.YtcmdcclolkgjeaaDoor
open Go.RowKit

/-- What a float's parts are. -/
theorem parts_mag {b : Nat} (h0 : mantF b ≠ 0) : -1074 ≤ expF b ∧ magF b = oddF b * 2 ^ (expF b + 1074).toNat ∧ oddF b % 2 = 1 := by
  obtain ⟨m, hm⟩ := tzN_ex (mantF b) h0
  have ho : oddF b = 2 * m + 1 := by
    unfold oddF
    rw [Nat.div_eq_of_eq_mul_right (pow_pos2 _) hm]
  have hx := exp_le b
  refine ⟨hx.1, ?_, by omega⟩
  rw [ho]
  have hE : expF b + 1074 = ((if expo b = 0 then 0 else expo b - 1 : Nat) : Int) + (tzN (mantF b) : Int) := by
    unfold expF
    rw [if_neg h0]
    by_cases he : expo b = 0
    · rw [if_pos he, if_pos he]; omega
    · rw [if_neg he, if_neg he]; omega
  rw [hE, show ((if expo b = 0 then 0 else expo b - 1 : Nat) : Int) + (tzN (mantF b) : Int) = (((if expo b = 0 then 0 else expo b - 1) + tzN (mantF b) : Nat) : Int) by omega, Int.toNat_natCast, Nat.pow_add]
  have hM : magF b = mantF b * 2 ^ (if expo b = 0 then 0 else expo b - 1) := by
    unfold magF mantF
    by_cases he : expo b = 0
    · rw [if_pos he, if_pos he, if_pos he, Nat.pow_zero, Nat.mul_one]
    · rw [if_neg he, if_neg he, if_neg he]
  rw [hM]
  conv => lhs; rw [hm]
  generalize 2 ^ tzN (mantF b) = T
  generalize 2 ^ (if expo b = 0 then 0 else expo b - 1) = U
  rw [Nat.mul_comm T, Nat.mul_assoc, Nat.mul_comm T U]

theorem index_at : ∀ (l r : List UInt8) (c : UInt8), (∀ d ∈ l, d ≠ c) → Lib.indexByte (l ++ c :: r) c = (l.length : Int)
  | [], r, c, _ => by unfold Lib.indexByte; simp
  | b :: l, r, c, h => by
    have ih := index_at l r c (fun d hd => h d (List.mem_cons_of_mem _ hd))
    have hb : (b == c) = false := by rw [beq_eq_false_iff_ne]; exact h b List.mem_cons_self
    rw [List.cons_append]
    unfold Lib.indexByte
    rw [hb, ih]
    have h1 : ((l.length : Int) == -1) = false := by rw [beq_eq_false_iff_ne]; omega
    rw [h1]
    simp
theorem cut_at (l r : List UInt8) (c : UInt8) (h : ∀ d ∈ l, d ≠ c) : Lib.cut (l ++ c :: r) [c] = (l, r, true) := by
  unfold Lib.cut
  rw [Lib.index_one, index_at l r c h, if_pos (by omega), Int.toNat_natCast]
  simp
theorem core_parts (b : Nat) : Lib.cut (coreF b) [112] = (Lib.decDigits (oddF b), Lib.itoa (expF b), true) :=
  cut_at _ _ _ (fun d hd => dig_not ((dec_digs _).1 d hd) 112 (.inr (by decide)))
theorem core_head (b : Nat) : Lib.hasPrefix (coreF b) [45] = false := by
  obtain ⟨c, r, e, hc⟩ := dec_cons (oddF b)
  unfold coreF Lib.hasPrefix
  rw [e, List.cons_append]
  have := dig_not hc 45 (.inl (by decide))
  simp [List.isPrefixOf]
  exact fun h => this h.symm
theorem text_num {b : Nat} (h : kindF b < 3) : textF b = if negF b then 45 :: coreF b else coreF b := by
  unfold textF
  rw [if_neg (by omega), if_neg (by omega)]
theorem text_parts {b : Nat} (h : kindF b < 3) : Lib.hasPrefix (textF b) [45] = negF b ∧ Lib.trimPrefix (textF b) [45] = coreF b := by
  rw [text_num h]
  unfold Lib.trimPrefix
  cases hn : negF b
  · rw [if_neg Bool.false_ne_true, core_head]; exact ⟨rfl, rfl⟩
  · rw [if_pos rfl]
    have : Lib.hasPrefix (45 :: coreF b) [45] = true := by unfold Lib.hasPrefix; simp [List.isPrefixOf]
    rw [this]; exact ⟨rfl, rfl⟩
theorem exp_num {b : Nat} (h : kindF b < 3) : -1074 ≤ expF b ∧ expF b ≤ 1023 := by
  have h1 := exp_le b
  have hr := (kind_num b).1 h
  have he : expo b ≤ 2046 := by rw [expo_rung]; omega
  refine ⟨h1.1, ?_⟩
  unfold expF
  split
  · omega
  · rename_i h0
    have := tzN_lt h0 (mant_lt b)
    split <;> omega
/-- The text of a number is none of the three words. -/
theorem text_words {b : Nat} (h : kindF b < 3) : textF b ≠ [110, 97, 110] ∧ textF b ≠ [105, 110, 102] ∧ textF b ≠ [45, 105, 110, 102] := by
  obtain ⟨c, r, e, hc⟩ := dec_cons (oddF b)
  have hcore : coreF b = c :: (r ++ 112 :: Lib.itoa (expF b)) := by unfold coreF; rw [e]; rfl
  rw [text_num h, hcore]
  unfold IsDig at hc
  cases negF b
  · rw [if_neg Bool.false_ne_true]
    refine ⟨fun h => ?_, fun h => ?_, fun h => ?_⟩ <;> (injection h with h1 h2; subst h1; revert hc; decide)
  · rw [if_pos rfl]
    refine ⟨fun h => ?_, fun h => ?_, fun h => ?_⟩
    · injection h with h1 h2; revert h1; decide
    · injection h with h1 h2; revert h1; decide
    · injection h with h1 h2
      injection h2 with h3 h4
      subst h3; revert hc; decide
theorem mag_parts {b : Nat} (h : kindF b < 3) : magF b = oddF b * 2 ^ (expF b + 1074).toNat := by
  have hr := (kind_num b).1 h
  have e1 : mantF b = mantF (rungF b) := by
    unfold mantF
    rw [expo_rung b, frac_rung b, expo_rung (rungF b), frac_rung (rungF b)]
    have : rungF (rungF b) = rungF b := by unfold rungF; omega
    rw [this]
  by_cases h0 : mantF b = 0
  · have hm : magF b = 0 := by
      have : expo b = 0 ∧ frac b = 0 := by
        unfold mantF at h0
        split at h0 <;> omega
      unfold magF
      rw [if_pos this.1, this.2]
    rw [hm]; unfold oddF; rw [h0, Nat.zero_div, Nat.zero_mul]
  · have e2 : expo b = expo (rungF b) := by rw [expo_rung b, expo_rung (rungF b)]; unfold rungF; omega
    have k2 : kindF (rungF b) < 3 := (kind_num _).2 (by unfold rungF at hr ⊢; omega)
    have := (parts_mag (b := rungF b) (by rw [← e1]; exact h0)).2.1
    have e3 : oddF (rungF b) = oddF b := by unfold oddF; rw [e1]
    have e4 : expF (rungF b) = expF b := by unfold expF; rw [e1, e2]
    rw [e3, e4] at this
    rw [mag_rung b]
    exact this
/-- Two floats with one text are one, but for the NaNs. -/
theorem text_inj {b c : Nat} (hb : b < 18446744073709551616) (hc : c < 18446744073709551616) (h : textF b = textF c) : canonF b = canonF c := by
  have kb := kind_le b
  have kc := kind_le c
  have words : ∀ {x : Nat}, x < 18446744073709551616 → ¬ kindF x < 3 → (kindF x = 4 ∧ textF x = [110, 97, 110]) ∨ (x = 9218868437227405312 ∧ textF x = [105, 110, 102]) ∨ (x = 18442240474082181120 ∧ textF x = [45, 105, 110, 102]) := by
    intro x hx hk
    have := kind_le x
    by_cases h4 : kindF x = 4
    · exact .inl ⟨h4, by unfold textF; rw [if_pos h4]⟩
    · have h3 : kindF x = 3 := by omega
      have hr := (kind_inf x).1 h3
      have hw := bits_rung hx
      rw [hr] at hw
      cases hn : negF x
      · rw [hn, if_neg Bool.false_ne_true] at hw
        exact .inr (.inl ⟨hw, by unfold textF; rw [if_neg h4, if_pos h3, hn]; rfl⟩)
      · rw [hn, if_pos rfl] at hw
        exact .inr (.inr ⟨hw, by unfold textF; rw [if_neg h4, if_pos h3, hn]; rfl⟩)
  by_cases h1 : kindF b < 3
  · have hw := text_words h1
    by_cases h2 : kindF c < 3
    · have p1 := text_parts h1
      have p2 := text_parts h2
      rw [h] at p1
      have en : negF b = negF c := p1.1.symm.trans p2.1
      have ec : coreF b = coreF c := p1.2.symm.trans p2.2
      have q1 := core_parts b
      have q2 := core_parts c
      rw [ec] at q1
      have q := q1.symm.trans q2
      injection q with q3 q4
      injection q4 with q5 q6
      have o1 := parse_dec (u := oddF b) (Nat.lt_trans (odd_lt b) (by decide))
      rw [q3, parse_dec (u := oddF c) (Nat.lt_trans (odd_lt c) (by decide))] at o1
      injection o1 with o1
      have x1 := exp_le b
      have x2 := exp_le c
      have a1 := atoi_itoa (x := expF b) (by omega)
      rw [q5, atoi_itoa (x := expF c) (by omega)] at a1
      injection a1 with a1
      have hm : magF (rungF b) = magF (rungF c) := by rw [← mag_rung, ← mag_rung, mag_parts h1, mag_parts h2, o1, a1]
      have hr : rungF b = rungF c := mag_inj (by unfold rungF; omega) (by unfold rungF; omega) hm
      rw [bits_rung hb, bits_rung hc, hr, en]
    · rw [h] at hw
      rcases words hc h2 with ⟨_, e⟩ | ⟨_, e⟩ | ⟨_, e⟩
      · exact absurd e hw.1
      · exact absurd e hw.2.1
      · exact absurd e hw.2.2
  · by_cases h2 : kindF c < 3
    · have hw := text_words h2
      rw [← h] at hw
      rcases words hb h1 with ⟨_, e⟩ | ⟨_, e⟩ | ⟨_, e⟩
      · exact absurd e hw.1
      · exact absurd e hw.2.1
      · exact absurd e hw.2.2
    · rcases words hb h1 with ⟨e1, e⟩ | ⟨e1, e⟩ | ⟨e1, e⟩ <;> rcases words hc h2 with ⟨f1, f⟩ | ⟨f1, f⟩ | ⟨f1, f⟩ <;> rw [e, f] at h
      · rw [canon_nan e1, canon_nan f1]
      · exact absurd h (by decide)
      · exact absurd h (by decide)
      · exact absurd h (by decide)
      · rw [e1, f1]
      · exact absurd h (by decide)
      · exact absurd h (by decide)
      · exact absurd h (by decide)
      · rw [e1, f1]
end Go.Proofs.YtcmdcclolkgjeaaDoor
