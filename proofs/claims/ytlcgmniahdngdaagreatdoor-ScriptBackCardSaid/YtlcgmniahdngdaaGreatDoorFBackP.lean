/- The walks of the last of some floats; Least, Most. -/
import Derived.Test.YtlcgmniahdngdaaGreatDoorFDec
import Derived.Test.YtlcgmniahdngdaaGreatDoorRows
import Derived.LaidMore
import Derived.Lib.LaidTab
import Derived.LaidSub
import Derived.ProofKit
import Derived.Laws.BitsAllLaws
import Derived.Lib.IndexMore
import Derived.Lib.IndexBytes
namespace Go.Proofs.YtlcgmniahdngdaaGreatDoor
open Go.RowKit

theorem inf_plus (w : World) : Calls Tryz.prog 57 #[.int .i64 1] w fun e w' => e = .returned (.float .f64 9218868437227405312) ∧ w = w' := by
  have h : ∀ w, (callFunc 73 #[.int .u64 9218868437227405312]).run Tryz.prog w = .ok (.value (.float .f64 9218868437227405312)) w := fun w => by kernel_rfl
  go_enter Tryz.func57, Tryz.ntmps57
  go_wp2
  go_ret
  exact ⟨rfl, rfl⟩
theorem inf_minus (w : World) : Calls Tryz.prog 57 #[.int .i64 (-1)] w fun e w' => e = .returned (.float .f64 18442240474082181120) ∧ w = w' := by
  have h : ∀ w, (callFunc 73 #[.int .u64 18442240474082181120]).run Tryz.prog w = .ok (.value (.float .f64 18442240474082181120)) w := fun w => by kernel_rfl
  go_enter Tryz.func57, Tryz.ntmps57
  go_wp2
  go_ret
  exact ⟨rfl, rfl⟩


end Go.Proofs.YtlcgmniahdngdaaGreatDoor

/- The examples of the laws of package float; what the condition gives the walks. -/
namespace Go.Proofs.YtlcgmniahdngdaaGreatDoor
open Go.RowKit

theorem tz_ex1 : tzN 7205759403792794 = 1 := by rw [tzN_even (by decide) (by decide), tzN_odd (by decide)]
theorem tz_ex0 : tzN 0 = 0 := by rw [tzN, dif_pos (.inl rfl)]
theorem dig_ex : Lib.decDigits 3602879701896397 = [51, 54, 48, 50, 56, 55, 57, 55, 48, 49, 56, 57, 54, 51, 57, 55] := by simp [Lib.decDigits]
theorem dig_55 : Lib.decDigits 55 = [53, 53] := by simp [Lib.decDigits]
theorem dig_0 : Lib.decDigits 0 = [48] := by simp [Lib.decDigits]
theorem text_ex1 : textF 4591870180066957722 = [51, 54, 48, 50, 56, 55, 57, 55, 48, 49, 56, 57, 54, 51, 57, 55, 112, 45, 53, 53] := by
  have m : mantF 4591870180066957722 = 7205759403792794 := by decide
  have o : oddF 4591870180066957722 = 3602879701896397 := by unfold oddF; rw [m, tz_ex1]
  have x : expF 4591870180066957722 = -((55 : Nat) : Int) := by unfold expF; rw [m, tz_ex1]; decide
  unfold textF
  rw [if_neg (by decide), if_neg (by decide), if_neg (by decide)]
  unfold coreF
  rw [o, x, dig_ex, Lib.itoa_neg 55 (by decide), dig_55]
  rfl
theorem text_ex2 : textF 9223372036854775808 = [45, 48, 112, 48] := by
  have m : mantF 9223372036854775808 = 0 := by decide
  have o : oddF 9223372036854775808 = 0 := by unfold oddF; rw [m, Nat.zero_div]
  have x : expF 9223372036854775808 = ((0 : Nat) : Int) := by unfold expF; rw [m]; rfl
  unfold textF
  rw [if_neg (by decide), if_neg (by decide), if_pos (by decide)]
  unfold coreF
  rw [o, x, dig_0, Lib.itoa_nonneg, dig_0]
  rfl
theorem TabD.frame {w w' : World} (h : TabD w) (hf : Fr (fun _ => False) w w') : TabD w' := fun i k hi => (World.cell?_of_block (w := w) (hf.block _ (cell_lt (h i k hi)) (fun h => h))).trans (h i k hi)

theorem gTab : Tryz.prog.globalNamed "math/bits.deBruijn64tab" = some 1 := by kernel_rfl
theorem tTab : (Tryz.prog.globals[1]?).map (·.type) = some 128 := by kernel_rfl
theorem gPow : Tryz.prog.globalNamed "internal/strconv.uint64pow10" = some 2 := by kernel_rfl
theorem tPow : (Tryz.prog.globals[2]?).map (·.type) = some 147 := by kernel_rfl
/-- What the condition gives the walks. -/
theorem tab64_of {W : World} (h : laidMetH Tryz.prog [("math/bits.deBruijn64tab", Rows.laid_math_bits_deBruijn64tab)] W) : TabD W := by
  rw [MakeChecks.laidMetH_plain _ _ _ (by kernel_rfl)] at h
  obtain ⟨ps, ⟨g0, t0, cs0, f0, p0, q0, hg0, ht0, hv0, hd0, _⟩, _⟩ := h
  obtain rfl := Option.some.inj (gTab.symm.trans hg0)
  obtain rfl := Option.some.inj (tTab.symm.trans ht0)
  have hc := Lib.cells_of_tab (k := .u8) (zs := tabD.map Int.ofNat) Tryz.underlying128 Tryz.underlying5 (by kernel_rfl) (by kernel_rfl) hd0
  intro i k hi
  have := World.var?_cell hg0 hv0 i
  rw [this, ← Array.getElem?_toList, hc]
  simp [hi]
theorem tabPow_of {W : World} (h : laidMetH Tryz.prog [("internal/strconv.uint64pow10", Rows.laid_internal_strconv_uint64pow10)] W) : Lib.TabIs Tryz.prog W "internal/strconv.uint64pow10" .u64 Lib.pow10Tab := by
  rw [MakeChecks.laidMetH_plain _ _ _ (by kernel_rfl)] at h
  exact Lib.tabIs_of_head gPow tPow Tryz.underlying147 Tryz.underlying29 (by kernel_rfl) (by kernel_rfl) h
theorem tabs_of_laid {W : World} (h : laidMetH Tryz.prog Rows.scriptBackRow.laid W) : TabD W ∧ Lib.TabIs Tryz.prog W "internal/strconv.uint64pow10" .u64 Lib.pow10Tab :=
  ⟨tab64_of (h.filter (fun x => x.1 == "math/bits.deBruijn64tab")), tabPow_of (h.filter (fun x => x.1 == "internal/strconv.uint64pow10"))⟩
theorem tabs_of_laid5 {W : World} (h : laidMetH Tryz.prog Rows.scriptBackRow.laid W) : TabD W ∧ Lib.TabIs Tryz.prog W "internal/strconv.uint64pow10" .u64 Lib.pow10Tab :=
  ⟨tab64_of (h.filter (fun x => x.1 == "math/bits.deBruijn64tab")), tabPow_of (h.filter (fun x => x.1 == "internal/strconv.uint64pow10"))⟩
end Go.Proofs.YtlcgmniahdngdaaGreatDoor

/- The walk of float.Same; posts. -/
namespace Go.Proofs.YtlcgmniahdngdaaGreatDoor
open Go.RowKit

theorem same_any (a b : Nat) (w : World) :
    Calls Tryz.prog 63 #[.float .f64 a, .float .f64 b] w fun e w' => e = .returned (.bool (a == b)) ∧ w = w' := by
  have H1 := Lib.hid (bits_any a w)
  have H2 := Lib.hid (bits_any b w)
  have hq : ((a : Int) == (b : Int)) = (a == b) := by rw [Bool.eq_iff_iff, beq_iff_eq, beq_iff_eq]; omega
  generalize hr : (a == b) = r at *
  have HQ := Lib.hid hq
  have HR := Lib.hid hr
  clear hr hq
  go_enter Tryz.func63, Tryz.ntmps63
  go_wp2_with fail
  refine (H1.out).mono ?_
  rintro e w' ⟨rfl, rfl⟩
  go_wp2_with fail
  refine (H2.out).mono ?_
  rintro e w' ⟨rfl, rfl⟩
  go_wp2
  go_ret
  exact ⟨by first | exact congrArg (fun b => Ending.returned (.bool b)) HQ.out | exact congrArg (fun b => Ending.returned (.bool b)) HR.out, rfl⟩

/-! ### The examples -/
def BPost (w : World) (v : Bool) (e : Ending) (w' : World) : Prop := e = .returned (.bool v) ∧ Fr (fun _ => False) w w'
def LawPost (w : World) (e : Ending) (w' : World) : Prop := e = .returned (.bool true) ∧ Fr (fun _ => False) w w'
end Go.Proofs.YtlcgmniahdngdaaGreatDoor

/- Plain lemmas: floats with the other sign. -/
namespace Go.Proofs.YtlcgmniahdngdaaGreatDoor
open Go.RowKit

def flipF (b : Nat) : Nat := b ^^^ 9223372036854775808
theorem neg_flip (b : Nat) : Op.negFloat .f64 b = flipF b := rfl
theorem flip_low {b : Nat} (h : b < 9223372036854775808) : flipF b = b + 9223372036854775808 := by
  unfold flipF
  rw [show (9223372036854775808 : Nat) = 2 ^ 63 * 1 by rfl]
  have h1 := Nat.two_pow_add_eq_or_of_lt (i := 63) (b := b) h 1
  rw [Nat.add_comm, h1]
  apply Nat.eq_of_testBit_eq
  intro i
  rw [Nat.testBit_xor, Nat.testBit_or]
  by_cases hi : i < 63
  · have : (2 ^ 63 * 1).testBit i = false := by rw [Nat.mul_one, Nat.testBit_two_pow_of_ne (by omega)]
    rw [this]; simp
  · have h0 : b.testBit i = false := Nat.testBit_lt_two_pow (Nat.lt_of_lt_of_le h (Nat.pow_le_pow_right (n := 2) (by decide) (by omega : 63 ≤ i)))
    rw [h0]; simp

theorem xor_twice (x c : Nat) : (x ^^^ c) ^^^ c = x := by rw [Nat.xor_assoc, Nat.xor_self, Nat.xor_zero]
theorem flip_flip (x : Nat) : flipF (flipF x) = x := xor_twice x 9223372036854775808
theorem flip_eq {b : Nat} (hb : b < 18446744073709551616) : flipF b = if 9223372036854775808 ≤ b then b - 9223372036854775808 else b + 9223372036854775808 := by
  by_cases h : 9223372036854775808 ≤ b
  · rw [if_pos h]
    obtain ⟨c, hc⟩ : ∃ c, c = b - 9223372036854775808 := ⟨_, rfl⟩
    have h1 := flip_low (b := c) (by omega)
    have h2 := flip_flip c
    rw [h1, show c + 9223372036854775808 = b by omega] at h2
    rw [h2, hc]
  · rw [if_neg h, flip_low (by omega)]
theorem flip_neg {b : Nat} (hb : b < 18446744073709551616) : flipF b < 18446744073709551616 ∧ rungF (flipF b) = rungF b ∧ negF (flipF b) = !negF b := by
  have hd : flipF b = if 9223372036854775808 ≤ b then b - 9223372036854775808 else b + 9223372036854775808 := flip_eq hb
  rw [hd]
  unfold rungF negF
  by_cases h : 9223372036854775808 ≤ b
  · rw [if_pos h]
    refine ⟨by omega, by omega, ?_⟩
    rw [decide_eq_true h]; simp; omega
  · rw [if_neg h]
    refine ⟨by omega, by omega, ?_⟩
    rw [decide_eq_false h]; simp

theorem kind_flip {b : Nat} (hb : b < 18446744073709551616) : kindF (flipF b) = kindF b ∧ magF (flipF b) = magF b := by
  obtain ⟨_, h, _⟩ := flip_neg hb
  unfold kindF
  rw [expo_rung (flipF b), frac_rung (flipF b), expo_rung b, frac_rung b, mag_rung (flipF b), mag_rung b, h]
  exact ⟨rfl, rfl⟩
theorem run_neg_float {P : Program} (b : Nat) (w : World) : (Op.unary .neg (.float .f64 b)).run P w = .ok (.float .f64 (flipF b)) w := rfl

end Go.Proofs.YtlcgmniahdngdaaGreatDoor

/- Plain lemmas: what a float's text consists of, and which float has a text. -/
namespace Go.Proofs.YtlcgmniahdngdaaGreatDoor
open Go.RowKit

/-- What a float's parts are. -/
theorem parts_mag {b : Nat} (h0 : mantF b ≠ 0) : -1074 ≤ expF b ∧ magF b = oddF b * 2 ^ (expF b + 1074).toNat ∧ oddF b % 2 = 1 := by
  obtain ⟨m, hm⟩ := tzN_ex (mantF b) h0
  have ho : oddF b = 2 * m + 1 := by
    unfold oddF
    rw [Nat.div_eq_of_eq_mul_right (pow_pos2 _) hm]
  have hx := exp_le b
  refine ⟨hx.1, ?_, by omega⟩
  rw [ho]
  have hE : expF b + 1074 = ((if expo b = 0 then 0 else expo b - 1 : Nat) : Int) + (tzN (mantF b) : Int) := by
    unfold expF
    rw [if_neg h0]
    by_cases he : expo b = 0
    · rw [if_pos he, if_pos he]; omega
    · rw [if_neg he, if_neg he]; omega
  rw [hE, show ((if expo b = 0 then 0 else expo b - 1 : Nat) : Int) + (tzN (mantF b) : Int) = (((if expo b = 0 then 0 else expo b - 1) + tzN (mantF b) : Nat) : Int) by omega, Int.toNat_natCast, Nat.pow_add]
  have hM : magF b = mantF b * 2 ^ (if expo b = 0 then 0 else expo b - 1) := by
    unfold magF mantF
    by_cases he : expo b = 0
    · rw [if_pos he, if_pos he, if_pos he, Nat.pow_zero, Nat.mul_one]
    · rw [if_neg he, if_neg he, if_neg he]
  rw [hM]
  conv => lhs; rw [hm]
  generalize 2 ^ tzN (mantF b) = T
  generalize 2 ^ (if expo b = 0 then 0 else expo b - 1) = U
  rw [Nat.mul_comm T, Nat.mul_assoc, Nat.mul_comm T U]

theorem index_at : ∀ (l r : List UInt8) (c : UInt8), (∀ d ∈ l, d ≠ c) → Lib.indexByte (l ++ c :: r) c = (l.length : Int)
  | [], r, c, _ => by unfold Lib.indexByte; simp
  | b :: l, r, c, h => by
    have ih := index_at l r c (fun d hd => h d (List.mem_cons_of_mem _ hd))
    have hb : (b == c) = false := by rw [beq_eq_false_iff_ne]; exact h b List.mem_cons_self
    rw [List.cons_append]
    unfold Lib.indexByte
    rw [hb, ih]
    have h1 : ((l.length : Int) == -1) = false := by rw [beq_eq_false_iff_ne]; omega
    rw [h1]
    simp
theorem cut_at (l r : List UInt8) (c : UInt8) (h : ∀ d ∈ l, d ≠ c) : Lib.cut (l ++ c :: r) [c] = (l, r, true) := by
  unfold Lib.cut
  rw [Lib.index_one, index_at l r c h, if_pos (by omega), Int.toNat_natCast]
  simp
theorem core_parts (b : Nat) : Lib.cut (coreF b) [112] = (Lib.decDigits (oddF b), Lib.itoa (expF b), true) :=
  cut_at _ _ _ (fun d hd => dig_not ((dec_digs _).1 d hd) 112 (.inr (by decide)))
theorem core_head (b : Nat) : Lib.hasPrefix (coreF b) [45] = false := by
  obtain ⟨c, r, e, hc⟩ := dec_cons (oddF b)
  unfold coreF Lib.hasPrefix
  rw [e, List.cons_append]
  have := dig_not hc 45 (.inl (by decide))
  simp [List.isPrefixOf]
  exact fun h => this h.symm
theorem text_num {b : Nat} (h : kindF b < 3) : textF b = if negF b then 45 :: coreF b else coreF b := by
  unfold textF
  rw [if_neg (by omega), if_neg (by omega)]
theorem text_parts {b : Nat} (h : kindF b < 3) : Lib.hasPrefix (textF b) [45] = negF b ∧ Lib.trimPrefix (textF b) [45] = coreF b := by
  rw [text_num h]
  unfold Lib.trimPrefix
  cases hn : negF b
  · rw [if_neg Bool.false_ne_true, core_head]; exact ⟨rfl, rfl⟩
  · rw [if_pos rfl]
    have : Lib.hasPrefix (45 :: coreF b) [45] = true := by unfold Lib.hasPrefix; simp [List.isPrefixOf]
    rw [this]; exact ⟨rfl, rfl⟩
theorem exp_num {b : Nat} (h : kindF b < 3) : -1074 ≤ expF b ∧ expF b ≤ 1023 := by
  have h1 := exp_le b
  have hr := (kind_num b).1 h
  have he : expo b ≤ 2046 := by rw [expo_rung]; omega
  refine ⟨h1.1, ?_⟩
  unfold expF
  split
  · omega
  · rename_i h0
    have := tzN_lt h0 (mant_lt b)
    split <;> omega
/-- The text of a number is none of the three words. -/
theorem text_words {b : Nat} (h : kindF b < 3) : textF b ≠ [110, 97, 110] ∧ textF b ≠ [105, 110, 102] ∧ textF b ≠ [45, 105, 110, 102] := by
  obtain ⟨c, r, e, hc⟩ := dec_cons (oddF b)
  have hcore : coreF b = c :: (r ++ 112 :: Lib.itoa (expF b)) := by unfold coreF; rw [e]; rfl
  rw [text_num h, hcore]
  unfold IsDig at hc
  cases negF b
  · rw [if_neg Bool.false_ne_true]
    refine ⟨fun h => ?_, fun h => ?_, fun h => ?_⟩ <;> (injection h with h1 h2; subst h1; revert hc; decide)
  · rw [if_pos rfl]
    refine ⟨fun h => ?_, fun h => ?_, fun h => ?_⟩
    · injection h with h1 h2; revert h1; decide
    · injection h with h1 h2; revert h1; decide
    · injection h with h1 h2
      injection h2 with h3 h4
      subst h3; revert hc; decide
theorem mag_parts {b : Nat} (h : kindF b < 3) : magF b = oddF b * 2 ^ (expF b + 1074).toNat := by
  have hr := (kind_num b).1 h
  have e1 : mantF b = mantF (rungF b) := by
    unfold mantF
    rw [expo_rung b, frac_rung b, expo_rung (rungF b), frac_rung (rungF b)]
    have : rungF (rungF b) = rungF b := by unfold rungF; omega
    rw [this]
  by_cases h0 : mantF b = 0
  · have hm : magF b = 0 := by
      have : expo b = 0 ∧ frac b = 0 := by
        unfold mantF at h0
        split at h0 <;> omega
      unfold magF
      rw [if_pos this.1, this.2]
    rw [hm]; unfold oddF; rw [h0, Nat.zero_div, Nat.zero_mul]
  · have e2 : expo b = expo (rungF b) := by rw [expo_rung b, expo_rung (rungF b)]; unfold rungF; omega
    have k2 : kindF (rungF b) < 3 := (kind_num _).2 (by unfold rungF at hr ⊢; omega)
    have := (parts_mag (b := rungF b) (by rw [← e1]; exact h0)).2.1
    have e3 : oddF (rungF b) = oddF b := by unfold oddF; rw [e1]
    have e4 : expF (rungF b) = expF b := by unfold expF; rw [e1, e2]
    rw [e3, e4] at this
    rw [mag_rung b]
    exact this
/-- Two floats with one text are one, but for the NaNs. -/
theorem text_inj {b c : Nat} (hb : b < 18446744073709551616) (hc : c < 18446744073709551616) (h : textF b = textF c) : canonF b = canonF c := by
  have kb := kind_le b
  have kc := kind_le c
  have words : ∀ {x : Nat}, x < 18446744073709551616 → ¬ kindF x < 3 → (kindF x = 4 ∧ textF x = [110, 97, 110]) ∨ (x = 9218868437227405312 ∧ textF x = [105, 110, 102]) ∨ (x = 18442240474082181120 ∧ textF x = [45, 105, 110, 102]) := by
    intro x hx hk
    have := kind_le x
    by_cases h4 : kindF x = 4
    · exact .inl ⟨h4, by unfold textF; rw [if_pos h4]⟩
    · have h3 : kindF x = 3 := by omega
      have hr := (kind_inf x).1 h3
      have hw := bits_rung hx
      rw [hr] at hw
      cases hn : negF x
      · rw [hn, if_neg Bool.false_ne_true] at hw
        exact .inr (.inl ⟨hw, by unfold textF; rw [if_neg h4, if_pos h3, hn]; rfl⟩)
      · rw [hn, if_pos rfl] at hw
        exact .inr (.inr ⟨hw, by unfold textF; rw [if_neg h4, if_pos h3, hn]; rfl⟩)
  by_cases h1 : kindF b < 3
  · have hw := text_words h1
    by_cases h2 : kindF c < 3
    · have p1 := text_parts h1
      have p2 := text_parts h2
      rw [h] at p1
      have en : negF b = negF c := p1.1.symm.trans p2.1
      have ec : coreF b = coreF c := p1.2.symm.trans p2.2
      have q1 := core_parts b
      have q2 := core_parts c
      rw [ec] at q1
      have q := q1.symm.trans q2
      injection q with q3 q4
      injection q4 with q5 q6
      have o1 := parse_dec (u := oddF b) (Nat.lt_trans (odd_lt b) (by decide))
      rw [q3, parse_dec (u := oddF c) (Nat.lt_trans (odd_lt c) (by decide))] at o1
      injection o1 with o1
      have x1 := exp_le b
      have x2 := exp_le c
      have a1 := atoi_itoa (x := expF b) (by omega)
      rw [q5, atoi_itoa (x := expF c) (by omega)] at a1
      injection a1 with a1
      have hm : magF (rungF b) = magF (rungF c) := by rw [← mag_rung, ← mag_rung, mag_parts h1, mag_parts h2, o1, a1]
      have hr : rungF b = rungF c := mag_inj (by unfold rungF; omega) (by unfold rungF; omega) hm
      rw [bits_rung hb, bits_rung hc, hr, en]
    · rw [h] at hw
      rcases words hc h2 with ⟨_, e⟩ | ⟨_, e⟩ | ⟨_, e⟩
      · exact absurd e hw.1
      · exact absurd e hw.2.1
      · exact absurd e hw.2.2
  · by_cases h2 : kindF c < 3
    · have hw := text_words h2
      rw [← h] at hw
      rcases words hb h1 with ⟨_, e⟩ | ⟨_, e⟩ | ⟨_, e⟩
      · exact absurd e hw.1
      · exact absurd e hw.2.1
      · exact absurd e hw.2.2
    · rcases words hb h1 with ⟨e1, e⟩ | ⟨e1, e⟩ | ⟨e1, e⟩ <;> rcases words hc h2 with ⟨f1, f⟩ | ⟨f1, f⟩ | ⟨f1, f⟩ <;> rw [e, f] at h
      · rw [canon_nan e1, canon_nan f1]
      · exact absurd h (by decide)
      · exact absurd h (by decide)
      · exact absurd h (by decide)
      · rw [e1, f1]
      · exact absurd h (by decide)
      · exact absurd h (by decide)
      · exact absurd h (by decide)
      · rw [e1, f1]
end Go.Proofs.YtlcgmniahdngdaaGreatDoor
