/- Plain lemmas: the float nearest to a number, found as the greatest one that is not above it. -/
import Derived.Test.YtmllbdiljjimmaaExact11
namespace Go.Proofs.Ytmllbdiljjimmaa
open Go.RowKit

theorem mag_at (a q : Nat) (hq : q < 9007199254740992) (ha : a = 0 ∨ 4503599627370496 ≤ q) (hl : a < 2047) : magF (a * 4503599627370496 + q) = q * 2 ^ a := by
  unfold magF expo frac
  by_cases h : q < 4503599627370496
  · obtain rfl : a = 0 := by omega
    rw [if_pos (by omega), Nat.pow_zero]; omega
  · rw [if_neg (by omega), show (a * 4503599627370496 + q) / 4503599627370496 % 2048 - 1 = a by omega, show 4503599627370496 + (a * 4503599627370496 + q) % 4503599627370496 = q by omega]
theorem mag_at1 (a q : Nat) (hq : q < 9007199254740992) (ha : a = 0 ∨ 4503599627370496 ≤ q) (hl : a < 2047) (hl2 : a < 2046 ∨ q + 1 < 9007199254740992) : magF (a * 4503599627370496 + q + 1) = (q + 1) * 2 ^ a := by
  by_cases h : q + 1 < 9007199254740992
  · rw [Nat.add_assoc, mag_at a (q + 1) h (by omega) hl]
  · obtain rfl : q = 9007199254740991 := by omega
    rw [show a * 4503599627370496 + 9007199254740991 + 1 = (a + 1) * 4503599627370496 + 4503599627370496 by omega, mag_at (a + 1) 4503599627370496 (by decide) (by omega) (by omega), Nat.pow_succ, Nat.mul_comm (2 ^ a), ← Nat.mul_assoc]
theorem mag_form (b : Nat) (h : b < 9223372036854775808) : ∃ a q, b = a * 4503599627370496 + q ∧ q < 9007199254740992 ∧ (a = 0 ∨ 4503599627370496 ≤ q) ∧ a < 2047 := by
  by_cases h0 : b < 4503599627370496
  · exact ⟨0, b, by omega, by omega, by omega, by omega⟩
  · exact ⟨b / 4503599627370496 - 1, b - (b / 4503599627370496 - 1) * 4503599627370496, by omega, by omega, by omega, by omega⟩
theorem mag_lt1 (b : Nat) (h : b + 1 < 9223372036854775808) : magF b < magF (b + 1) := by
  obtain ⟨a, q, rfl, hq, ha, hl⟩ := mag_form b (by omega)
  rw [mag_at a q hq ha hl, mag_at1 a q hq ha hl (by omega), Nat.succ_mul]
  have := pow_pos2 a
  omega
theorem mag_mono {b c : Nat} (h : b ≤ c) (hc : c < 9223372036854775808) : magF b ≤ magF c := by
  induction c with
  | zero => rw [Nat.le_zero.1 h]; exact Nat.le_refl _
  | succ c ih =>
    rcases Nat.eq_or_lt_of_le h with rfl | h
    · exact Nat.le_refl _
    · exact Nat.le_of_lt (Nat.lt_of_le_of_lt (ih (by omega) (by omega)) (mag_lt1 c hc))
theorem mag_strict {b c : Nat} (h : b < c) (hc : c < 9223372036854775808) : magF b < magF c :=
  Nat.lt_of_lt_of_le (mag_lt1 b (by omega)) (mag_mono h hc)
theorem mag_inf (k : Nat) (hk : k = 2046) : magF 9218868437227405312 = 4503599627370496 * 2 ^ k := by
  have h := mag_at k 4503599627370496 (by decide) (.inr (Nat.le_refl _)) (by omega)
  rw [show k * 4503599627370496 + 4503599627370496 = 9218868437227405312 by omega] at h
  exact h

/-- The nearest float, from the greatest one that is not above. -/
def nearOf (N low : Nat) : Nat :=
  if low = 9218868437227405312 then 9218868437227405312
  else if magF (low + 1) - N < N - magF low ∨ (¬ N - magF low < magF (low + 1) - N ∧ low % 2 = 1) then low + 1 else low

theorem near_low (N low a q r P : Nat) (hP : 2 ^ a = P) (hN : N = P * q + r) (hr : r < P) (hq : q < 9007199254740992) (ha : a = 0 ∨ 4503599627370496 ≤ q) (hal : a < 2046) (hl : low ≤ 9218868437227405312) (h1 : magF low ≤ N) (h2 : low < 9218868437227405312 → N < magF (low + 1)) :
    low = a * 4503599627370496 + q ∧ magF low = P * q ∧ magF (low + 1) = P * q + P := by
  have e0 := mag_at a q hq ha (by omega)
  have e1 := mag_at1 a q hq ha (by omega) (.inl hal)
  rw [hP, Nat.mul_comm q P] at e0
  rw [hP, Nat.succ_mul, Nat.mul_comm q P] at e1
  generalize P * q = X at *
  have hb : a * 4503599627370496 + q < 9218868437227405312 := by omega
  have hlow : low = a * 4503599627370496 + q := by
    rcases Nat.lt_trichotomy low (a * 4503599627370496 + q) with h | h | h
    · have h3 := mag_mono (show low + 1 ≤ _ from h) (by omega)
      have h4 := h2 (by omega)
      rw [e0] at h3
      omega
    · exact h
    · have h3 := mag_mono (show _ + 1 ≤ low from h) (by omega)
      rw [e1] at h3
      omega
  subst hlow
  exact ⟨rfl, e0, e1⟩

theorem near_choose (X P H c s r q a : Nat) (hP : P = 2 * H) (hr : r = H * c + s) (hs : s < H) (hc : c = 0 ∨ c = 1) (h0 : 0 < a) (b : Nat) (hb : b % 2 = q % 2) :
    (if X + P - (X + r) < (X + r) - X ∨ (¬ (X + r) - X < X + P - (X + r) ∧ b % 2 = 1) then b + 1 else b) = b + (if 0 < a ∧ c = 1 ∧ (q % 2 = 1 ∨ s ≠ 0) then 1 else 0) := by
  rcases hc with rfl | rfl
  · rw [if_neg (by omega), if_neg (by omega)]; omega
  · rw [Nat.mul_one] at hr
    by_cases hodd : q % 2 = 1 ∨ s ≠ 0
    · rw [if_pos (by omega), if_pos (by omega)]
    · rw [if_neg (by omega), if_neg (by omega)]; omega

theorem near_rnd (N low : Nat) (hl : low ≤ 9218868437227405312) (h1 : magF low ≤ N) (h2 : low < 9218868437227405312 → N < magF (low + 1)) : nearOf N low = rnd N := by
  have hL := lenN_is N
  unfold rnd
  generalize lenN N = L at *
  unfold roundN roundAt
  obtain ⟨hN1, hN2⟩ := hL
  have hq : N / 2 ^ (L - 53) < 9007199254740992 := by
    rw [Nat.div_lt_iff_lt_mul (pow_pos2 _), show (9007199254740992 : Nat) = 2 ^ 53 by rfl, ← Nat.pow_add]
    exact Nat.lt_of_lt_of_le hN1 (Nat.pow_le_pow_right (by decide) (by omega))
  have hqa : L - 53 = 0 ∨ 4503599627370496 ≤ N / 2 ^ (L - 53) := by
    by_cases h0 : L - 53 = 0
    · exact .inl h0
    · refine .inr ((Nat.le_div_iff_mul_le (pow_pos2 _)).2 ?_)
      rw [show (4503599627370496 : Nat) = 2 ^ 52 by rfl, ← Nat.pow_add, show 52 + (L - 53) = L - 1 by omega]
      exact hN2 (by omega)
  have hdm := (Nat.div_add_mod N (2 ^ (L - 53))).symm
  have hml := Nat.mod_lt N (pow_pos2 (L - 53))
  rw [Nat.mod_eq_of_lt hq]
  by_cases ha : L - 53 < 2046
  · have hhalf : 0 < L - 53 → 2 ^ (L - 53) = 2 * 2 ^ (L - 53 - 1) ∧ N % 2 ^ (L - 53) = 2 ^ (L - 53 - 1) * (N / 2 ^ (L - 53 - 1) % 2) + N % 2 ^ (L - 53 - 1) := fun h0 => by
      have hp : 2 ^ (L - 53) = 2 * 2 ^ (L - 53 - 1) := by rw [← Nat.pow_succ', show (L - 53 - 1).succ = L - 53 by omega]
      refine ⟨hp, ?_⟩
      rw [hp, Nat.mul_comm 2, Nat.mod_mul, Nat.add_comm]
    have hs := Nat.mod_lt N (pow_pos2 (L - 53 - 1))
    have hcl : N / 2 ^ (L - 53 - 1) % 2 < 2 := Nat.mod_lt _ (by decide)
    generalize N % 2 ^ (L - 53 - 1) = s at *
    generalize N / 2 ^ (L - 53 - 1) % 2 = c at *
    generalize N % 2 ^ (L - 53) = r at *
    generalize N / 2 ^ (L - 53) = q at *
    generalize hP : 2 ^ (L - 53) = P at *
    generalize 2 ^ (L - 53 - 1) = H at *
    obtain ⟨g1, g2, g3⟩ := near_low N low (L - 53) q r P hP hdm hml hq hqa ha hl h1 h2
    unfold nearOf
    rw [if_neg (by omega), g2, g3, hdm, ← g1]
    generalize P * q = X at *
    rcases Nat.eq_zero_or_pos (L - 53) with h0 | h0
    · rw [h0, Nat.pow_zero] at hP
      subst hP
      rw [if_neg (by omega), if_neg (by omega)]
      omega
    · obtain ⟨k1, k2⟩ := hhalf h0
      rw [near_choose X P H c s r q (L - 53) k1 k2 hs (by omega) h0 low (by omega)]
      have hu : (if 0 < L - 53 ∧ c = 1 ∧ (q % 2 = 1 ∨ s ≠ 0) then 1 else 0) ≤ 1 := by split <;> omega
      generalize (if 0 < L - 53 ∧ c = 1 ∧ (q % 2 = 1 ∨ s ≠ 0) then 1 else 0) = u at *
      have hll : low + u ≤ 9218868437227405312 := by omega
      exact (Nat.min_eq_left hll).symm
  · obtain ⟨k, hk⟩ : ∃ k : Nat, k = 2046 := ⟨_, rfl⟩
    have hexp : 52 + k ≤ L - 1 := by omega
    have hpos : 0 < L := by omega
    have hge : 4503599627370496 * 2 ^ k ≤ N := by
      rewrite [show (4503599627370496 : Nat) = 2 ^ 52 from rfl, ← Nat.pow_add]
      exact Nat.le_trans (Nat.pow_le_pow_right Nat.two_pos hexp) (hN2 hpos)
    rw [← mag_inf k hk] at hge
    have hlow : low = 9218868437227405312 := by
      rcases Nat.lt_or_ge low 9218868437227405312 with h | h
      · have h3 := h2 h
        have h4 := mag_mono (show low + 1 ≤ 9218868437227405312 from h) (by decide)
        exact absurd (Nat.lt_of_lt_of_le h3 (Nat.le_trans h4 hge)) (Nat.lt_irrefl _)
      · exact Nat.le_antisymm hl h
    unfold nearOf
    rw [if_pos hlow]
    refine (Nat.min_eq_right ?_).symm
    refine Nat.le_trans ?_ (Nat.le_add_right _ _)
    clear hge h1 h2 hN1 hN2 hdm hml
    generalize N / 2 ^ (L - 53) = q at *
    omega
end Go.Proofs.Ytmllbdiljjimmaa
