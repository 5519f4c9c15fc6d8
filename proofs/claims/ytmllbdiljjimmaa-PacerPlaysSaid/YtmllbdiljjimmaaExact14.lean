/- The whole of what came to a sum, told plainly. -/
import Derived.Test.YtmllbdiljjimmaaExact13
namespace Go.Proofs.Ytmllbdiljjimmaa
open Go.RowKit

/-- More than any float that is a number has. -/
def magTop : Nat := 9007199254740992 * 2 ^ 2046
/-- Half of what the words of a sum can tell. -/
def halfTop : Nat := 18446744073709551616 ^ 34 * 9223372036854775808
theorem magTop_eq (k : Nat) (hk : k = 2046) : magTop = 9007199254740992 * 2 ^ k := by subst hk; rfl
theorem halfTop_eq (k : Nat) (hk : k = 34) : halfTop = 18446744073709551616 ^ k * 9223372036854775808 := by subst hk; rfl
theorem tops : 4611686018427387904 * magTop ≤ halfTop := by
  obtain ⟨k, hk⟩ : ∃ k : Nat, k = 2046 := ⟨_, rfl⟩
  obtain ⟨m, hm⟩ : ∃ k : Nat, k = 34 := ⟨_, rfl⟩
  rw [magTop_eq k hk, halfTop_eq m hm]
  have e1 : 4611686018427387904 * (9007199254740992 * 2 ^ k) = 2 ^ (62 + (53 + k)) := by rw [Nat.pow_add, Nat.pow_add]
  have e2 : 18446744073709551616 ^ m * 9223372036854775808 = 2 ^ (64 * m + 63) := by rw [Nat.pow_add, Nat.pow_mul]
  rw [e1, e2]
  exact Nat.pow_le_pow_right Nat.two_pos (by omega)
theorem half_two : M35 = halfTop + halfTop := by
  obtain ⟨m, hm⟩ : ∃ k : Nat, k = 34 := ⟨_, rfl⟩
  rw [halfTop_eq m hm]
  unfold M35
  rw [show (35 : Nat) = m + 1 by omega, Nat.pow_succ, ← Nat.mul_add]

theorem mag_lt (f : Nat) : magF f < magTop := by
  obtain ⟨k, hk⟩ : ∃ k : Nat, k = 2046 := ⟨_, rfl⟩
  rw [magTop_eq k hk]
  have hF : frac f < 4503599627370496 := Nat.mod_lt _ (by decide)
  have hE : expo f < 2048 := Nat.mod_lt _ (by decide)
  unfold magF
  generalize frac f = F at *
  generalize expo f = E at *
  have hp := pow_pos2 k
  split
  · have := Nat.le_mul_of_pos_right 9007199254740992 hp
    omega
  · have h1 : 2 ^ (E - 1) ≤ 2 ^ k := Nat.pow_le_pow_right Nat.two_pos (by omega)
    have h2 : (4503599627370496 + F) * 2 ^ (E - 1) ≤ (4503599627370496 + F) * 2 ^ k := Nat.mul_le_mul_left _ h1
    have h3 : (4503599627370496 + F + 1) * 2 ^ k ≤ 9007199254740992 * 2 ^ k := Nat.mul_le_mul_right _ (by omega)
    rw [Nat.add_mul, Nat.one_mul] at h3
    omega

theorem contrib_le (f : Nat) : (contrib f).natAbs ≤ magTop := by
  have h := mag_lt f
  unfold contrib svalF
  generalize magTop = T at *
  (repeat' split) <;> omega

/-- A sum that fits its words. -/
def Got.ok (g : Got) : Prop := g.total.natAbs ≤ g.count * magTop ∧ g.zeroes ≤ g.count
theorem Got.ok_none : Got.none.ok := ⟨by simp [Got.none], Nat.le_refl _⟩
theorem Got.ok.add {g : Got} (h : g.ok) (f : Nat) : (g.add f).ok := by
  have h1 := contrib_le f
  obtain ⟨h2, h3⟩ := h
  unfold Got.add Got.ok
  dsimp only
  refine ⟨?_, by split <;> omega⟩
  rw [Nat.succ_mul]
  generalize g.count * magTop = X at *
  generalize magTop = T at *
  omega
theorem Got.ok.merge {g h : Got} (hg : g.ok) (hh : h.ok) : (g.merge h).ok := by
  obtain ⟨h1, h2⟩ := hg
  obtain ⟨h3, h4⟩ := hh
  unfold Got.merge Got.ok
  dsimp only
  refine ⟨?_, by omega⟩
  rw [Nat.add_mul]
  generalize g.count * magTop = X at *
  generalize h.count * magTop = Y at *
  omega
theorem Got.ok_of (l : List Nat) : (Got.of l).ok := by
  unfold Got.of
  have : ∀ (l : List Nat) (g : Got), g.ok → (l.foldl Got.add g).ok := by
    intro l
    induction l with
    | nil => intro g hg; exact hg
    | cons f l ih => intro g hg; exact ih _ (hg.add f)
  exact this l _ Got.ok_none
theorem Got.ok.small {g : Got} (h : g.ok) (hc : g.count < 4611686018427387904) : g.total.natAbs < halfTop ∨ (g.total = 0 ∧ 0 < halfTop) := by
  have h1 := tops
  have h2 := h.1
  have h3 : g.count * magTop ≤ 4611686018427387904 * magTop := Nat.mul_le_mul_right _ (Nat.le_of_lt hc)
  rcases Nat.eq_zero_or_pos magTop with h0 | h0
  · right
    rw [h0, Nat.mul_zero] at h2
    refine ⟨by omega, ?_⟩
    have := mag_lt 0
    omega
  · left
    have h4 : g.count * magTop < 4611686018427387904 * magTop := Nat.mul_lt_mul_of_pos_right hc h0
    omega

theorem top_iff {ns : List Nat} (hn : ns.length = 35) (hL : Limbs ns) : topN ns = decide (halfTop ≤ toN ns) := by
  obtain ⟨m, hm⟩ : ∃ k : Nat, k = 34 := ⟨_, rfl⟩
  rw [halfTop_eq m hm]
  obtain ⟨x, hx⟩ : ∃ x, ns[34]? = some x := ⟨ns[34]'(by omega), by simp⟩
  obtain ⟨r, z, h1, h2, h3, h4⟩ := toN_at hL hx
  have hz : z = 0 := by rw [h4, List.drop_eq_nil_of_le (by omega)]; rfl
  subst hz
  rw [← hm] at h1 h2
  unfold topN
  rw [List.getD_eq_getElem?_getD, hx, h1, Nat.mul_zero, Nat.add_zero, Option.getD_some]
  generalize 18446744073709551616 ^ m = P at *
  rw [decide_eq_decide]
  constructor
  · intro h
    have : P * 9223372036854775808 ≤ P * x := Nat.mul_le_mul_left _ h
    omega
  · intro h
    rcases Nat.lt_or_ge x 9223372036854775808 with hlt | hge
    · have : P * (x + 1) ≤ P * 9223372036854775808 := Nat.mul_le_mul_left _ hlt
      rw [Nat.mul_add, Nat.mul_one] at this
      omega
    · exact hge

theorem top_abs {ns : List Nat} (hn : ns.length = 35) (hL : Limbs ns) {t : Int} (ht : (toN ns : Int) = t % (M35 : Int)) (hb : t.natAbs < halfTop) : topN ns = decide (t < 0) ∧ absN ns = t.natAbs := by
  have h1 := top_iff hn hL
  have h2 := half_two
  unfold absN
  rw [show (18446744073709551616 : Nat) ^ 35 = M35 from rfl, h1]
  generalize halfTop = H at *
  generalize M35 = M at *
  generalize toN ns = N at *
  rcases Int.lt_or_le t 0 with h | h
  · have e : t % (M : Int) = t + M := by
      rw [← Int.add_mul_emod_self_left t M 1, Int.mul_one, Int.emod_eq_of_lt (by omega) (by omega)]
    rw [e] at ht
    have : H ≤ N := by omega
    simp only [this, decide_true, if_true, h]
    exact ⟨trivial, by omega⟩
  · rw [Int.emod_eq_of_lt h (by omega)] at ht
    have h3 : ¬ H ≤ N := by omega
    have h4 : ¬ t < 0 := by omega
    simp only [h3, h4, decide_false, Bool.false_eq_true, if_false]
    exact ⟨trivial, by omega⟩

theorem whole_got (b : Nat) (g : Got) (w : World) (h : SumG w b g) (hok : g.ok) (hc : g.count < 4611686018427387904) :
    Calls Try.prog 25 #[.pointer (some ⟨b, 0, none⟩)] w (FPost w g.whole) := by
  obtain ⟨ns, hs, ht⟩ := h
  have hb : g.total.natAbs < halfTop := by rcases hok.small hc with h | ⟨h1, h2⟩; exact h; rw [h1]; exact h2
  obtain ⟨e1, e2⟩ := top_abs hs.2.1 hs.2.2 ht hb
  have hw := whole_any b true ns g.nan g.plus g.minus g.count g.zeroes w hs
  have : wholeB ns g.nan g.plus g.minus g.count g.zeroes = g.whole := by
    unfold wholeB Got.whole
    rw [e1, e2]
    have e3 : (decide (g.total < 0) || (decide ((g.count : Int) > 0) && ((g.zeroes : Int) == (g.count : Int)))) = decide (g.total < 0 ∨ (0 < g.count ∧ g.zeroes = g.count)) := by
      rw [Bool.eq_iff_iff]
      simp only [Bool.or_eq_true, decide_eq_true_eq, Bool.and_eq_true, beq_iff_eq]
      omega
    rw [e3]
    simp only [decide_eq_true_eq]
  rw [this] at hw
  exact hw
theorem SumG.drewN {w : World} {b : Nat} {g : Got} (h : SumG w b g) (n : Nat) : SumG (w.drewN n) b g := h
end Go.Proofs.Ytmllbdiljjimmaa
