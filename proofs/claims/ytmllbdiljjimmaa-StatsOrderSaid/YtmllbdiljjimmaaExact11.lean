/- The walks of package exact: the whole of a sum. -/
import Derived.Test.YtmllbdiljjimmaaExact10
import Derived.Test.YtmllbdiljjimmaaExact5
namespace Go.Proofs.Ytmllbdiljjimmaa
open Go.RowKit

theorem IsLen.uniq {N L L' : Nat} (h : IsLen N L) (h' : IsLen N L') : L = L' := by
  have key : ∀ {N L L' : Nat}, IsLen N L → IsLen N L' → L ≤ L' := by
    intro N L L' h h'
    rcases Nat.lt_or_ge L' L with hlt | hge
    · have h1 := h.2 (by omega)
      have h2 : 2 ^ L' ≤ 2 ^ (L - 1) := Nat.pow_le_pow_right (by decide) (by omega)
      have h3 := h'.1
      omega
    · exact hge
  exact Nat.le_antisymm (key h h') (key h' h)
theorem isLen_ex : ∀ N : Nat, ∃ L, IsLen N L := fun N => by
  rcases Nat.eq_zero_or_pos N with rfl | h
  · exact ⟨0, by decide, by decide⟩
  · exact ⟨N.log2 + 1, Nat.lt_log2_self, fun _ => by rw [Nat.add_sub_cancel]; exact Nat.log2_self_le (by omega)⟩
noncomputable def lenN (N : Nat) : Nat := Classical.choose (isLen_ex N)
theorem lenN_is (N : Nat) : IsLen N (lenN N) := Classical.choose_spec (isLen_ex N)
/-- The bits of the float nearest to N units. -/
noncomputable def rnd (N : Nat) : Nat := roundN N (lenN N)
theorem rnd_of {N L : Nat} (h : IsLen N L) : roundN N L = rnd N := by unfold rnd; rw [h.uniq (lenN_is N)]
theorem rnd_le (N : Nat) : rnd N ≤ 9218868437227405312 := by unfold rnd roundN; exact Nat.min_le_right _ _

/-- A float's bits with the other sign. -/
def flipF (b : Nat) : Nat := b ^^^ 9223372036854775808
theorem neg_flip (b : Nat) : Op.negFloat .f64 b = flipF b := rfl
theorem flip_low {b : Nat} (h : b < 9223372036854775808) : flipF b = b + 9223372036854775808 := by
  unfold flipF
  rw [show (9223372036854775808 : Nat) = 2 ^ 63 * 1 by rfl]
  have h1 := Nat.two_pow_add_eq_or_of_lt (i := 63) (b := b) h 1
  rw [Nat.add_comm, h1]
  apply Nat.eq_of_testBit_eq
  intro i
  rw [Nat.testBit_xor, Nat.testBit_or]
  by_cases hi : i < 63
  · have : (2 ^ 63 * 1).testBit i = false := by rw [Nat.mul_one, Nat.testBit_two_pow_of_ne (by omega)]
    rw [this]; simp
  · have h0 : b.testBit i = false := Nat.testBit_lt_two_pow (Nat.lt_of_lt_of_le h (Nat.pow_le_pow_right (n := 2) (by decide) (by omega : 63 ≤ i)))
    rw [h0]; simp

/-- What a sum's whole is. -/
noncomputable def wholeB (ns : List Nat) (nan plus minus : Bool) (count zeroes : Int) : Nat :=
  if nan || (plus && minus) then 9221120237041090560 else if plus then 9218868437227405312 else if minus then 18442240474082181120
  else if topN ns || (decide (count > 0) && zeroes == count) then rnd (absN ns) + 9223372036854775808 else rnd (absN ns)
def FPost (w : World) (v : Nat) (e : Ending) (w' : World) : Prop := e = .returned (.float .f64 v) ∧ Fr (fun _ => False) w w'

set_option maxRecDepth 100000 in
set_option maxHeartbeats 400000 in
theorem inf_plus (w : World) : Calls Try.prog 69 #[.int .i64 1] w fun e w' => e = .returned (.float .f64 9218868437227405312) ∧ w = w' := by
  have h : ∀ w, (callFunc 72 #[.int .u64 9218868437227405312]).run Try.prog w = .ok (.value (.float .f64 9218868437227405312)) w := fun w => by kernel_rfl
  go_enter Try.func69, Try.ntmps69
  go_wp2
  go_ret
  exact ⟨rfl, rfl⟩
set_option maxRecDepth 100000 in
set_option maxHeartbeats 400000 in
theorem inf_minus (w : World) : Calls Try.prog 69 #[.int .i64 (-1)] w fun e w' => e = .returned (.float .f64 18442240474082181120) ∧ w = w' := by
  have h : ∀ w, (callFunc 72 #[.int .u64 18442240474082181120]).run Try.prog w = .ok (.value (.float .f64 18442240474082181120)) w := fun w => by kernel_rfl
  go_enter Try.func69, Try.ntmps69
  go_wp2
  go_ret
  exact ⟨rfl, rfl⟩

set_option maxRecDepth 100000 in
set_option maxHeartbeats 800000 in
theorem whole_nan (b : Nat) (made : Bool) (ns : List Nat) (nan plus minus : Bool) (count zeroes : Int) (w : World) (h : SumB w b made ns nan plus minus count zeroes) (hc : Hid ((nan || (plus && minus)) = true)) :
    Calls Try.prog 25 #[.pointer (some ⟨b, 0, none⟩)] w (FPost w 9221120237041090560) := by
  have c1 := h.cNan
  have c2 := h.cPlus
  have c3 := h.cMinus
  have HOF := Lib.hid (of_any 9221120237041090560 w)
  cases nan with
  | true =>
    go_enter Try.func25, Try.ntmps25
    go_wp2_with fail
    refine (HOF.out).mono ?_
    rintro e w' ⟨rfl, rfl⟩
    go_wp2
    go_ret
    exact ⟨rfl, Fr.refl _ _⟩
  | false =>
    have hp : plus = true ∧ minus = true := by have := hc.out; revert this; cases plus <;> cases minus <;> simp
    obtain ⟨rfl, rfl⟩ := hp
    go_enter Try.func25, Try.ntmps25
    go_wp2_with fail
    refine (HOF.out).mono ?_
    rintro e w' ⟨rfl, rfl⟩
    go_wp2
    go_ret
    exact ⟨rfl, Fr.refl _ _⟩

set_option maxRecDepth 100000 in
set_option maxHeartbeats 800000 in
theorem whole_inf (b : Nat) (made : Bool) (ns : List Nat) (plus minus : Bool) (count zeroes : Int) (w : World) (h : SumB w b made ns false plus minus count zeroes) (hc : Hid ((plus, minus) = (true, false) ∨ (plus, minus) = (false, true))) :
    Calls Try.prog 25 #[.pointer (some ⟨b, 0, none⟩)] w (FPost w (if plus then 9218868437227405312 else 18442240474082181120)) := by
  have c1 := h.cNan
  have c2 := h.cPlus
  have c3 := h.cMinus
  have HP := Lib.hid (inf_plus w)
  have HM := Lib.hid (inf_minus w)
  rcases hc.out with hc | hc
  · cases hc
    go_enter Try.func25, Try.ntmps25
    go_wp2_with fail
    refine (HP.out).mono ?_
    rintro e w' ⟨rfl, rfl⟩
    go_wp2
    go_ret
    exact ⟨rfl, Fr.refl _ _⟩
  · cases hc
    go_enter Try.func25, Try.ntmps25
    go_wp2_with fail
    refine (HM.out).mono ?_
    rintro e w' ⟨rfl, rfl⟩
    go_wp2
    go_ret
    exact ⟨rfl, Fr.refl _ _⟩
end Go.Proofs.Ytmllbdiljjimmaa
