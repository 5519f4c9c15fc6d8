/- Plain lemmas on numbers written in words of 64 bits. -/
import Derived.Laws.BitsLemmas
namespace Go.Proofs.Ytmllbdiljjimmaa

/-- The number of words of 64 bits, the least first. -/
def toN : List Nat → Nat
  | [] => 0
  | x :: xs => x + 18446744073709551616 * toN xs

theorem toN_set : ∀ (ns : List Nat) (i x y : Nat), ns[i]? = some x → toN (ns.set i y) + x * 18446744073709551616 ^ i = toN ns + y * 18446744073709551616 ^ i
  | [], i, x, y, h => by simp at h
  | a :: ns, 0, x, y, h => by simp at h; subst h; simp [toN]; omega
  | a :: ns, i + 1, x, y, h => by
    have ih := toN_set ns i x y (by simpa using h)
    simp only [List.set_cons_succ, toN, Nat.pow_succ]
    have e1 : x * (18446744073709551616 ^ i * 18446744073709551616) = 18446744073709551616 * (x * 18446744073709551616 ^ i) := by
      rw [← Nat.mul_assoc, Nat.mul_comm]
    have e2 : y * (18446744073709551616 ^ i * 18446744073709551616) = 18446744073709551616 * (y * 18446744073709551616 ^ i) := by
      rw [← Nat.mul_assoc, Nat.mul_comm]
    rw [e1, e2]
    generalize x * 18446744073709551616 ^ i = X at *
    generalize y * 18446744073709551616 ^ i = Y at *
    omega

def Limbs (ns : List Nat) : Prop := ∀ x ∈ ns, x < 18446744073709551616

theorem Limbs.set {ns : List Nat} (h : Limbs ns) (i : Nat) {y : Nat} (hy : y < 18446744073709551616) : Limbs (ns.set i y) := by
  intro x hx
  rcases List.mem_or_eq_of_mem_set hx with h1 | h1
  · exact h x h1
  · subst h1; exact hy
theorem Limbs.get {ns : List Nat} (h : Limbs ns) {i x : Nat} (hx : ns[i]? = some x) : x < 18446744073709551616 := h x (List.mem_of_getElem? hx)

theorem toN_lt : ∀ {ns : List Nat}, Limbs ns → toN ns < 18446744073709551616 ^ ns.length
  | [], _ => by simp [toN]
  | x :: xs, h => by
    have h1 := toN_lt (ns := xs) (fun y hy => h y (List.mem_cons_of_mem _ hy))
    have h2 := h x (List.mem_cons_self)
    rw [toN, List.length_cons, Nat.pow_succ]
    generalize 18446744073709551616 ^ xs.length = P at *
    have : 18446744073709551616 * toN xs + 18446744073709551616 ≤ P * 18446744073709551616 := by
      rw [Nat.mul_comm P, ← Nat.mul_succ]
      exact Nat.mul_le_mul_left _ h1
    omega

theorem limb_step {ns : List Nat} {i x a s c : Nat} (h : ns[i]? = some x) (he : s + c * 18446744073709551616 = x + a) :
    toN (ns.set i s) + c * 18446744073709551616 ^ (i + 1) = toN ns + a * 18446744073709551616 ^ i := by
  have h1 := toN_set ns i x s h
  rw [Nat.pow_succ, Nat.mul_comm (18446744073709551616 ^ i), ← Nat.mul_assoc]
  have h2 : (s + c * 18446744073709551616) * 18446744073709551616 ^ i = (x + a) * 18446744073709551616 ^ i := by rw [he]
  rw [Nat.add_mul, Nat.add_mul] at h2
  omega

theorem mod_of_carry {t T c : Nat} (ht : t < 18446744073709551616 ^ 35) (h : t + c * 18446744073709551616 ^ 35 = T) : t = T % 18446744073709551616 ^ 35 := by
  rw [← h, Nat.add_mul_mod_self_right, Nat.mod_eq_of_lt ht]

theorem limb_step_sub {ns : List Nat} {i x a s c : Nat} (h : ns[i]? = some x) (he : s + a = x + c * 18446744073709551616) :
    toN (ns.set i s) + a * 18446744073709551616 ^ i = toN ns + c * 18446744073709551616 ^ (i + 1) := by
  have h1 := toN_set ns i x s h
  rw [Nat.pow_succ, Nat.mul_comm (18446744073709551616 ^ i), ← Nat.mul_assoc]
  have h2 : (s + a) * 18446744073709551616 ^ i = (x + c * 18446744073709551616) * 18446744073709551616 ^ i := by rw [he]
  rw [Nat.add_mul, Nat.add_mul] at h2
  omega

theorem mod_of_borrow {t : Nat} {T : Int} {c : Nat} (ht : t < 18446744073709551616 ^ 35) (h : (t : Int) - c * ((18446744073709551616 ^ 35 : Nat) : Int) = T) : (t : Int) = T % ((18446744073709551616 ^ 35 : Nat) : Int) := by
  rw [← h, Int.sub_mul_emod_self_right, Int.emod_eq_of_lt (by omega) (by omega)]
end Go.Proofs.Ytmllbdiljjimmaa
