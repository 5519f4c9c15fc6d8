/- The walks of the references: kinds; what lies in a row of floats. -/
import Derived.Test.YtmllbdiljjimmaaWide6
import Derived.Test.YtmllbdiljjimmaaRegion3
namespace Go.Proofs.Ytmllbdiljjimmaa
open Go.RowKit

theorem kind_ref (b : Nat) (_hb : b < 18446744073709551616) : kindF b = if 9218868437227405312 < b % 9223372036854775808 then 4 else if b % 9223372036854775808 = 9218868437227405312 then 3 else if 4503599627370496 ≤ b % 9223372036854775808 then 2 else if 0 < b % 9223372036854775808 then 1 else 0 := by
  unfold kindF expo frac
  have e1 : b / 4503599627370496 % 2048 = b % 9223372036854775808 / 4503599627370496 := by omega
  have e2 : b % 4503599627370496 = b % 9223372036854775808 % 4503599627370496 := by omega
  rw [e1, e2]
  have hx : b % 9223372036854775808 < 9223372036854775808 := Nat.mod_lt _ (by decide)
  generalize b % 9223372036854775808 = x at *
  (repeat' split) <;> omega

set_option maxRecDepth 100000 in
set_option maxHeartbeats 800000 in
theorem kind2_any (b : Nat) (hb : b < 18446744073709551616) (w : World) :
    Calls Try.prog 89 #[.int .u64 (b : Int)] w fun e w' => e = .returned (.int .i64 (kindF b : Int)) ∧ w = w' := by
  have hk := kind_ref b hb
  have hx : (b : Int) % 9223372036854775808 = ((b % 9223372036854775808 : Nat) : Int) := by omega
  have hxl : b % 9223372036854775808 < 9223372036854775808 := Nat.mod_lt _ (by decide)
  generalize b % 9223372036854775808 = x at *
  by_cases h4 : 9218868437227405312 < x
  · rw [hk, if_pos h4]
    clear hk
    go_enter Try.func89, Try.ntmps89
    go_wp2
    go_ret
    exact ⟨rfl, rfl⟩
  · by_cases h3 : x = 9218868437227405312
    · rw [hk, if_neg h4, if_pos h3]
      subst h3
      clear hk
      go_enter Try.func89, Try.ntmps89
      go_wp2
      go_ret
      exact ⟨rfl, rfl⟩
    · have g3 : ((x : Int) == 9218868437227405312) = false := by rw [beq_eq_false_iff_ne]; omega
      have i4 : (x : Int) ≤ 9218868437227405312 := by omega
      by_cases h2 : 4503599627370496 ≤ x
      · rw [hk, if_neg h4, if_neg h3, if_pos h2]
        have i2 : (4503599627370496 : Int) ≤ x := by omega
        clear hk h3 h2 h4
        go_enter Try.func89, Try.ntmps89
        go_wp2
        go_ret
        exact ⟨rfl, rfl⟩
      · have i2 : (x : Int) < 4503599627370496 := by omega
        by_cases h1 : 0 < x
        · rw [hk, if_neg h4, if_neg h3, if_neg h2, if_pos h1]
          have d2 : decide ((4503599627370496 : Int) ≤ x) = false := by simpa using i2
          have d1 : decide (0 < x) = true := by simpa using h1
          clear hk h3 h2 h4 i2 h1
          go_enter Try.func89, Try.ntmps89
          go_wp2
          go_ret
          exact ⟨rfl, rfl⟩
        · rw [hk, if_neg h4, if_neg h3, if_neg h2, if_neg h1]
          obtain rfl : x = 0 := by omega
          clear hk h3
          go_enter Try.func89, Try.ntmps89
          go_wp2
          go_ret
          exact ⟨rfl, rfl⟩

/-- What lies in a row of floats, told plainly. -/
structure Pt where
  a : Nat
  b : Nat
  nan : Bool
  up : Bool
  down : Bool
  all : Bool
def Pt.add (p : Pt) (f : Nat) : Pt :=
  ⟨p.a + (if kindF f < 3 ∧ f < 9223372036854775808 then magF f else 0), p.b + (if kindF f < 3 ∧ 9223372036854775808 ≤ f then magF (f - 9223372036854775808) else 0),
    p.nan || kindF f == 4, p.up || f == 9218868437227405312, p.down || f == 18442240474082181120, p.all && f == 9223372036854775808⟩
def Pt.of (l : List Nat) : Pt := l.foldl Pt.add ⟨0, 0, false, false, false, decide (0 < l.length)⟩
def Pt.upto (l : List Nat) (k : Nat) : Pt := (l.take k).foldl Pt.add ⟨0, 0, false, false, false, decide (0 < l.length)⟩
theorem Pt.upto_succ {l : List Nat} {k f : Nat} (h : l[k]? = some f) : Pt.upto l (k + 1) = (Pt.upto l k).add f := by
  unfold Pt.upto
  rw [List.take_add_one, h, Option.toList_some, List.foldl_append]; rfl
theorem Pt.upto_all {l : List Nat} : Pt.upto l l.length = Pt.of l := by unfold Pt.upto Pt.of; rw [List.take_length]
theorem Pt.upto_le (l : List Nat) : ∀ k, (Pt.upto l k).a ≤ k * magTop ∧ (Pt.upto l k).b ≤ k * magTop := by
  intro k
  induction k with
  | zero => unfold Pt.upto; simp
  | succ k ih =>
    cases h : l[k]? with
    | none =>
      have : Pt.upto l (k + 1) = Pt.upto l k := by unfold Pt.upto; rw [List.take_add_one, h]; simp
      rw [this, Nat.succ_mul]; omega
    | some f =>
      rw [Pt.upto_succ h, Nat.succ_mul]
      have h1 := mag_lt f
      have h2 := mag_lt (f - 9223372036854775808)
      unfold Pt.add
      dsimp only
      generalize k * magTop = X at *
      generalize magTop = T at *
      constructor
      · split <;> omega
      · split <;> omega
theorem tops2 : 4611686018427387904 * magTop < wTop := by
  obtain ⟨k, hk⟩ : ∃ k : Nat, k = 2046 := ⟨_, rfl⟩
  obtain ⟨m, hm⟩ : ∃ k : Nat, k = 140 := ⟨_, rfl⟩
  rw [magTop_eq k hk, wTop_eq m hm]
  have e1 : 4611686018427387904 * (9007199254740992 * 2 ^ k) = 2 ^ (62 + (53 + k)) := by rw [Nat.pow_add, Nat.pow_add]
  have e2 : 65536 ^ m = 2 ^ (16 * m) := by rw [Nat.pow_mul]
  rw [e1, e2]
  exact Nat.pow_lt_pow_right (by decide) (by omega)
theorem upto_lt (l : List Nat) (k : Nat) (hk : k ≤ 4611686018427387904) : (Pt.upto l k).a < wTop ∧ (Pt.upto l k).b < wTop := by
  have h := Pt.upto_le l k
  have h1 : k * magTop ≤ 4611686018427387904 * magTop := Nat.mul_le_mul_right _ hk
  have h2 := tops2
  omega
end Go.Proofs.Ytmllbdiljjimmaa
