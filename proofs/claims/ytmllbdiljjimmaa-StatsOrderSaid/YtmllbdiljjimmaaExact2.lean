/- The walks of package exact: a float comes to a sum. -/
import Derived.Test.YtmllbdiljjimmaaExact
import Derived.Test.YtmllbdiljjimmaaFloat
import Derived.IntWalk
namespace Go.Proofs.Ytmllbdiljjimmaa
open Go.RowKit

/-- The size of a float that is a number, in units of the least one. -/
def magF (b : Nat) : Nat := if expo b = 0 then frac b else (4503599627370496 + frac b) * 2 ^ (expo b - 1)
def svalF (b : Nat) : Int := if negF b then -(magF b : Int) else magF b

abbrev M35 : Nat := 18446744073709551616 ^ 35

theorem pow_pos2 (k : Nat) : 0 < 2 ^ k := Nat.two_pow_pos k

theorem shift_ex (m e : Nat) (hm : m < 18446744073709551616) : ∃ low high : Nat, low < 18446744073709551616 ∧ high < 18446744073709551616 ∧ IntKind.u64.wrap ((m : Int) * 2 ^ (e % 64)) = (low : Int) ∧ (m : Int) / 2 ^ (64 - e % 64) = (high : Int) ∧
    (low + high * 18446744073709551616) * 18446744073709551616 ^ (e / 64) = m * 2 ^ e := by
  refine ⟨m * 2 ^ (e % 64) % 18446744073709551616, m / 2 ^ (64 - e % 64), Nat.mod_lt _ (by decide), Nat.lt_of_le_of_lt (Nat.div_le_self _ _) hm, ?_, ?_, ?_⟩
  · rw [IntKind.wrap_u64, Int.natCast_emod, Int.natCast_mul, Int.natCast_pow]; rfl
  · rw [Int.natCast_ediv, Int.natCast_pow]; rfl
  · have h1 : m / 2 ^ (64 - e % 64) = m * 2 ^ (e % 64) / 18446744073709551616 := by
      have hp : (18446744073709551616 : Nat) = 2 ^ (64 - e % 64) * 2 ^ (e % 64) := by rw [← Nat.pow_add, show 64 - e % 64 + e % 64 = 64 by omega]
      rw [hp, Nat.mul_div_mul_right _ _ (pow_pos2 _)]
    rw [h1, Nat.mul_comm (m * 2 ^ (e % 64) / 18446744073709551616), Nat.mod_add_div]
    rw [show (18446744073709551616 : Nat) = 2 ^ 64 by rfl, ← Nat.pow_mul, Nat.mul_assoc, ← Nat.pow_add, Nat.mod_add_div]

set_option maxHeartbeats 400000 in
theorem shift_any (m o q : Nat) (m' e : Int) (hm' : m' = (m : Int)) (ho : e % 64 = (o : Int)) (hq : e / 64 = (q : Int)) (he0 : 0 ≤ e) (he : e < 4096) (low high : Nat) (h1 : IntKind.u64.wrap ((m : Int) * 2 ^ o) = (low : Int)) (h2 : (m : Int) / 2 ^ (64 - o) = (high : Int)) (w : World) :
    Calls Try.prog 91 #[.int .u64 m', .int .i64 e] w fun x w' => x = .returned (.tuple #[.int .i64 (q : Int), .int .u64 (low : Int), .int .u64 (high : Int)]) ∧ ∃ n, w' = w.drewN n := by
  subst hm'
  have hw : wrap64 (q : Int) = q := IntWalk.wrap64_in q (by omega)
  have hs : IntKind.i64.wrap (64 - (o : Int)) = 64 - (o : Int) := IntWalk.i64_in _ (by omega)
  have hs2 : (64 - (o : Int)).toNat = 64 - o := by omega
  have hs3 : 0 ≤ 64 - (o : Int) := by omega
  have hs4 : 64 - (o : Int) ≤ 64 := by omega
  go_enter Try.func91, Try.ntmps91
  go_wp2
  go_quiet (fail)
  go_wp2
  go_ret3
  rw [← hq]
  exact ⟨rfl, _, rfl⟩

theorem or_top (F : Nat) (hF : F < 4503599627370496) : bits .or .u64 (F : Int) 4503599627370496 = ((4503599627370496 + F : Nat) : Int) := by
  have h := u64_or_nat F 4503599627370496 (by omega) (by decide)
  have e : F ||| 4503599627370496 = 4503599627370496 + F := by
    rw [Nat.or_comm]
    exact (Nat.two_pow_add_eq_or_of_lt (i := 52) (b := F) hF 1).symm ▸ (by simp)
  rw [e] at h
  exact h

/-- What a float that is a number adds, as a whole number m and a power e. -/
theorem mag_parts (b : Nat) (_hb : b < 18446744073709551616) : ∃ m e : Nat, magF b = m * 2 ^ e ∧ m < 18446744073709551616 ∧ e < 2047 ∧ (expo b = 0 → m = frac b ∧ e = 0) ∧ (expo b ≠ 0 → m = 4503599627370496 + frac b ∧ e = expo b - 1) := by
  have hF : frac b < 4503599627370496 := Nat.mod_lt _ (by decide)
  have hE : expo b < 2048 := Nat.mod_lt _ (by decide)
  unfold magF
  by_cases h : expo b = 0
  · exact ⟨frac b, 0, by simp [h], by omega, by omega, fun _ => ⟨rfl, rfl⟩, fun h' => absurd h h'⟩
  · exact ⟨4503599627370496 + frac b, expo b - 1, by simp [h], by omega, by omega, fun h' => absurd h' h, fun _ => ⟨rfl, rfl⟩⟩

/-- Behind a number that came. -/
def NumPost (w : World) (b : Nat) (made : Bool) (ns : List Nat) (nan plus minus : Bool) (count zeroes : Int) (d : Int) (w' : World) : Prop :=
  ∃ ns', SumB w' b made ns' nan plus minus count zeroes ∧ (toN ns' : Int) = ((toN ns : Int) + d) % (M35 : Int) ∧ Fr (fun k => k = b) w w'

theorem SumB.drewN {w : World} {b : Nat} {made : Bool} {ns : List Nat} {nan plus minus : Bool} {count zeroes : Int} (h : SumB w b made ns nan plus minus count zeroes) (n : Nat) : SumB (w.drewN n) b made ns nan plus minus count zeroes := h

theorem plus_post (b : Nat) (made : Bool) (ns : List Nat) (nan plus minus : Bool) (count zeroes : Int) (q low high : Nat) (w0 w : World) (h : SumB w b made ns nan plus minus count zeroes) (hf : Fr (fun k => k = b) w0 w) (hp : q < 34) (hl : low < 18446744073709551616) (hh : high < 18446744073709551616)
    (d : Nat) (hd : (low + high * 18446744073709551616) * 18446744073709551616 ^ q = d) :
    Calls Try.prog 76 #[.pointer (some ⟨b, 0, none⟩), .int .i64 (q : Int), .int .u64 (low : Int), .int .u64 (high : Int)] w fun e w' => e = .returned (.tuple #[]) ∧ NumPost w0 b made ns nan plus minus count zeroes d w' :=
  (plusAt_any b made ns nan plus minus count zeroes q low high w h hp hl hh).mono fun e w' ⟨he, ns', h1, h2, h3⟩ => ⟨he, ns', h1, by rw [h2, hd, Int.natCast_emod, Int.natCast_add], hf.trans h3 (fun i hi => .inl hi)⟩
theorem minus_post (b : Nat) (made : Bool) (ns : List Nat) (nan plus minus : Bool) (count zeroes : Int) (q low high : Nat) (w0 w : World) (h : SumB w b made ns nan plus minus count zeroes) (hf : Fr (fun k => k = b) w0 w) (hp : q < 34) (hl : low < 18446744073709551616) (hh : high < 18446744073709551616)
    (d : Nat) (hd : (low + high * 18446744073709551616) * 18446744073709551616 ^ q = d) :
    Calls Try.prog 92 #[.pointer (some ⟨b, 0, none⟩), .int .i64 (q : Int), .int .u64 (low : Int), .int .u64 (high : Int)] w fun e w' => e = .returned (.tuple #[]) ∧ NumPost w0 b made ns nan plus minus count zeroes (-(d : Int)) w' :=
  (minusAt_any b made ns nan plus minus count zeroes q low high w h hp hl hh).mono fun e w' ⟨he, ns', h1, h2, h3⟩ => ⟨he, ns', h1, by rw [h2, hd, Int.sub_eq_add_neg], hf.trans h3 (fun i hi => .inl hi)⟩

set_option maxRecDepth 100000 in
set_option maxHeartbeats 800000 in
theorem number_zero (b : Nat) (made : Bool) (ns : List Nat) (nan plus minus : Bool) (count zeroes : Int) (f F q low high d : Nat) (N : Bool) (_hf : f < 18446744073709551616) (w : World) (h : SumB w b made ns nan plus minus count zeroes)
    (e1 : bits .and .u64 ((f : Int) / 4503599627370496) 2047 = 0) (e2 : bits .and .u64 (f : Int) 4503599627370495 = (F : Int)) (_hF : F < 4503599627370496) (HC : Hid (Calls Try.prog 24 #[.float .f64 f] w fun e w' => e = .returned (.int .u64 (f : Int)) ∧ w = w'))
    (HS : ∀ n, Hid (Calls Try.prog 62 #[.float .f64 f] (w.drewN n) fun e w' => e = .returned (.bool N) ∧ w.drewN n = w'))
    (HSh : Hid (∀ w, Calls Try.prog 91 #[.int .u64 (F : Int), .int .i64 0] w fun x w' => x = .returned (.tuple #[.int .i64 (q : Int), .int .u64 (low : Int), .int .u64 (high : Int)]) ∧ ∃ n, w' = w.drewN n))
    (hq : q < 34) (hl : low < 18446744073709551616) (hh : high < 18446744073709551616) (Hval : Hid ((low + high * 18446744073709551616) * 18446744073709551616 ^ q = d)) :
    Calls Try.prog 63 #[.pointer (some ⟨b, 0, none⟩), .float .f64 f] w fun e w' => e = .returned (.tuple #[]) ∧ NumPost w b made ns nan plus minus count zeroes (if N then -(d : Int) else (d : Int)) w' := by
  cases N with
  | false =>
    rw [if_neg (by decide)]
    go_enter Try.func63, Try.ntmps63
    go_wp2_with fail
    refine (HC.out).mono ?_
    rintro x w' ⟨rfl, rfl⟩
    go_wp2_with fail
    refine (HSh.out _).mono ?_
    rintro x w1 ⟨rfl, n1, rfl⟩
    go_wp2_with fail
    refine (HS n1).out.mono ?_
    rintro x w2 ⟨rfl, hw2⟩
    subst hw2
    go_wp2_with fail
    refine (plus_post b made ns nan plus minus count zeroes q low high w _ (h.drewN _) ((Fr.refl (fun k => k = b) w).drewN _) hq hl hh d Hval.out).mono ?_
    rintro x w3 ⟨rfl, hpost⟩
    go_wp2
    go_end0
    exact ⟨rfl, hpost⟩
  | true =>
    rw [if_pos rfl]
    go_enter Try.func63, Try.ntmps63
    go_wp2_with fail
    refine (HC.out).mono ?_
    rintro x w' ⟨rfl, rfl⟩
    go_wp2_with fail
    refine (HSh.out _).mono ?_
    rintro x w1 ⟨rfl, n1, rfl⟩
    go_wp2_with fail
    refine (HS n1).out.mono ?_
    rintro x w2 ⟨rfl, hw2⟩
    subst hw2
    go_wp2_with fail
    refine (minus_post b made ns nan plus minus count zeroes q low high w _ (h.drewN _) ((Fr.refl (fun k => k = b) w).drewN _) hq hl hh d Hval.out).mono ?_
    rintro x w3 ⟨rfl, hpost⟩
    go_wp2
    go_end0
    exact ⟨rfl, hpost⟩

set_option maxRecDepth 100000 in
set_option maxHeartbeats 800000 in
theorem number_more (b : Nat) (made : Bool) (ns : List Nat) (nan plus minus : Bool) (count zeroes : Int) (f F E m q low high d : Nat) (N : Bool) (_hf : f < 18446744073709551616) (w : World) (h : SumB w b made ns nan plus minus count zeroes)
    (e1 : bits .and .u64 ((f : Int) / 4503599627370496) 2047 = (E : Int)) (hE : E < 2048) (hE0 : 0 < E) (e3 : bits .or .u64 (F : Int) 4503599627370496 = (m : Int)) (e2 : bits .and .u64 (f : Int) 4503599627370495 = (F : Int)) (_hF : F < 4503599627370496) (HC : Hid (Calls Try.prog 24 #[.float .f64 f] w fun e w' => e = .returned (.int .u64 (f : Int)) ∧ w = w'))
    (HS : ∀ n, Hid (Calls Try.prog 62 #[.float .f64 f] (w.drewN n) fun e w' => e = .returned (.bool N) ∧ w.drewN n = w'))
    (HSh : Hid (∀ w, Calls Try.prog 91 #[.int .u64 (m : Int), .int .i64 ((E : Int) - 1)] w fun x w' => x = .returned (.tuple #[.int .i64 (q : Int), .int .u64 (low : Int), .int .u64 (high : Int)]) ∧ ∃ n, w' = w.drewN n))
    (hq : q < 34) (hl : low < 18446744073709551616) (hh : high < 18446744073709551616) (Hval : Hid ((low + high * 18446744073709551616) * 18446744073709551616 ^ q = d)) :
    Calls Try.prog 63 #[.pointer (some ⟨b, 0, none⟩), .float .f64 f] w fun e w' => e = .returned (.tuple #[]) ∧ NumPost w b made ns nan plus minus count zeroes (if N then -(d : Int) else (d : Int)) w' := by
  cases N with
  | false =>
    rw [if_neg (by decide)]
    go_enter Try.func63, Try.ntmps63
    go_wp2_with fail
    refine (HC.out).mono ?_
    rintro x w' ⟨rfl, rfl⟩
    go_wp2_with fail
    refine (HSh.out _).mono ?_
    rintro x w1 ⟨rfl, n1, rfl⟩
    go_wp2_with fail
    refine (HS n1).out.mono ?_
    rintro x w2 ⟨rfl, hw2⟩
    subst hw2
    go_wp2_with fail
    refine (plus_post b made ns nan plus minus count zeroes q low high w _ (h.drewN _) ((Fr.refl (fun k => k = b) w).drewN _) hq hl hh d Hval.out).mono ?_
    rintro x w3 ⟨rfl, hpost⟩
    go_wp2
    go_end0
    exact ⟨rfl, hpost⟩
  | true =>
    rw [if_pos rfl]
    go_enter Try.func63, Try.ntmps63
    go_wp2_with fail
    refine (HC.out).mono ?_
    rintro x w' ⟨rfl, rfl⟩
    go_wp2_with fail
    refine (HSh.out _).mono ?_
    rintro x w1 ⟨rfl, n1, rfl⟩
    go_wp2_with fail
    refine (HS n1).out.mono ?_
    rintro x w2 ⟨rfl, hw2⟩
    subst hw2
    go_wp2_with fail
    refine (minus_post b made ns nan plus minus count zeroes q low high w _ (h.drewN _) ((Fr.refl (fun k => k = b) w).drewN _) hq hl hh d Hval.out).mono ?_
    rintro x w3 ⟨rfl, hpost⟩
    go_wp2
    go_end0
    exact ⟨rfl, hpost⟩

theorem number_any (b : Nat) (made : Bool) (ns : List Nat) (nan plus minus : Bool) (count zeroes : Int) (f : Nat) (hf : f < 18446744073709551616) (w : World) (h : SumB w b made ns nan plus minus count zeroes) :
    Calls Try.prog 63 #[.pointer (some ⟨b, 0, none⟩), .float .f64 f] w fun e w' => e = .returned (.tuple #[]) ∧ NumPost w b made ns nan plus minus count zeroes (svalF f) w' := by
  obtain ⟨m, e, hm, hml, hel, h0, h1⟩ := mag_parts f hf
  obtain ⟨low, high, hl, hh, hlo, hhi, hval⟩ := shift_ex m e hml
  rw [← hm] at hval
  have hF : frac f < 4503599627370496 := Nat.mod_lt _ (by decide)
  have hE : expo f < 2048 := Nat.mod_lt _ (by decide)
  have e1 := expo_raw f hf
  have e2 := frac_raw f hf
  have e3 := or_top (frac f) hF
  have hsv : svalF f = if negF f then -(magF f : Int) else (magF f : Int) := rfl
  rw [hsv]
  by_cases hE0 : expo f = 0
  · obtain ⟨rfl, rfl⟩ := h0 hE0
    rw [hE0] at e1
    exact number_zero b made ns nan plus minus count zeroes f (frac f) 0 low high (magF f) (negF f) hf w h e1 e2 hF (bits_any f w) (fun n => sign_any f hf (w.drewN n))
      (fun w => shift_any (frac f) 0 0 (frac f : Int) 0 rfl (by decide) (by decide) (by omega) (by omega) low high hlo hhi w) (by omega) hl hh hval
  · obtain ⟨rfl, he⟩ := h1 hE0
    exact number_more b made ns nan plus minus count zeroes f (frac f) (expo f) (4503599627370496 + frac f) (e / 64) low high (magF f) (negF f) hf w h e1 hE (by omega) e3 e2 hF (bits_any f w) (fun n => sign_any f hf (w.drewN n))
      (fun w => shift_any (4503599627370496 + frac f) (e % 64) (e / 64) ((4503599627370496 + frac f : Nat) : Int) ((expo f : Int) - 1) rfl (by omega) (by omega) (by omega) (by omega) low high hlo hhi w) (by omega) hl hh hval
end Go.Proofs.Ytmllbdiljjimmaa
