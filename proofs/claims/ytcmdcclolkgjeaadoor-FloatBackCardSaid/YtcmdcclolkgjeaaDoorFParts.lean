/- The walks of the parts of a float and of its text. -/
import Derived.Test.YtcmdcclolkgjeaaDoorFText
namespace Go.Proofs.YtcmdcclolkgjeaaDoor
open Go.RowKit Go.Sort

/-- How many noughts a number ends with, to the base 2. -/
def tzN (x : Nat) : Nat := if _h : x = 0 ∨ x % 2 = 1 then 0 else tzN (x / 2) + 1
termination_by x
decreasing_by omega
theorem tzN_odd {x : Nat} (h : x % 2 = 1) : tzN x = 0 := by rw [tzN, dif_pos (.inr h)]
theorem tzN_even {x : Nat} (h0 : x ≠ 0) (h : x % 2 = 0) : tzN x = tzN (x / 2) + 1 := by rw [tzN, dif_neg (by omega)]
theorem tzN_ex (x : Nat) (h0 : x ≠ 0) : ∃ m, x = 2 ^ tzN x * (2 * m + 1) := by
  induction x using Nat.strongRecOn with
  | _ x ih =>
    by_cases h : x % 2 = 1
    · rw [tzN_odd h]; exact ⟨x / 2, by omega⟩
    · obtain ⟨m, hm⟩ := ih (x / 2) (by omega) (by omega)
      rw [tzN_even h0 (by omega)]
      refine ⟨m, ?_⟩
      rw [Nat.pow_succ, Nat.mul_assoc, Nat.mul_comm 2, ← Nat.mul_assoc, ← hm]
      omega
theorem tzN_lt {x : Nat} (h0 : x ≠ 0) (hx : x < 9007199254740992) : tzN x < 53 := by
  obtain ⟨m, hm⟩ := tzN_ex x h0
  rcases Nat.lt_or_ge (tzN x) 53 with h1 | h1
  · exact h1
  · have h2 : 2 ^ 53 ≤ 2 ^ tzN x := Nat.pow_le_pow_right (by decide) h1
    have h3 : 2 ^ tzN x * 1 ≤ 2 ^ tzN x * (2 * m + 1) := Nat.mul_le_mul_left _ (by omega)
    rw [← hm] at h3
    omega

/-- A number's whole part, to the least place. -/
def mantF (b : Nat) : Nat := if expo b = 0 then frac b else 4503599627370496 + frac b
def oddF (b : Nat) : Nat := mantF b / 2 ^ tzN (mantF b)
def expF (b : Nat) : Int := if mantF b = 0 then 0 else (if expo b = 0 then 1 else expo b : Nat) - 1075 + (tzN (mantF b) : Int)
theorem mant_lt (b : Nat) : mantF b < 9007199254740992 := by
  have : frac b < 4503599627370496 := Nat.mod_lt _ (by decide)
  unfold mantF; split <;> omega
theorem odd_lt (b : Nat) : oddF b < 9007199254740992 := Nat.lt_of_le_of_lt (Nat.div_le_self _ _) (mant_lt b)
theorem exp_le (b : Nat) : -1074 ≤ expF b ∧ expF b ≤ 1024 := by
  have h1 := mant_lt b
  have h2 : expo b < 2048 := Nat.mod_lt _ (by decide)
  unfold expF
  split
  · omega
  · rename_i h0
    have := tzN_lt h0 h1
    split <;> omega
theorem or_top (f : Nat) (hf : f < 4503599627370496) : bits .or .u64 (f : Int) 4503599627370496 = ((4503599627370496 + f : Nat) : Int) := by
  have h := u64_or_nat f 4503599627370496 (by omega) (by decide)
  have e : f ||| 4503599627370496 = 4503599627370496 + f := by
    have := Nat.two_pow_add_eq_or_of_lt (i := 52) (b := f) hf 1
    rw [Nat.or_comm]
    rw [show (2 : Nat) ^ 52 * 1 = 4503599627370496 by rfl] at this
    exact this.symm
  rw [e] at h
  exact h

def PartsIs (w : World) (m : Nat) (x : Int) (e : Ending) (w' : World) : Prop := e = .returned (.tuple #[.int .u64 (m : Int), .int .i64 x]) ∧ w = w'
set_option maxRecDepth 100000 in
set_option maxHeartbeats 1600000 in
theorem parts_any (b : Nat) (hb : b < 18446744073709551616) (w : World) (hT : TabD w) : Calls Tryd.prog 47 #[.float .f64 b] w (PartsIs w (oddF b) (expF b)) := by
  have HB := Lib.hid (bits_any b w)
  have e1 := expo_raw b hb
  have e2 := frac_raw b hb
  have hF : frac b < 4503599627370496 := Nat.mod_lt _ (by decide)
  have hE : expo b < 2048 := Nat.mod_lt _ (by decide)
  have e3 := or_top _ hF
  have hml := mant_lt b
  have hm : mantF b = if expo b = 0 then frac b else 4503599627370496 + frac b := rfl
  have ho : oddF b = mantF b / 2 ^ tzN (mantF b) := rfl
  have hx : expF b = if mantF b = 0 then 0 else (if expo b = 0 then 1 else expo b : Nat) - 1075 + (tzN (mantF b) : Int) := rfl
  generalize oddF b = O at *
  generalize expF b = X at *
  generalize mantF b = M at *
  generalize expo b = E at *
  generalize frac b = F at *
  by_cases h0 : M = 0
  · rw [h0, Nat.zero_div] at ho
    rw [if_pos h0] at hx
    have hE0 : E = 0 := by
      by_cases h : E = 0
      · exact h
      · rw [if_neg h] at hm; omega
    rw [if_pos hE0] at hm
    have hF0 : F = 0 := by omega
    subst ho hx
    subst hE0 hF0
    clear hm hml h0 e3
    go_enter Tryd.func47, Tryd.ntmps47
    go_wp2_with fail
    refine (HB.out).mono ?_
    rintro e w' ⟨rfl, rfl⟩
    go_wp2
    go_ret2
    exact ⟨rfl, rfl⟩
  · obtain ⟨m, hmm⟩ := tzN_ex M h0
    have HZ := Lib.hid (tz_odd M (tzN M) m (by omega) hmm w hT)
    have hz := tzN_lt h0 hml
    rw [if_neg h0] at hx
    generalize tzN M = k at *
    have hp : 0 < 2 ^ k := Nat.two_pow_pos k
    have ho2 : (M : Int) / 2 ^ k = (O : Int) := by rw [ho]; simp
    have HO := Lib.hid ho
    have q0 : ((M : Int) == 0) = false := by rw [beq_eq_false_iff_ne]; omega
    have hki : (k : Int) < 53 := by omega
    by_cases hE0 : E = 0
    · subst hE0
      rw [if_pos rfl] at hm hx
      obtain rfl : M = F := hm
      have hx2 : X = 1 - 1075 + (k : Int) := hx
      subst hx2
      clear hmm ho h0 hp hml e3 hF hx
      go_enter Tryd.func47, Tryd.ntmps47
      go_wp2_with fail
      refine (HB.out).mono ?_
      rintro e w' ⟨rfl, rfl⟩
      go_wp2_with fail
      refine (HZ.out).mono ?_
      rintro e w' ⟨rfl, rfl⟩
      go_wp2
      go_ret2
      exact ⟨by first | rfl | go_num, rfl⟩
    · rw [if_neg hE0] at hm hx
      have d1 : decide (0 < E) = true := by rw [decide_eq_true_eq]; omega
      rw [← hm] at e3
      have hx2 : X = (E : Int) - 1075 + (k : Int) := hx
      subst hx2
      clear hmm ho hm h0 hp hml hF hx
      go_enter Tryd.func47, Tryd.ntmps47
      go_wp2_with fail
      refine (HB.out).mono ?_
      rintro e w' ⟨rfl, rfl⟩
      go_wp2_with fail
      refine (HZ.out).mono ?_
      rintro e w' ⟨rfl, rfl⟩
      go_wp2
      go_ret2
      exact ⟨rfl, rfl⟩

/-- The bytes of a float's text. -/
def bytesOf (l : List UInt8) : ByteArray := ⟨l.toArray⟩
def coreF (b : Nat) : List UInt8 := Lib.decDigits (oddF b) ++ 112 :: Lib.itoa (expF b)
def textF (b : Nat) : List UInt8 := if kindF b = 4 then [110, 97, 110] else if kindF b = 3 then (if negF b then [45, 105, 110, 102] else [105, 110, 102]) else if negF b then 45 :: coreF b else coreF b
theorem bytes_app (l m : List UInt8) : bytesOf l ++ bytesOf m = bytesOf (l ++ m) := by
  apply ByteArray.ext
  simp [bytesOf]

theorem bytes_size (l : List UInt8) : (bytesOf l).size = l.length := by simp [bytesOf, ByteArray.size]
theorem digits_le {u : Nat} (h : u < 18446744073709551616) : (Lib.decDigits u).length ≤ 20 := by
  rw [Lib.decDigits_length]
  by_cases h0 : u = 0
  · subst h0; rw [Lib.nDigits, dif_pos (by decide)]; decide
  · have := Lib.numDigits_eq u (by omega) h
    split at this <;> omega
theorem itoa_le {x : Int} (h : x.natAbs < 18446744073709551616) : (Lib.itoa x).length ≤ 21 := by
  rcases Int.lt_or_le x 0 with h0 | h0
  · obtain ⟨u, rfl⟩ : ∃ u : Nat, x = -(u : Int) := ⟨x.natAbs, by omega⟩
    rw [Lib.itoa_neg u (by omega), List.length_cons]
    have := digits_le (u := u) (by omega)
    omega
  · obtain ⟨u, rfl⟩ : ∃ u : Nat, x = (u : Int) := ⟨x.toNat, by omega⟩
    rw [Lib.itoa_nonneg]
    have := digits_le (u := u) (by omega)
    omega

set_option maxRecDepth 100000 in
set_option maxHeartbeats 1600000 in
theorem text_any (b : Nat) (hb : b < 18446744073709551616) (w : World) (hT : TabD w) (hP : Lib.TabIs Tryd.prog w "internal/strconv.uint64pow10" .u64 Lib.pow10Tab) :
    Calls Tryd.prog 31 #[.float .f64 b] w (SPost w (bytesOf (textF b))) := by
  have hn := nan_ne hb
  have HK := Lib.hid (kind_any b hb)
  have HS := Lib.hid (sign_any b hb)
  have hkl := kind_le b
  by_cases h4 : kindF b = 4
  · rw [show textF b = [110, 97, 110] by unfold textF; rw [if_pos h4]]
    rw [h4] at hn
    clear h4 hkl
    go_enter Tryd.func31, Tryd.ntmps31
    go_wp2
    go_ret
    exact ⟨rfl, Fr.refl _ w⟩
  rw [show (kindF b == 4) = false by rw [beq_eq_false_iff_ne]; exact h4] at hn
  by_cases h3 : kindF b = 3
  · rw [h3] at HK
    cases hs : negF b with
    | true =>
      rw [hs] at HS
      rw [show textF b = [45, 105, 110, 102] by unfold textF; rw [if_neg h4, if_pos h3, hs]; rfl]
      clear h4 h3 hkl hs
      go_enter Tryd.func31, Tryd.ntmps31
      go_wp2_with fail
      refine (HK.out w).mono ?_
      rintro e w' ⟨rfl, rfl⟩
      go_wp2_with fail
      refine (HS.out _).mono ?_
      rintro e w' ⟨rfl, rfl⟩
      go_wp2
      go_ret
      exact ⟨rfl, Fr.refl _ _⟩
    | false =>
      rw [hs] at HS
      rw [show textF b = [105, 110, 102] by unfold textF; rw [if_neg h4, if_pos h3, hs]; rfl]
      clear h4 h3 hkl hs
      go_enter Tryd.func31, Tryd.ntmps31
      go_wp2_with fail
      refine (HK.out w).mono ?_
      rintro e w' ⟨rfl, rfl⟩
      go_wp2_with fail
      refine (HS.out _).mono ?_
      rintro e w' ⟨rfl, rfl⟩
      go_wp2_with fail
      refine (HK.out _).mono ?_
      rintro e w' ⟨rfl, rfl⟩
      go_wp2
      go_ret
      exact ⟨rfl, Fr.refl _ _⟩
  have hk3 : ((kindF b : Int) == 3) = false := by rw [beq_eq_false_iff_ne]; omega
  have HP := Lib.hid (parts_any b hb w hT)
  have HF := Lib.hid (fmt_uint (oddF b) (Nat.lt_trans (odd_lt b) (by decide)) w hP)
  have hx := exp_le b
  have HI : Hid (∀ w', Fr (fun _ => False) w w' → Calls Tryd.prog 49 #[.int .i64 (expF b)] w' (SPost w' (bytesOf (Lib.itoa (expF b))))) := fun w' hf =>
    (Tryd.strconv_Itoa (expF b) (by omega) (by omega) w' (tabIs_frame hP hf)).mono fun e w'' ⟨h1, k, os, h2⟩ => ⟨h1, h2 ▸ Fr.of_grow w' k os⟩
  have ht : textF b = if negF b then 45 :: coreF b else coreF b := by unfold textF; rw [if_neg h4, if_neg h3]
  have hc : bytesOf (Lib.decDigits (oddF b)) ++ bytesOf [112] ++ bytesOf (Lib.itoa (expF b)) = bytesOf (coreF b) := by rw [bytes_app, bytes_app]; unfold coreF; simp
  have hc2 : bytesOf [45] ++ bytesOf (coreF b) = bytesOf (45 :: coreF b) := by rw [bytes_app]; rfl
  have hs1 : (bytesOf (Lib.decDigits (oddF b))).size ≤ 20 := by rw [bytes_size]; exact digits_le (Nat.lt_trans (odd_lt b) (by decide))
  have hs2 : (bytesOf (Lib.itoa (expF b))).size ≤ 21 := by rw [bytes_size]; exact itoa_le (by omega)
  change Hid (Calls Tryd.prog 48 _ w (SPost w (bytesOf (Lib.decDigits (oddF b))))) at HF
  generalize textF b = T at *
  generalize coreF b = C at *
  generalize bytesOf (Lib.decDigits (oddF b)) = D at *
  generalize bytesOf (Lib.itoa (expF b)) = X at *
  generalize kindF b = K at *
  have HC := Lib.hid hc
  have HC2 := Lib.hid hc2
  have HT2 := Lib.hid ht
  clear h4 h3 hkl hT hP hc hc2 ht hx
  obtain ⟨ng, hng⟩ : ∃ ng, negF b = ng := ⟨_, rfl⟩
  rw [hng] at HS HT2
  cases ng
  all_goals
    clear hng
    go_enter Tryd.func31, Tryd.ntmps31
    go_wp2_with fail
    refine (HK.out w).mono ?_
    rintro e w' ⟨rfl, rfl⟩
    go_wp2_with fail
    refine (HK.out _).mono ?_
    rintro e w' ⟨rfl, rfl⟩
    go_wp2_with fail
    refine (HP.out).mono ?_
    rintro e w' ⟨rfl, rfl⟩
    go_wp2_with fail
    refine (HF.out).mono ?_
    rintro e w1 ⟨rfl, hf1⟩
    have HF1 := Lib.hid hf1
    clear hf1
    go_wp2_with fail
    refine (HI.out _ HF1.out).mono ?_
    rintro e w2 ⟨rfl, hf2⟩
    have HF2 := Lib.hid (HF1.out.then hf2)
    clear hf2
    go_wp2_with fail
    refine (HS.out _).mono ?_
    rintro e w' ⟨rfl, rfl⟩
    go_wp2
    go_ret
    refine ⟨?_, HF2.out⟩
    rw [HT2.out]
    first
    | (rw [if_neg Bool.false_ne_true, ← HC.out]; rfl)
    | (rw [if_pos trivial, ← HC2.out, ← HC.out]; rfl)
end Go.Proofs.YtcmdcclolkgjeaaDoor
