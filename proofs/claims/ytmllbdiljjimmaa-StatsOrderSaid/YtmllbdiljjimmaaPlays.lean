/- The walks of package ullageref34. -/
import Derived.Test.YtmllbdiljjimmaaPacer4
import Derived.Test.YtmllbdiljjimmaaRWhole
namespace Go.Proofs.Ytmllbdiljjimmaa
open Go.RowKit

set_option maxRecDepth 100000 in
set_option maxHeartbeats 800000 in
theorem may2_any (g l m : Nat) (hg : g < 18446744073709551616) (hl : l < 18446744073709551616) (hm : m < 18446744073709551616) (w : World) :
    Calls Try.prog 34 #[.int .u64 (g : Int), .int .u64 (l : Int), .int .u64 (m : Int)] w (OneBool w (mayF g l m)) := by
  have H1 := Lib.hid (nan2_any g hg w)
  have H2 := Lib.hid (nan2_any l hl w)
  have H3 := Lib.hid (nan2_any m hm w)
  have H4 := Lib.hid (before2_any m l hm hl w)
  unfold mayF
  generalize (kindF g == 4) = k1 at *
  generalize (kindF l == 4) = k2 at *
  generalize (kindF m == 4) = k3 at *
  generalize aheadF m l = k4 at *
  clear hg hl hm
  cases k1
  · cases k2
    · cases k3
      · cases k4
        all_goals
          go_enter Try.func34, Try.ntmps34
          go_wp2_with fail
          refine (H1.out).mono ?_
          rintro e w' ⟨rfl, rfl⟩
          go_wp2_with fail
          refine (H2.out).mono ?_
          rintro e w' ⟨rfl, rfl⟩
          go_wp2_with fail
          refine (H3.out).mono ?_
          rintro e w' ⟨rfl, rfl⟩
          go_wp2_with fail
          refine (H4.out).mono ?_
          rintro e w' ⟨rfl, rfl⟩
          go_wp2
          go_ret
          exact ⟨rfl, rfl⟩
      · go_enter Try.func34, Try.ntmps34
        go_wp2_with fail
        refine (H1.out).mono ?_
        rintro e w' ⟨rfl, rfl⟩
        go_wp2_with fail
        refine (H2.out).mono ?_
        rintro e w' ⟨rfl, rfl⟩
        go_wp2_with fail
        refine (H3.out).mono ?_
        rintro e w' ⟨rfl, rfl⟩
        go_wp2
        go_ret
        exact ⟨rfl, rfl⟩
    · go_enter Try.func34, Try.ntmps34
      go_wp2_with fail
      refine (H1.out).mono ?_
      rintro e w' ⟨rfl, rfl⟩
      go_wp2_with fail
      refine (H2.out).mono ?_
      rintro e w' ⟨rfl, rfl⟩
      go_wp2
      go_ret
      exact ⟨rfl, rfl⟩
  · go_enter Try.func34, Try.ntmps34
    go_wp2_with fail
    refine (H1.out).mono ?_
    rintro e w' ⟨rfl, rfl⟩
    go_wp2
    go_ret
    exact ⟨rfl, rfl⟩

theorem fits_four (live words : Int) : fitsI live words = (decide (0 ≤ live) && (decide (1 ≤ words) && (decide (live ≤ 1099511627776) && decide (words ≤ 1099511627776)))) := by
  unfold fitsI
  rw [Bool.eq_iff_iff]
  simp
set_option maxRecDepth 100000 in
set_option maxHeartbeats 800000 in
theorem fits2_any (live words : Int) (w : World) :
    Calls Try.prog 35 #[.int .i64 live, .int .i64 words] w (OneBool w (fitsI live words)) := by
  rw [fits_four]
  obtain ⟨k1, h1⟩ : ∃ k, decide (0 ≤ live) = k := ⟨_, rfl⟩
  obtain ⟨k2, h2⟩ : ∃ k, decide (1 ≤ words) = k := ⟨_, rfl⟩
  obtain ⟨k3, h3⟩ : ∃ k, decide (live ≤ 1099511627776) = k := ⟨_, rfl⟩
  obtain ⟨k4, h4⟩ : ∃ k, decide (words ≤ 1099511627776) = k := ⟨_, rfl⟩
  rw [h1, h2, h3, h4]
  cases k1
  · clear h2 h3 h4
    go_enter Try.func35, Try.ntmps35
    go_wp2
    go_ret
    exact ⟨rfl, rfl⟩
  · cases k2
    · clear h3 h4
      go_enter Try.func35, Try.ntmps35
      go_wp2
      go_ret
      exact ⟨rfl, rfl⟩
    · cases k3
      · clear h4
        go_enter Try.func35, Try.ntmps35
        go_wp2
        go_ret
        exact ⟨rfl, rfl⟩
      · cases k4
        all_goals
          go_enter Try.func35, Try.ntmps35
          go_wp2
          go_ret
          exact ⟨rfl, rfl⟩

def NatOne (w : World) (v : Nat) (e : Ending) (w' : World) : Prop := e = .returned (.int .u64 (v : Int)) ∧ w = w'
set_option maxRecDepth 100000 in
set_option maxHeartbeats 800000 in
theorem ratio2_any (live words : Int) (hf : fitsI live words = true) (w : World) :
    Calls Try.prog 37 #[.int .i64 live, .int .i64 words] w (NatOne w (ratioF live.toNat words.toNat)) := by
  unfold fitsI at hf
  rw [decide_eq_true_eq] at hf
  obtain ⟨x, rfl⟩ : ∃ x : Nat, live = (x : Int) := ⟨live.toNat, by omega⟩
  obtain ⟨y, rfl⟩ : ∃ y : Nat, words = (y : Int) := ⟨words.toNat, by omega⟩
  rw [Int.toNat_natCast, Int.toNat_natCast]
  obtain ⟨r1, r2⟩ := ratio_run x y (by omega) (by omega) (by omega)
  have hq := fun w => run_float_arith (P := Try.prog) w .quo 26 .f64 _ _ _ r1
  generalize ratioF x y = R at *
  have hb := call_bits R
  clear r1 r2 hf
  go_enter Try.func37, Try.ntmps37
  go_wp2
  go_ret
  exact ⟨rfl, rfl⟩

/-- A word that stands for a float, all NaNs as one. -/
def RawPost (w : World) (v : Nat) (e : Ending) (w' : World) : Prop := ∃ r : Nat, e = .returned (.int .u64 (r : Int)) ∧ Fr (fun _ => False) w w' ∧ r < 18446744073709551616 ∧ canonF r = v

set_option maxRecDepth 100000 in
set_option maxHeartbeats 800000 in
theorem times_any (a b : Nat) (w : World) :
    Calls Try.prog 83 #[.int .u64 (a : Int), .int .u64 (b : Int)] w (RawPost w (opF (floatBits .mul .f64 a b))) := by
  obtain ⟨r, w2, hr, hf, hlt, hcr⟩ := run_mul_any (P := Try.prog) 26 a b w
  have h1 := call_of a
  have h2 := call_of b
  have h3 := call_bits r
  have HF : Hid (RawPost w (opF (floatBits .mul .f64 a b)) (.returned (.int .u64 (r : Int))) w2) := ⟨r, rfl, hf, hlt, hcr⟩
  clear hf hlt hcr
  go_enter Try.func83, Try.ntmps83
  go_wp2
  go_ret
  exact HF.out

set_option maxRecDepth 100000 in
set_option maxHeartbeats 800000 in
theorem plusf_any (a b : Nat) (w : World) :
    Calls Try.prog 82 #[.int .u64 (a : Int), .int .u64 (b : Int)] w (RawPost w (opF (floatBits .add .f64 a b))) := by
  obtain ⟨r, w2, hr, hf, hlt, hcr⟩ := run_arith_any (P := Try.prog) .add (.inl rfl) 26 a b w
  have h1 := call_of a
  have h2 := call_of b
  have h3 := call_bits r
  have HF : Hid (RawPost w (opF (floatBits .add .f64 a b)) (.returned (.int .u64 (r : Int))) w2) := ⟨r, rfl, hf, hlt, hcr⟩
  clear hf hlt hcr
  go_enter Try.func82, Try.ntmps82
  go_wp2
  go_ret
  exact HF.out

set_option maxRecDepth 100000 in
set_option maxHeartbeats 1600000 in
theorem mean2_any (p : Option Addr) (len cap : Nat) (fs : List Nat) (w : World) (h : Words w p len fs) (h0 : 0 < len) (hlen : len ≤ 1000000) :
    Calls Try.prog 52 #[.slice p len cap] w (NatPost w (meanF fs)) := by
  have HO := Lib.hid (rwhole_any p len cap fs w h hlen)
  rw [← whole_same fs h.2] at HO
  unfold meanF
  rw [h.len]
  generalize (Got.of fs).whole = V at *
  have HQ := Lib.hid (run_arith_any (P := Try.prog) .quo (.inr rfl) 26 V (floatOfInt .f64 (len : Int)))
  generalize opF (floatBits .quo .f64 V (floatOfInt .f64 (len : Int))) = R at *
  have d0 : ((len : Int) == 0) = false := by rw [beq_eq_false_iff_ne]; omega
  have h1 := call_of V
  clear h
  go_enter Try.func52, Try.ntmps52
  go_wp2_with fail
  refine (HO.out).mono ?_
  rintro e w1 ⟨rfl, hf⟩
  have HF := Lib.hid hf
  obtain ⟨r, w2, hr, hf2, hlt, hcr⟩ := HQ.out w1
  have h2 := call_bits r
  have HN := Lib.hid (nan2_any r hlt w2)
  have HF2 := Lib.hid (HF.out.then hf2)
  clear hf hf2 hlt HQ
  cases hk : (kindF r == 4) with
  | true =>
    rw [beq_iff_eq] at hk
    have hR : R = 9221120237041090560 := by rw [← hcr]; unfold canonF; rw [if_pos hk]
    rw [hk] at HN
    subst hR
    clear hcr hk
    go_wp2_with fail
    refine (HN.out).mono ?_
    rintro e w3 ⟨rfl, rfl⟩
    go_wp2
    go_ret
    exact ⟨rfl, HF2.out⟩
  | false =>
    have hk' := hk
    rw [beq_eq_false_iff_ne] at hk
    rw [canon_num hk] at hcr
    rw [hk'] at HN
    subst hcr
    clear hk hk'
    go_wp2_with fail
    refine (HN.out).mono ?_
    rintro e w3 ⟨rfl, rfl⟩
    go_wp2
    go_ret
    exact ⟨rfl, HF2.out⟩

set_option maxRecDepth 100000 in
set_option maxHeartbeats 1600000 in
theorem trig2_any (g l m : Nat) (hl : l < 18446744073709551616) (hm : m < 18446744073709551616) (p : Option Addr) (len cap : Nat) (fs : List Nat) (w : World) (h : Words w p len fs) (hlen : len ≤ 1000000) :
    Calls Try.prog 38 #[.int .u64 (g : Int), .int .u64 (l : Int), .int .u64 (m : Int), .slice p len cap] w (NatPost w (trigF g l m fs)) := by
  have hle := h.len
  by_cases h0 : len = 0
  · subst h0
    obtain rfl : fs = [] := List.eq_nil_of_length_eq_zero hle
    rw [show trigF g l m [] = m from if_pos rfl]
    clear h hle
    go_enter Try.func38, Try.ntmps38
    go_wp2
    go_ret
    exact ⟨rfl, Fr.refl _ w⟩
  · have hne : fs ≠ [] := fun e => h0 (by rw [← hle, e]; rfl)
    have HM := Lib.hid (mean2_any p len cap fs w h (by omega) hlen)
    have hMl : meanF fs < 18446744073709551616 := opF_lt _ _ _
    have ht : trigF g l m fs = if kindF (opF (floatBits .add .f64 (meanF fs) (opF (floatBits .mul .f64 g (meanF fs))))) = 4 ∨ aheadF m (opF (floatBits .add .f64 (meanF fs) (opF (floatBits .mul .f64 g (meanF fs))))) = true then m
      else if aheadF (opF (floatBits .add .f64 (meanF fs) (opF (floatBits .mul .f64 g (meanF fs))))) l = true then l
      else opF (floatBits .add .f64 (meanF fs) (opF (floatBits .mul .f64 g (meanF fs)))) := if_neg hne
    generalize trigF g l m fs = T at *
    generalize meanF fs = M at *
    have d0 : ((len : Int) == 0) = false := by rw [beq_eq_false_iff_ne]; omega
    have HT := Lib.hid ht
    have HML := Lib.hid hMl
    clear h ht hle hne h0 hlen hMl
    go_enter Try.func38, Try.ntmps38
    go_wp2_with fail
    refine (HM.out).mono ?_
    rintro e w1 ⟨rfl, hf1⟩
    have HF1 := Lib.hid hf1
    have HX := Lib.hid (times_any g M w1)
    clear hf1
    go_wp2_with fail
    refine (HX.out).mono ?_
    rintro e w2 ⟨r, rfl, hf2, hlt2, hcr2⟩
    have HF2 := Lib.hid (HF1.out.then hf2)
    have HP := Lib.hid (plusf_any M r w2)
    rw [add_canon HML.out hlt2, hcr2] at HP
    clear hf2 hlt2 hcr2 HX HF1
    go_wp2_with fail
    refine (HP.out).mono ?_
    rintro e w3 ⟨t, rfl, hf3, hlt3, hcr3⟩
    have HF3 := Lib.hid (HF2.out.then hf3)
    have HN := Lib.hid (nan2_any t hlt3 w3)
    have HB1 := Lib.hid (before2_any m t hm hlt3 w3)
    have HB2 := Lib.hid (before2_any t l hlt3 hl w3)
    have hkk := canon_kind t
    rw [hcr3] at hkk
    clear hf3 HF2 HP hlt3
    by_cases hk : kindF t = 4
    · obtain rfl : T = m := by rw [HT.out, if_pos (.inl (hkk.2 hk))]
      rw [show (kindF t == 4) = true by rw [hk]; rfl] at HN
      clear hcr3 hkk hk HT
      go_wp2_with fail
      refine (HN.out).mono ?_
      rintro e w' ⟨rfl, rfl⟩
      go_wp2
      go_ret
      exact ⟨rfl, HF3.out⟩
    · rw [show (kindF t == 4) = false by rw [beq_eq_false_iff_ne]; exact hk] at HN
      rw [canon_num hk] at hcr3
      rw [← hcr3] at HT
      cases ha : aheadF m t
      · rw [ha] at HB1
        cases hb : aheadF t l
        · rw [hb] at HB2
          obtain rfl : T = t := by rw [HT.out, if_neg (by rw [ha]; rintro (h | h); exact hk h; cases h), if_neg (by rw [hb]; exact Bool.false_ne_true)]
          clear hcr3 hkk hk HT ha hb
          go_wp2_with fail
          refine (HN.out).mono ?_
          rintro e w' ⟨rfl, rfl⟩
          go_wp2_with fail
          refine (HB1.out).mono ?_
          rintro e w' ⟨rfl, rfl⟩
          go_wp2_with fail
          refine (HB2.out).mono ?_
          rintro e w' ⟨rfl, rfl⟩
          go_wp2
          go_ret
          exact ⟨rfl, HF3.out⟩
        · rw [hb] at HB2
          obtain rfl : T = l := by rw [HT.out, if_neg (by rw [ha]; rintro (h | h); exact hk h; cases h), if_pos hb]
          clear hcr3 hkk hk HT ha hb
          go_wp2_with fail
          refine (HN.out).mono ?_
          rintro e w' ⟨rfl, rfl⟩
          go_wp2_with fail
          refine (HB1.out).mono ?_
          rintro e w' ⟨rfl, rfl⟩
          go_wp2_with fail
          refine (HB2.out).mono ?_
          rintro e w' ⟨rfl, rfl⟩
          go_wp2
          go_ret
          exact ⟨rfl, HF3.out⟩
      · rw [ha] at HB1
        obtain rfl : T = m := by rw [HT.out, if_pos (.inr ha)]
        clear hcr3 hkk hk HT ha
        go_wp2_with fail
        refine (HN.out).mono ?_
        rintro e w' ⟨rfl, rfl⟩
        go_wp2_with fail
        refine (HB1.out).mono ?_
        rintro e w' ⟨rfl, rfl⟩
        go_wp2
        go_ret
        exact ⟨rfl, HF3.out⟩

set_option maxRecDepth 100000 in
set_option maxHeartbeats 800000 in
theorem due2_any (t : Nat) (used words : Int) (w : World) :
    Calls Try.prog 42 #[.int .u64 (t : Int), .int .i64 used, .int .i64 words] w (BPost w (dueF t used words)) := by
  have hd : dueF t used words = (dbl.order (floatOfInt .f64 used) (opF (floatBits .mul .f64 t (floatOfInt .f64 words))) == some .gt || dbl.order (floatOfInt .f64 used) (opF (floatBits .mul .f64 t (floatOfInt .f64 words))) == some .eq) := rfl
  generalize dueF t used words = D at *
  have hu := floatOf_lt used
  generalize hU : floatOfInt .f64 used = U at *
  generalize hY : floatOfInt .f64 words = Y at *
  have HD := Lib.hid hd
  have HU := Lib.hid hu
  have HX := Lib.hid (times_any t Y w)
  have hb := call_bits Y
  clear hd hu
  go_enter Try.func42, Try.ntmps42
  go_wp2_with fail
  refine (HX.out).mono ?_
  rintro e w2 ⟨r, rfl, hf2, hlt2, hcr2⟩
  have HF2 := Lib.hid hf2
  have he : (FloatKind.f64.format.order U r == some .gt || FloatKind.f64.format.order U r == some .eq) = D := by
    rw [HD.out, ← hcr2, ← order_canon HU.out hlt2]
  have HE := Lib.hid he
  have ho := call_of r
  clear hf2 hcr2 he HD hlt2
  go_wp2
  go_ret
  exact ⟨congrArg (fun b => Ending.returned (.bool b)) HE.out, HF2.out⟩
end Go.Proofs.Ytmllbdiljjimmaa
