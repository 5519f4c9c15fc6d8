/- The walks of the laws FloatKinds, FloatSteps. -/
import Derived.Test.YtcmdcclolkgjeaaDoorFWords
namespace Go.Proofs.YtcmdcclolkgjeaaDoor
open Go.RowKit

set_option maxRecDepth 100000 in
set_option maxHeartbeats 1600000 in
theorem FloatKinds_any (a b : Nat) (ha : a < 18446744073709551616) (W : World) (hT : TabD W) (hP : Lib.TabIs Tryd.prog W "internal/strconv.uint64pow10" .u64 Lib.pow10Tab) :
    Calls Tryd.prog 5 #[.int .u64 (a : Int), .int .u64 (b : Int)] W (LawPost W) := by
  have HL := Lib.hid (lives_any W hT hP)
  have H1 := Lib.hid (of_any a W)
  have H2 := Lib.hid (of_any b W)
  have H3 := Lib.hid (canon_any a W ha)
  have H4 := Lib.hid (bits_any (canonF a) W)
  have H5 := Lib.hid (nan2_any a ha W)
  have H6 := Lib.hid (bits_any a W)
  have H7 := Lib.hid (kind_any a ha W)
  have H8 := Lib.hid (kind2_any a ha W)
  have H9 := Lib.hid (sign_any a ha W)
  have H10 := Lib.hid (same_any a b W)
  have hd : decide ((9223372036854775808 : Int) ≤ (a : Int)) = negF a := by unfold negF; rw [decide_eq_decide]; omega
  have hq : ((a : Int) == (b : Int)) = (a == b) := by rw [Bool.eq_iff_iff, beq_iff_eq, beq_iff_eq]; omega
  generalize negF a = s at *
  generalize (a == b) = q at *
  clear hT hP
  by_cases h4 : kindF a = 4
  · rw [canon_nan h4] at H3 H4
    rw [show (kindF a == 4) = true by rw [h4]; rfl] at H5
    clear h4
    generalize kindF a = K at *
    go_enter Tryd.func5, Tryd.ntmps5
    go_wp2_with fail
    refine (H1.out).mono ?_
    rintro e w' ⟨rfl, rfl⟩
    go_wp2_with fail
    refine (H2.out).mono ?_
    rintro e w' ⟨rfl, rfl⟩
    go_wp2_with fail
    refine (H3.out).mono ?_
    rintro e w' ⟨rfl, rfl⟩
    go_wp2_with fail
    refine (H4.out).mono ?_
    rintro e w' ⟨rfl, rfl⟩
    go_wp2_with fail
    refine (H5.out).mono ?_
    rintro e w' ⟨rfl, rfl⟩
    go_wp2_with fail
    refine (H6.out).mono ?_
    rintro e w' ⟨rfl, rfl⟩
    go_wp2_with fail
    refine (H7.out).mono ?_
    rintro e w' ⟨rfl, rfl⟩
    go_wp2_with fail
    refine (H8.out).mono ?_
    rintro e w' ⟨rfl, rfl⟩
    go_wp2_with fail
    refine (H9.out).mono ?_
    rintro e w' ⟨rfl, rfl⟩
    go_wp2_with fail
    refine (H10.out).mono ?_
    rintro e w' ⟨rfl, rfl⟩
    go_wp2_with fail
    refine (HL.out).mono ?_
    rintro e w1 ⟨rfl, hf⟩
    have HF := Lib.hid hf
    clear hf
    go_wp2
    go_ret
    exact ⟨rfl, HF.out⟩
  · rw [canon_num h4] at H3 H4
    rw [show (kindF a == 4) = false by rw [beq_eq_false_iff_ne]; exact h4] at H5
    clear h4
    generalize kindF a = K at *
    go_enter Tryd.func5, Tryd.ntmps5
    go_wp2_with fail
    refine (H1.out).mono ?_
    rintro e w' ⟨rfl, rfl⟩
    go_wp2_with fail
    refine (H2.out).mono ?_
    rintro e w' ⟨rfl, rfl⟩
    go_wp2_with fail
    refine (H3.out).mono ?_
    rintro e w' ⟨rfl, rfl⟩
    go_wp2_with fail
    refine (H4.out).mono ?_
    rintro e w' ⟨rfl, rfl⟩
    go_wp2_with fail
    refine (H5.out).mono ?_
    rintro e w' ⟨rfl, rfl⟩
    go_wp2_with fail
    refine (H6.out).mono ?_
    rintro e w' ⟨rfl, rfl⟩
    go_wp2_with fail
    refine (H7.out).mono ?_
    rintro e w' ⟨rfl, rfl⟩
    go_wp2_with fail
    refine (H8.out).mono ?_
    rintro e w' ⟨rfl, rfl⟩
    go_wp2_with fail
    refine (H9.out).mono ?_
    rintro e w' ⟨rfl, rfl⟩
    go_wp2_with fail
    refine (H10.out).mono ?_
    rintro e w' ⟨rfl, rfl⟩
    go_wp2_with fail
    refine (HL.out).mono ?_
    rintro e w1 ⟨rfl, hf⟩
    have HF := Lib.hid hf
    clear hf
    go_wp2
    go_ret
    exact ⟨rfl, HF.out⟩

set_option maxRecDepth 100000 in
set_option maxHeartbeats 1600000 in
theorem FloatSteps_any (a b : Nat) (ha : a < 18446744073709551616) (hb : b < 18446744073709551616) (W : World) (hT : TabD W) (hP : Lib.TabIs Tryd.prog W "internal/strconv.uint64pow10" .u64 Lib.pow10Tab) :
    Calls Tryd.prog 6 #[.int .u64 (a : Int), .int .u64 (b : Int)] W (LawPost W) := by
  have HL := Lib.hid (lives_any W hT hP)
  have H1 := Lib.hid (of_any a W)
  have H2 := Lib.hid (of_any b W)
  have H3 := Lib.hid (before_any a b ha hb W)
  have H4 := Lib.hid (before2_any a b ha hb W)
  have H5 := Lib.hid (up_any a ha W)
  have H6 := Lib.hid (bits_any (upF a) W)
  have H7 := Lib.hid (up2_any a ha W)
  have H8 := Lib.hid (down_any a ha W)
  have H9 := Lib.hid (bits_any (downF a) W)
  have H10 := Lib.hid (down2_any a ha W)
  generalize upF a = U at *
  generalize downF a = D at *
  generalize aheadF a b = q at *
  clear hT hP
  go_enter Tryd.func6, Tryd.ntmps6
  go_wp2_with fail
  refine (H1.out).mono ?_
  rintro e w' ⟨rfl, rfl⟩
  go_wp2_with fail
  refine (H2.out).mono ?_
  rintro e w' ⟨rfl, rfl⟩
  go_wp2_with fail
  refine (H3.out).mono ?_
  rintro e w' ⟨rfl, rfl⟩
  go_wp2_with fail
  refine (H4.out).mono ?_
  rintro e w' ⟨rfl, rfl⟩
  go_wp2_with fail
  refine (H5.out).mono ?_
  rintro e w' ⟨rfl, rfl⟩
  go_wp2_with fail
  refine (H6.out).mono ?_
  rintro e w' ⟨rfl, rfl⟩
  go_wp2_with fail
  refine (H7.out).mono ?_
  rintro e w' ⟨rfl, rfl⟩
  go_wp2_with fail
  refine (H8.out).mono ?_
  rintro e w' ⟨rfl, rfl⟩
  go_wp2_with fail
  refine (H9.out).mono ?_
  rintro e w' ⟨rfl, rfl⟩
  go_wp2_with fail
  refine (H10.out).mono ?_
  rintro e w' ⟨rfl, rfl⟩
  go_wp2_with fail
  refine (HL.out).mono ?_
  rintro e w1 ⟨rfl, hf⟩
  have HF := Lib.hid hf
  clear hf
  go_wp2
  go_ret
  exact ⟨rfl, HF.out⟩


theorem FloatKinds_of {x y : Int} (hx : (Lit.int .u64 x).wf = true) (hy : (Lit.int .u64 y).wf = true) (W : World) (hL : laidMetH Tryd.prog Rows.floatKindsRow.laid W) : Calls Tryd.prog 5 #[.int .u64 x, .int .u64 y] W (LawPost W) := by
  obtain ⟨a, rfl, ha⟩ := u64_nat hx
  obtain ⟨b, rfl, _⟩ := u64_nat hy
  exact FloatKinds_any a b ha W (tabs_of_laid hL).1 (tabs_of_laid hL).2
theorem FloatSteps_of {x y : Int} (hx : (Lit.int .u64 x).wf = true) (hy : (Lit.int .u64 y).wf = true) (W : World) (hL : laidMetH Tryd.prog Rows.floatStepsRow.laid W) : Calls Tryd.prog 6 #[.int .u64 x, .int .u64 y] W (LawPost W) := by
  obtain ⟨a, rfl, ha⟩ := u64_nat hx
  obtain ⟨b, rfl, hb⟩ := u64_nat hy
  exact FloatSteps_any a b ha hb W (tabs_of_laid hL).1 (tabs_of_laid hL).2
end Go.Proofs.YtcmdcclolkgjeaaDoor
