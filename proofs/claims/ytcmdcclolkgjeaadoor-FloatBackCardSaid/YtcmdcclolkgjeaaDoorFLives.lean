/- The examples of the laws of package float; what the condition gives the walks. -/
import Derived.Test.YtcmdcclolkgjeaaDoorFSame
import Derived.Test.YtcmdcclolkgjeaaDoorRows
import Derived.LaidMore
import Derived.Lib.LaidTab
import Derived.LaidSub
import Derived.ProofKit
namespace Go.Proofs.YtcmdcclolkgjeaaDoor
open Go.RowKit

theorem tz_ex1 : tzN 7205759403792794 = 1 := by rw [tzN_even (by decide) (by decide), tzN_odd (by decide)]
theorem tz_ex0 : tzN 0 = 0 := by rw [tzN, dif_pos (.inl rfl)]
theorem dig_ex : Lib.decDigits 3602879701896397 = [51, 54, 48, 50, 56, 55, 57, 55, 48, 49, 56, 57, 54, 51, 57, 55] := by simp [Lib.decDigits]
theorem dig_55 : Lib.decDigits 55 = [53, 53] := by simp [Lib.decDigits]
theorem dig_0 : Lib.decDigits 0 = [48] := by simp [Lib.decDigits]
theorem text_ex1 : textF 4591870180066957722 = [51, 54, 48, 50, 56, 55, 57, 55, 48, 49, 56, 57, 54, 51, 57, 55, 112, 45, 53, 53] := by
  have m : mantF 4591870180066957722 = 7205759403792794 := by decide
  have o : oddF 4591870180066957722 = 3602879701896397 := by unfold oddF; rw [m, tz_ex1]
  have x : expF 4591870180066957722 = -((55 : Nat) : Int) := by unfold expF; rw [m, tz_ex1]; decide
  unfold textF
  rw [if_neg (by decide), if_neg (by decide), if_neg (by decide)]
  unfold coreF
  rw [o, x, dig_ex, Lib.itoa_neg 55 (by decide), dig_55]
  rfl
theorem text_ex2 : textF 9223372036854775808 = [45, 48, 112, 48] := by
  have m : mantF 9223372036854775808 = 0 := by decide
  have o : oddF 9223372036854775808 = 0 := by unfold oddF; rw [m, Nat.zero_div]
  have x : expF 9223372036854775808 = ((0 : Nat) : Int) := by unfold expF; rw [m]; rfl
  unfold textF
  rw [if_neg (by decide), if_neg (by decide), if_pos (by decide)]
  unfold coreF
  rw [o, x, dig_0, Lib.itoa_nonneg, dig_0]
  rfl
theorem best_ex : bestF aheadF 9218868437227405312 [0, 9223372036854775808] = 9223372036854775808 := by decide

theorem TabD.frame {w w' : World} (h : TabD w) (hf : Fr (fun _ => False) w w') : TabD w' := fun i k hi => (World.cell?_of_block (w := w) (hf.block _ (cell_lt (h i k hi)) (fun h => h))).trans (h i k hi)

set_option maxRecDepth 100000 in
set_option maxHeartbeats 1600000 in
theorem lives_any (w : World) (hT : TabD w) (hP : Lib.TabIs Tryd.prog w "internal/strconv.uint64pow10" .u64 Lib.pow10Tab) : Calls Tryd.prog 12 #[] w (BPost w true) := by
  have HOF := Lib.hid (of_any 9223372036854775808 w)
  have h1 := text_any 4591870180066957722 (by decide) w hT hP
  rw [text_ex1] at h1
  have H1 := Lib.hid h1
  have H2 : Hid (∀ w', Fr (fun _ => False) w w' → Calls Tryd.prog 31 #[.float .f64 9223372036854775808] w' (SPost w' (bytesOf [45, 48, 112, 48]))) := fun w' hf => by
    have := text_any 9223372036854775808 (by decide) w' (hT.frame hf) (tabIs_frame hP hf)
    rw [text_ex2] at this
    exact this
  have HS := Lib.hid (same_any 9223372036854775808 9223372036854775808)
  unfold bytesOf at H1 H2
  clear h1 hT hP
  go_enter Tryd.func12, Tryd.ntmps12
  go_wp2_with fail
  refine (HOF.out).mono ?_
  rintro e w' ⟨rfl, rfl⟩
  go_wp2_with fail
  refine (H1.out).mono ?_
  rintro e w1 ⟨rfl, hf1⟩
  have HF1 := Lib.hid hf1
  clear hf1
  go_wp2_with fail
  refine (H2.out _ HF1.out).mono ?_
  rintro e w2 ⟨rfl, hf2⟩
  have HF2 := Lib.hid (HF1.out.then hf2)
  clear hf2
  have hfa : Fr (fun _ => False) w2 (w2.alloc (.cells #[.float .f64 0, .float .f64 9223372036854775808] 23)) := (Fr.refl _ w2).alloc _
  have hbk := Blk.new w2 [.float .f64 0, .float .f64 9223372036854775808] 23
  have hfl : Flts (w2.alloc (.cells #[.float .f64 0, .float .f64 9223372036854775808] 23)) (some ⟨w2.heap.size, 0, none⟩) 2 [0, 9223372036854775808] := by
    refine ⟨rfl, fun i hi => ?_⟩
    match i, hi with
    | 0, _ => exact ⟨_, 0, 0, rfl, rfl, by decide, hbk.cell 0 rfl⟩
    | 1, _ => exact ⟨_, 0, 9223372036854775808, rfl, rfl, by decide, hbk.cell 1 rfl⟩
  have hls := least_post (some ⟨w2.heap.size, 0, none⟩) 2 2 _ _ hfl (by decide)
  rw [best_ex] at hls
  have HLS := Lib.hid hls
  have HFA := Lib.hid (HF2.out.then hfa)
  clear hfa hbk hfl hls
  go_wp2_with fail
  refine (HLS.out).mono ?_
  rintro e w' ⟨rfl, rfl⟩
  go_wp2_with fail
  refine (HS.out _).mono ?_
  rintro e w' ⟨rfl, rfl⟩
  go_wp2
  go_ret
  exact ⟨rfl, HFA.out⟩

theorem gTab : Tryd.prog.globalNamed "math/bits.deBruijn64tab" = some 1 := by kernel_rfl
theorem tTab : (Tryd.prog.globals[1]?).map (·.type) = some 83 := by kernel_rfl
theorem gPow : Tryd.prog.globalNamed "internal/strconv.uint64pow10" = some 5 := by kernel_rfl
theorem tPow : (Tryd.prog.globals[5]?).map (·.type) = some 100 := by kernel_rfl
/-- What the condition gives the walks. -/
theorem tab64_of {W : World} (h : laidMetH Tryd.prog [("math/bits.deBruijn64tab", Rows.laid_math_bits_deBruijn64tab)] W) : TabD W := by
  rw [MakeChecks.laidMetH_plain _ _ _ (by kernel_rfl)] at h
  obtain ⟨ps, ⟨g0, t0, cs0, f0, p0, q0, hg0, ht0, hv0, hd0, _⟩, _⟩ := h
  obtain rfl := Option.some.inj (gTab.symm.trans hg0)
  obtain rfl := Option.some.inj (tTab.symm.trans ht0)
  have hc := Lib.cells_of_tab (k := .u8) (zs := tabD.map Int.ofNat) Tryd.underlying83 Tryd.underlying5 (by kernel_rfl) (by kernel_rfl) hd0
  intro i k hi
  have := World.var?_cell hg0 hv0 i
  rw [this, ← Array.getElem?_toList, hc]
  simp [hi]
theorem tabPow_of {W : World} (h : laidMetH Tryd.prog [("internal/strconv.uint64pow10", Rows.laid_internal_strconv_uint64pow10)] W) : Lib.TabIs Tryd.prog W "internal/strconv.uint64pow10" .u64 Lib.pow10Tab := by
  rw [MakeChecks.laidMetH_plain _ _ _ (by kernel_rfl)] at h
  exact Lib.tabIs_of_head gPow tPow Tryd.underlying100 Tryd.underlying22 (by kernel_rfl) (by kernel_rfl) h
theorem tabs_of_laid {W : World} (h : laidMetH Tryd.prog Rows.floatOrderRow.laid W) : TabD W ∧ Lib.TabIs Tryd.prog W "internal/strconv.uint64pow10" .u64 Lib.pow10Tab :=
  ⟨tab64_of (h.filter (fun x => x.1 == "math/bits.deBruijn64tab")), tabPow_of (h.filter (fun x => x.1 == "internal/strconv.uint64pow10"))⟩
theorem tabs_of_laid5 {W : World} (h : laidMetH Tryd.prog Rows.floatReadsRow.laid W) : TabD W ∧ Lib.TabIs Tryd.prog W "internal/strconv.uint64pow10" .u64 Lib.pow10Tab :=
  ⟨tab64_of (h.filter (fun x => x.1 == "math/bits.deBruijn64tab")), tabPow_of (h.filter (fun x => x.1 == "internal/strconv.uint64pow10"))⟩
end Go.Proofs.YtcmdcclolkgjeaaDoor
