/- The walk of the law ExactCompares. -/
import Derived.Test.YtmllbdiljjimmaaRCompare
namespace Go.Proofs.Ytmllbdiljjimmaa
open Go.RowKit

set_option maxRecDepth 100000 in
set_option maxHeartbeats 3200000 in
theorem ExactCompares_any (p1 p2 : Option Addr) (len1 len2 cap1 cap2 : Nat) (fs gs : List Nat) (W : World) (h1 : Words W p1 len1 fs) (h2 : Words W p2 len2 gs) :
    Calls Try.prog 8 #[.slice p1 len1 cap1, .slice p2 len2 cap2] W (LawPost W) := by
  have HLIVE := Lib.hid lives_any
  by_cases h60 : 60 < len1
  · have d1 : decide ((60 : Int) < (len1 : Int)) = true := by rw [decide_eq_true_eq]; omega
    clear h1 h2 h60
    go_enter Try.func8, Try.ntmps8
    go_wp2_with fail
    refine (HLIVE.out W).mono ?_
    rintro e w1 ⟨rfl, hf⟩
    have HF := Lib.hid hf
    clear hf
    go_wp2
    go_ret
    exact ⟨rfl, HF.out⟩
  have d1 : decide ((60 : Int) < (len1 : Int)) = false := by rw [decide_eq_false_iff_not]; omega
  by_cases h61 : 60 < len2
  · have d2 : decide ((60 : Int) < (len2 : Int)) = true := by rw [decide_eq_true_eq]; omega
    clear h1 h2 h60 h61
    go_enter Try.func8, Try.ntmps8
    go_wp2_with fail
    refine (HLIVE.out W).mono ?_
    rintro e w1 ⟨rfl, hf⟩
    have HF := Lib.hid hf
    clear hf
    go_wp2
    go_ret
    exact ⟨rfl, HF.out⟩
  have d2 : decide ((60 : Int) < (len2 : Int)) = false := by rw [decide_eq_false_iff_not]; omega
  have hfl1 := h1.len
  have hfl2 := h2.len
  have HFL1 := Lib.hid (floats_any p1 len1 cap1 fs W h1.1 h1.2 (by omega))
  have HFL2 : Hid (∀ w, Fr (fun _ => False) W w → Calls Try.prog 16 #[.slice p2 len2 cap2] w (FloatsPost w gs)) := fun w hf => floats_any p2 len2 cap2 gs w (h2.frame hf).1 h2.2 (by omega)
  have HCMP : Hid (∀ w q1 q2 c1 c2, Flts w q1 len1 fs → Flts w q2 len2 gs → Calls Try.prog 30 #[.slice q1 len1 c1, .slice q2 len2 c2] w (CmpPost w ((Got.of fs).cmp (Got.of gs)))) := fun w q1 q2 c1 c2 k1 k2 => compare_any q1 q2 len1 len2 c1 c2 fs gs w k1 k2 (by omega) (by omega)
  have HRC : Hid (∀ w, Fr (fun _ => False) W w → Calls Try.prog 31 #[.slice p1 len1 cap1, .slice p2 len2 cap2] w (CmpPost w ((Got.of fs).cmp (Got.of gs)))) := fun w hf => by
    rw [cmp_same fs gs h1.2 h2.2]
    exact rcompare_any p1 p2 len1 len2 cap1 cap2 fs gs w (h1.frame hf) (h2.frame hf) (by omega) (by omega)
  clear h1 h2 h60 h61
  generalize (Got.of fs).cmp (Got.of gs) = R at *
  obtain ⟨n, t⟩ := R
  unfold CmpPost at HCMP HRC
  dsimp only at HCMP HRC
  go_enter Try.func8, Try.ntmps8
  go_wp2_with fail
  refine (HFL1.out).mono ?_
  rintro e w1 ⟨v1, rfl, hr1⟩
  obtain ⟨q1, c1, rfl, hx1, _⟩ := flts_of_row hr1
  rw [hfl1] at hx1 ⊢
  have HX1 := Lib.hid hx1
  have HF1 := Lib.hid hr1.2.2.2
  clear hx1 hr1 HFL1
  go_wp2_with fail
  refine (HFL2.out w1 HF1.out).mono ?_
  rintro e w2 ⟨v2, rfl, hr2⟩
  obtain ⟨q2, c2, rfl, hx2, _⟩ := flts_of_row hr2
  rw [hfl2] at hx2 ⊢
  have HX2 := Lib.hid hx2
  have HX3 := Lib.hid (HX1.out.frame hr2.2.2.2 (fun _ _ _ h => h))
  have HF2 := Lib.hid (HF1.out.then hr2.2.2.2)
  clear hx2 hr2 HFL2 HX1 HF1
  go_wp2_with fail
  refine (HCMP.out w2 q1 q2 c1 c2 HX3.out HX2.out).mono ?_
  rintro e w3 ⟨rfl, hf3⟩
  have HF3 := Lib.hid (HF2.out.then hf3)
  clear hf3
  go_wp2_with fail
  refine (HRC.out w3 HF3.out).mono ?_
  rintro e w4 ⟨rfl, hf4⟩
  have HF4 := Lib.hid (HF3.out.then hf4)
  have hq : (n == n) = true := by rw [beq_iff_eq]
  clear hf4
  cases t
  all_goals
    go_wp2_with fail
    refine (HLIVE.out w4).mono ?_
    rintro e w5 ⟨rfl, hf5⟩
    have HF5 := Lib.hid (HF4.out.then hf5)
    clear hf5
    go_wp2
    go_ret
    exact ⟨rfl, HF5.out⟩

theorem ExactCompares_of {a b : Option Addr} {len1 len2 cap1 cap2 : Nat} {z y : List Int} {W : World} (h : Nums .u64 W a len1 z) (hz : ∀ n ∈ z, (Lit.int .u64 n).wf = true) (h2 : Nums .u64 W b len2 y) (hy : ∀ n ∈ y, (Lit.int .u64 n).wf = true) :
    Calls Try.prog 8 #[.slice a len1 cap1, .slice b len2 cap2] W (LawPost W) :=
  ExactCompares_any a b len1 len2 cap1 cap2 _ _ W (words_of h hz) (words_of h2 hy)
end Go.Proofs.Ytmllbdiljjimmaa
