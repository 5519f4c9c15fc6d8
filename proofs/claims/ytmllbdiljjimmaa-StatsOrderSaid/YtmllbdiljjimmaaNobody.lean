/- The walk of the law ExactNobody. -/
import Derived.Test.YtmllbdiljjimmaaSums
namespace Go.Proofs.Ytmllbdiljjimmaa
open Go.RowKit

theorem u64_nat {a : Int} (h : (Lit.int .u64 a).wf = true) : ∃ n : Nat, a = (n : Int) ∧ n < 18446744073709551616 := by
  simp only [Lit.wf, Bool.and_eq_true, decide_eq_true_eq] at h
  have e1 : IntKind.u64.min = 0 := by rfl
  have e2 : IntKind.u64.max = 18446744073709551615 := by rfl
  exact ⟨a.toNat, by omega, by omega⟩

theorem whole_none : Got.none.whole = 0 := ex_none

set_option maxRecDepth 100000 in
set_option maxHeartbeats 1600000 in
theorem ExactNobody_of (a : Nat) (W : World) :
    Calls Try.prog 7 #[.int .u64 (a : Int)] W (LawPost W) := by
  have HLIVE := Lib.hid lives_any
  have HOF := Lib.hid (of_any a W)
  have HADD := Lib.hid (add_nil a W)
  have HNEW := Lib.hid (new_got W)
  go_enter Try.func7, Try.ntmps7
  go_wp2_with fail
  refine (HOF.out).mono ?_
  rintro e w' ⟨rfl, rfl⟩
  go_wp2_with fail
  refine (HADD.out).mono ?_
  rintro e w' ⟨rfl, rfl⟩
  go_wp2_with fail
  refine (HNEW.out).mono ?_
  rintro e w1 ⟨rfl, g1, f1, l1⟩
  generalize W.heap.size = b at *
  have HM2 : Hid (Calls Try.prog 29 #[.pointer (some ⟨b, 0, none⟩), .pointer none] w1 fun e w' => e = .returned (.tuple #[]) ∧ w1 = w') := by
    obtain ⟨ns, hs, _⟩ := g1
    exact merge_nil2 b true ns _ _ _ _ _ w1 hs
  have HM1 := Lib.hid (merge_nil1 (some ⟨b, 0, none⟩) w1)
  have HWN := Lib.hid (whole_nil w1)
  have HCN := Lib.hid (count_nil w1)
  have HCG := Lib.hid (count_got b Got.none w1 g1)
  have HWG : Hid (Calls Try.prog 25 #[.pointer (some ⟨b, 0, none⟩)] w1 (FPost w1 0)) := by
    have := whole_got b Got.none w1 g1 Got.ok_none (by decide)
    rwa [whole_none] at this
  have HB0 := Lib.hid (bits_any 0)
  have HF1 := Lib.hid f1
  clear g1 f1 l1 HNEW HADD HOF
  go_wp2_with fail
  refine (HM2.out).mono ?_
  rintro e w' ⟨rfl, rfl⟩
  go_wp2_with fail
  refine (HM1.out).mono ?_
  rintro e w' ⟨rfl, rfl⟩
  go_wp2_with fail
  refine (HWN.out).mono ?_
  rintro e w' ⟨rfl, rfl⟩
  go_wp2_with fail
  refine (HB0.out _).mono ?_
  rintro e w' ⟨rfl, rfl⟩
  go_wp2_with fail
  refine (HCN.out).mono ?_
  rintro e w' ⟨rfl, rfl⟩
  go_wp2_with fail
  refine (HCG.out).mono ?_
  rintro e w' ⟨rfl, rfl⟩
  go_wp2_with fail
  refine (HWG.out).mono ?_
  rintro e w2 ⟨rfl, hf2⟩
  have HF2 := Lib.hid (HF1.out.then hf2)
  clear hf2
  go_wp2_with fail
  refine (HB0.out _).mono ?_
  rintro e w' ⟨rfl, rfl⟩
  go_wp2_with fail
  refine (HLIVE.out _).mono ?_
  rintro e w3 ⟨rfl, hf3⟩
  have HF3 := Lib.hid (HF2.out.then hf3)
  clear hf3
  go_wp2
  go_ret
  exact ⟨rfl, HF3.out⟩

theorem ExactNobody_ofI {a : Int} (h : (Lit.int .u64 a).wf = true) (W : World) : Calls Try.prog 7 #[.int .u64 a] W (LawPost W) := by
  obtain ⟨n, rfl, _⟩ := u64_nat h
  exact ExactNobody_of n W
end Go.Proofs.Ytmllbdiljjimmaa
