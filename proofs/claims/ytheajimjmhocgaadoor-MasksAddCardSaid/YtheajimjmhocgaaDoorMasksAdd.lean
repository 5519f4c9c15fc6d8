/- The walk of the law MasksAdd. -/
import Derived.Test.YtheajimjmhocgaaDoorMasksLaw
import Derived.Test.YtheajimjmhocgaaDoorFlat
import Derived.Deep.DeepCutAuto
namespace Go.Proofs.YtheajimjmhocgaaDoor
open Go.RowKit

theorem cnt_add (x : Nat) (a b c : Int) (hab : a ≤ b) (hbc : b ≤ c) (n : Nat) : cntW (inF x a b) n + cntW (inF x b c) n = cntW (inF x a c) n := by
  induction n with
  | zero => rfl
  | succ n ih =>
    rw [cntW, cntW, cntW, ← ih]
    have e : (if inF x a b n = true then 1 else 0) + (if inF x b c n = true then 1 else 0) = (if inF x a c n = true then 1 else 0) := by
      unfold inF
      cases x.testBit n with
      | false => simp
      | true =>
        simp only [Bool.and_true, Bool.and_eq_true, decide_eq_true_eq]
        by_cases h1 : a ≤ (n : Int) <;> by_cases h2 : (n : Int) < b <;> by_cases h3 : (n : Int) < c <;> simp [h1, h2, h3] <;> omega
    omega

/-- Three numbers in order. -/
def Ord (s5 s6 s7 : Value) : Prop := ∃ a m c : Int, s5 = .int .i64 a ∧ s6 = .int .i64 m ∧ s7 = .int .i64 c ∧ a ≤ m ∧ m ≤ c

theorem Ord.mk' {a m c : Int} (h : a ≤ m ∧ m ≤ c) : Ord (.int .i64 a) (.int .i64 m) (.int .i64 c) := ⟨a, m, c, rfl, rfl, rfl, h.1, h.2⟩

set_option maxHeartbeats 4000000 in
set_option maxRecDepth 100000 in
theorem MasksAdd_any (x : Nat) (hx : x < 18446744073709551616) (p q r : Nat) (hp : p ≤ 255) (hq : q ≤ 255) (hr : r ≤ 255) (w : World) (hT : TabD w) :
    Calls Tryd.prog 5 #[.int .u64 (x : Int), .agg #[.int .u8 (p : Int), .int .u8 (q : Int), .int .u8 (r : Int)]] w fun e w' => e = .returned (.bool true) ∧ Fr (fun _ => False) w w' := by
  have HT := Lib.hid hT
  clear hT
  go_enter Tryd.func5, Tryd.ntmps5
  go_wp2
  go_quiet (fail)
  go_upto_region 2 with fail
  go_cut [5, 6, 7] (fun s5 s6 s7 wx => Ord s5 s6 s7 ∧ Fr (fun _ => False) w wx)
  case first =>
    by_cases a1 : (q : Int) % 80 < (p : Int) % 80 <;> by_cases a2 : (r : Int) % 80 < (q : Int) % 80 <;> by_cases a3 : (r : Int) % 80 < (p : Int) % 80
    all_goals first
      | (exfalso; omega)
      | (go_wp2_with fail; all_goals (go_meet; refine ⟨Ord.mk' ?_, ((Fr.refl _ w).alloc _).drewN nq⟩; omega))
  case rest =>
    obtain ⟨⟨a, m, c, rfl, rfl, rfl, h1, h2⟩, hf⟩ := hcut
    have hadd := cnt_add x a m c h1 h2 64
    have l1 := cntW_le (inF x a m) 64
    have l2 := cntW_le (inF x m c) 64
    have p1 := count_any x hx a m wc
    have p2 := count_any x hx m c wc
    have p3 := count_any x hx a c wc
    rw [← hadd] at p3
    have hT' : TabD wc := fun i k hi => (World.cell?_of_block (w := w) (hf.block _ (cell_lt (HT.out i k hi)) (fun h => h))).trans (HT.out i k hi)
    have L := Lib.hid (lives_any wc hT')
    have Hf := Lib.hid hf
    generalize cntW (inF x a m) 64 = A at *
    generalize cntW (inF x m c) 64 = B at *
    have hz : (((A : Int) + B) != ((A + B : Nat) : Int)) = false := by simp
    have P1 := Lib.hid p1
    have P2 := Lib.hid p2
    have P3 := Lib.hid p3
    clear hadd p1 p2 p3 hT' hf HT h1 h2
    go_wp2_with fail
    refine (P1.out).mono ?_
    rintro e w' ⟨rfl, rfl⟩
    go_wp2_with fail
    refine (P2.out).mono ?_
    rintro e w' ⟨rfl, rfl⟩
    go_wp2_with fail
    refine (P3.out).mono ?_
    rintro e w' ⟨rfl, rfl⟩
    go_wp2_with fail
    go_loop [55] (fun k => ∃ j : Nat, j ≤ 64 ∧ k = .int .i64 j) (fun k => 64 - (intOf k).toNat)
    case atStart => exact ⟨0, Nat.zero_le _, rfl⟩
    case round =>
      obtain ⟨j, hj, rfl⟩ := hrel
      by_cases hlt : j < 64
      · have q1 := count_any x hx (j : Int) ((j : Int) + 1) wc
        have hc1 := cnt_between x j (j + 1) (by omega) (by omega)
        rw [show ((j + 1 : Nat) : Int) = (j : Int) + 1 by omega, below_succ] at hc1
        rw [hc1] at q1
        have q2 := count_any x hx 0 (j : Int) wc
        have hc2 : cntW (inF x 0 (j : Int)) 64 = below x j := cnt_between x 0 j (Nat.zero_le _) (by omega)
        rw [hc2] at q2
        have q3 := pick_any x hx (below x j : Nat) wc
        cases hB : x.testBit j with
        | true =>
          rw [pick_found (K := (below x j : Nat)) hlt (Nat.le_refl _) (by rw [below_succ, hB]; simp)] at q3
          rw [hB, show below x j + (if true = true then 1 else 0) - below x j = 1 by simp] at q1
          generalize below x j = b at *
          have Q1 := Lib.hid q1
          have Q2 := Lib.hid q2
          have Q3 := Lib.hid q3
          clear q1 q2 q3 hc1 hc2 hB
          go_wp2_with fail
          refine (Q1.out).mono ?_
          rintro e w' ⟨rfl, rfl⟩
          go_wp2_with fail
          refine (Q2.out).mono ?_
          rintro e w' ⟨rfl, rfl⟩
          go_wp2_with fail
          refine (Q3.out).mono ?_
          rintro e w' ⟨rfl, rfl⟩
          go_wp2
          go_round
          case rel => exact ⟨j + 1, by omega, by go_num⟩
          case measure => simp [intOf]; omega
        | false =>
          rw [hB, show below x j + (if false = true then 1 else 0) - below x j = 0 by simp] at q1
          have Q1 := Lib.hid q1
          clear q1 q2 q3 hc1 hc2 hB
          go_wp2_with fail
          refine (Q1.out).mono ?_
          rintro e w' ⟨rfl, rfl⟩
          go_wp2
          go_round
          case rel => exact ⟨j + 1, by omega, by go_num⟩
          case measure => simp [intOf]; omega
      · obtain rfl : j = 64 := by omega
        go_wp2_with fail
        refine (L.out).mono ?_
        rintro e w' ⟨rfl, rfl⟩
        go_wp2
        go_ret
        exact ⟨rfl, Hf.out⟩

theorem MasksAdd_of (x : Int) (hx : (Lit.int .u64 x).wf = true) (cs : List Value) (hc : AllOk [.int .u8, .int .u8, .int .u8] cs) (w : World) (hL : laidMetH Tryd.prog Rows.masksAddRow.laid w) :
    Calls Tryd.prog 5 #[.int .u64 x, .agg cs.toArray] w fun e w' => e = .returned (.bool true) ∧ Fr (fun _ => False) w w' := by
  obtain ⟨x, rfl, gx⟩ := nat_of_u64 hx
  have hl := hc.length
  obtain ⟨c0, e0, p, rfl, h0⟩ := hc.get 0 _ rfl
  obtain ⟨c1, e1, q, rfl, h1⟩ := hc.get 1 _ rfl
  obtain ⟨c2, e2, r, rfl, h2⟩ := hc.get 2 _ rfl
  have b0 := bounds_u8 h0
  have b1 := bounds_u8 h1
  have b2 := bounds_u8 h2
  have hcs : cs = [.int .u8 p, .int .u8 q, .int .u8 r] := by
    apply List.ext_getElem?
    intro i
    rcases i with _ | _ | _ | i
    · exact e0
    · exact e1
    · exact e2
    · rw [List.getElem?_eq_none (by simp at hl; omega), List.getElem?_eq_none (by simp)]
  subst hcs
  obtain ⟨p, rfl⟩ := Int.eq_ofNat_of_zero_le b0.1
  obtain ⟨q, rfl⟩ := Int.eq_ofNat_of_zero_le b1.1
  obtain ⟨r, rfl⟩ := Int.eq_ofNat_of_zero_le b2.1
  exact MasksAdd_any x gx p q r (by omega) (by omega) (by omega) w (tab_of_laid hL)
end Go.Proofs.YtheajimjmhocgaaDoor
