/- The walks of the laws of package masks. -/
import Derived.Test.YtheajimjmhocgaaDoorMasks6
import Derived.LaidMore
import Derived.Lib.LaidTab
import Derived.ProofKit
namespace Go.Proofs.YtheajimjmhocgaaDoor
open Go.RowKit

theorem gTab : Tryd.prog.globalNamed "math/bits.deBruijn64tab" = some 0 := by kernel_rfl
theorem tTab : (Tryd.prog.globals[0]?).map (·.type) = some 42 := by kernel_rfl
/-- What the condition gives the walks. -/
theorem tab_of_laid {W : World} (h : laidMetH Tryd.prog Rows.masksPacksRow.laid W) : TabD W := by
  rw [MakeChecks.laidMetH_plain _ _ _ (by kernel_rfl)] at h
  obtain ⟨ps, ⟨g0, t0, cs0, f0, p0, q0, hg0, ht0, hv0, hd0, _⟩, _⟩ := h
  obtain rfl := Option.some.inj (gTab.symm.trans hg0)
  obtain rfl := Option.some.inj (tTab.symm.trans ht0)
  have hc := Lib.cells_of_tab (k := .u8) (zs := tabD.map Int.ofNat) Tryd.underlying42 Tryd.underlying5 (by kernel_rfl) (by kernel_rfl) hd0
  intro i k hi
  have := World.var?_cell hg0 hv0 i
  rw [this, ← Array.getElem?_toList, hc]
  simp [hi]

set_option maxHeartbeats 800000 in
theorem lives_any (w : World) (hT : TabD w) :
    Calls Tryd.prog 13 #[] w fun e w' => e = .returned (.bool true) ∧ w = w' := by
  have p1 := pack_any 11 6 (by decide) (by decide) w
  have p2 := spread_any 3 10 (by decide) (by decide) w
  have p3 := pick_any 10 (by decide) 1 w
  have p4 := next_any 0 (by decide) 0 w hT
  rw [show (packS 11 6 64).1 = 1 by decide +kernel] at p1
  rw [show (spreadS 3 10 64).1 = 10 by decide +kernel] at p2
  rw [show firstW (pickF 10 1) 0 64 = 3 by decide +kernel] at p3
  rw [show firstW (fromF 0 0) 0 64 = 64 by decide +kernel] at p4
  have P1 := Lib.hid p1
  have P2 := Lib.hid p2
  have P3 := Lib.hid p3
  have P4 := Lib.hid p4
  clear p1 p2 p3 p4 hT
  go_enter Tryd.func13, Tryd.ntmps13
  go_wp2_with fail
  refine (P1.out).mono ?_
  rintro e w' ⟨rfl, rfl⟩
  go_wp2_with fail
  refine (P2.out).mono ?_
  rintro e w' ⟨rfl, rfl⟩
  go_wp2_with fail
  refine (P3.out).mono ?_
  rintro e w' ⟨rfl, rfl⟩
  go_wp2_with fail
  refine (P4.out).mono ?_
  rintro e w' ⟨rfl, rfl⟩
  go_wp2
  go_ret
  exact ⟨rfl, rfl⟩

set_option maxHeartbeats 1600000 in
theorem MasksRuns_any (x : Nat) (hx : x < 18446744073709551616) (a b : Int) (w : World) (hT : TabD w) :
    Calls Tryd.prog 8 #[.int .u64 (x : Int), .int .i64 a, .int .i64 b] w fun e w' => e = .returned (.bool true) ∧ w = w' := by
  have p1 := run_any a b w
  have p2 := rrun_any a b w
  have p3 := count_any x hx a b w
  have p4 := rcount_any x hx a b w
  have p5 := next_any x hx a w hT
  have p6 := rnext_any x hx a w
  have p7 := last_any x hx b w
  have p8 := rlast_any x hx b w
  generalize mkW (runF a b) 64 = v1 at p1 p2
  generalize cntW (inF x a b) 64 = v2 at p3 p4
  generalize firstW (fromF x a) 0 64 = v3 at p5 p6
  generalize lastW (belowF x b) 64 = v4 at p7 p8
  have P1 := Lib.hid p1
  have P2 := Lib.hid p2
  have P3 := Lib.hid p3
  have P4 := Lib.hid p4
  have P5 := Lib.hid p5
  have P6 := Lib.hid p6
  have P7 := Lib.hid p7
  have P8 := Lib.hid p8
  clear p1 p2 p3 p4 p5 p6 p7 p8
  have L := Lib.hid (lives_any w hT)
  clear hT
  go_enter Tryd.func8, Tryd.ntmps8
  go_wp2_with fail
  refine (P1.out).mono ?_
  rintro e w' ⟨rfl, rfl⟩
  go_wp2_with fail
  refine (P2.out).mono ?_
  rintro e w' ⟨rfl, rfl⟩
  go_wp2_with fail
  refine (P3.out).mono ?_
  rintro e w' ⟨rfl, rfl⟩
  go_wp2_with fail
  refine (P4.out).mono ?_
  rintro e w' ⟨rfl, rfl⟩
  go_wp2_with fail
  refine (P5.out).mono ?_
  rintro e w' ⟨rfl, rfl⟩
  go_wp2_with fail
  refine (P6.out).mono ?_
  rintro e w' ⟨rfl, rfl⟩
  go_wp2_with fail
  refine (P7.out).mono ?_
  rintro e w' ⟨rfl, rfl⟩
  go_wp2_with fail
  refine (P8.out).mono ?_
  rintro e w' ⟨rfl, rfl⟩
  go_wp2_with fail
  refine (L.out).mono ?_
  rintro e w' ⟨rfl, rfl⟩
  go_wp2
  go_ret
  exact ⟨rfl, rfl⟩

set_option maxHeartbeats 1600000 in
theorem MasksPicks_any (x : Nat) (hx : x < 18446744073709551616) (k : Int) (w : World) (hT : TabD w) :
    Calls Tryd.prog 6 #[.int .u64 (x : Int), .int .i64 k] w fun e w' => e = .returned (.bool true) ∧ w = w' := by
  have p1 := pick_any x hx k w
  have p2 := rpick_any x hx k w
  have p3 := turn_any x hx w
  have p4 := rturn_any x hx w
  have p5 := turn_any (turnS x 64) (turnS_lt x 64 (Nat.le_refl _)) w
  rw [turn_turn x hx] at p5
  generalize firstW (pickF x k) 0 64 = v1 at p1 p2
  generalize turnS x 64 = v2 at p3 p4 p5
  have P1 := Lib.hid p1
  have P2 := Lib.hid p2
  have P3 := Lib.hid p3
  have P4 := Lib.hid p4
  have P5 := Lib.hid p5
  clear p1 p2 p3 p4 p5
  have L := Lib.hid (lives_any w hT)
  clear hT
  go_enter Tryd.func6, Tryd.ntmps6
  go_wp2_with fail
  refine (P1.out).mono ?_
  rintro e w' ⟨rfl, rfl⟩
  go_wp2_with fail
  refine (P2.out).mono ?_
  rintro e w' ⟨rfl, rfl⟩
  go_wp2_with fail
  refine (P3.out).mono ?_
  rintro e w' ⟨rfl, rfl⟩
  go_wp2_with fail
  refine (P4.out).mono ?_
  rintro e w' ⟨rfl, rfl⟩
  go_wp2_with fail
  refine (P3.out).mono ?_
  rintro e w' ⟨rfl, rfl⟩
  go_wp2_with fail
  refine (P5.out).mono ?_
  rintro e w' ⟨rfl, rfl⟩
  go_wp2_with fail
  refine (L.out).mono ?_
  rintro e w' ⟨rfl, rfl⟩
  go_wp2
  go_ret
  exact ⟨rfl, rfl⟩

set_option maxHeartbeats 1600000 in
theorem MasksPacks_any (x m : Nat) (hx : x < 18446744073709551616) (hm : m < 18446744073709551616) (w : World) (hT : TabD w) :
    Calls Tryd.prog 3 #[.int .u64 (x : Int), .int .u64 (m : Int)] w fun e w' => e = .returned (.bool true) ∧ w = w' := by
  have p1 := pack_any x m hx hm w
  have p2 := rpack_any x m hx hm w
  have p3 := spread_any x m hx hm w
  have p4 := rspread_any x m hx hm w
  generalize (packS x m 64).1 = v1 at p1 p2
  generalize (spreadS x m 64).1 = v2 at p3 p4
  have P1 := Lib.hid p1
  have P2 := Lib.hid p2
  have P3 := Lib.hid p3
  have P4 := Lib.hid p4
  clear p1 p2 p3 p4
  have L := Lib.hid (lives_any w hT)
  clear hT
  go_enter Tryd.func3, Tryd.ntmps3
  go_wp2_with fail
  refine (P1.out).mono ?_
  rintro e w' ⟨rfl, rfl⟩
  go_wp2_with fail
  refine (P2.out).mono ?_
  rintro e w' ⟨rfl, rfl⟩
  go_wp2_with fail
  refine (P3.out).mono ?_
  rintro e w' ⟨rfl, rfl⟩
  go_wp2_with fail
  refine (P4.out).mono ?_
  rintro e w' ⟨rfl, rfl⟩
  go_wp2_with fail
  refine (L.out).mono ?_
  rintro e w' ⟨rfl, rfl⟩
  go_wp2
  go_ret
  exact ⟨rfl, rfl⟩

theorem pack_spread (x m : Nat) : (packS (spreadS x m 64).1 m 64).1 = x &&& mkW (runF 0 ((cntW (inF m 0 64) 64 : Nat) : Int)) 64 := by
  have hc : cntW (inF m 0 64) 64 = below m 64 := cntW_congr fun j hj => by unfold inF; simp; omega
  rw [hc]
  apply Nat.eq_of_testBit_eq
  intro k
  rw [Nat.testBit_and, testBit_mkW, Bool.eq_iff_iff, packS_bit]
  have hle : below m 64 ≤ 64 := cntW_le _ _
  simp only [Bool.and_eq_true, decide_eq_true_eq, runF]
  constructor
  · rintro ⟨j, hj, hb, hk, hs⟩
    rw [spreadS_bit, hb, hk] at hs
    simp only [Bool.and_eq_true, decide_eq_true_eq, true_and] at hs
    have := below_lt m hj hb
    exact ⟨hs.2, by omega, by omega, by omega⟩
  · rintro ⟨h1, h2, _, h3⟩
    obtain ⟨j, hj, hb, hbj⟩ := below_reach m (show k < below m 64 by omega)
    exact ⟨j, hj, hb, hbj, by rw [spreadS_bit, hb, hbj]; simp [hj, h1]⟩

theorem spread_pack (x m : Nat) (hm : m < 18446744073709551616) : (spreadS (packS x m 64).1 m 64).1 = x &&& m := by
  apply Nat.eq_of_testBit_eq
  intro j
  rw [spreadS_bit, Nat.testBit_and]
  by_cases hj : j < 64
  · by_cases hb : m.testBit j
    · simp only [hj, hb, decide_true, Bool.true_and, Bool.and_true]
      rw [Bool.eq_iff_iff, packS_bit]
      constructor
      · rintro ⟨i, hi, hbi, he, hx⟩
        have := below_inj m hbi hb he
        subst this; exact hx
      · intro hx; exact ⟨j, hj, hb, rfl, hx⟩
    · simp [hb]
  · rw [testBit_hi hm (by omega)]; simp

set_option maxHeartbeats 1600000 in
theorem MasksBack_any (x m : Nat) (hx : x < 18446744073709551616) (hm : m < 18446744073709551616) (w : World) (hT : TabD w) :
    Calls Tryd.prog 4 #[.int .u64 (x : Int), .int .u64 (m : Int)] w fun e w' => e = .returned (.bool true) ∧ w = w' := by
  have p1 := count_any m hm 0 64 w
  have p2 := run_any 0 ((cntW (inF m 0 64) 64 : Nat) : Int) w
  have hsl : (spreadS x m 64).1 < 18446744073709551616 := (spreadS_le x m 64).2
  have hpl : (packS x m 64).1 < 18446744073709551616 := (packS_le x m 64).2
  have p3 := spread_any x m hx hm w
  have p4 := pack_any (spreadS x m 64).1 m hsl hm w
  have p5 := pack_any x m hx hm w
  have p6 := spread_any (packS x m 64).1 m hpl hm w
  rw [pack_spread x m] at p4
  rw [spread_pack x m hm] at p6
  have e1 := u64_and_nat x (mkW (runF 0 ((cntW (inF m 0 64) 64 : Nat) : Int)) 64) hx (mkW_lt64 _ (Nat.le_refl _))
  have e2 := u64_and_nat x m hx hm
  generalize mkW (runF 0 ((cntW (inF m 0 64) 64 : Nat) : Int)) 64 = v2 at *
  generalize cntW (inF m 0 64) 64 = v1 at *
  generalize (spreadS x m 64).1 = v3 at *
  generalize (packS x m 64).1 = v4 at *
  generalize x &&& v2 = v5 at *
  generalize x &&& m = v6 at *
  have P1 := Lib.hid p1
  have P2 := Lib.hid p2
  have P3 := Lib.hid p3
  have P4 := Lib.hid p4
  have P5 := Lib.hid p5
  have P6 := Lib.hid p6
  clear p1 p2 p3 p4 p5 p6
  have L := Lib.hid (lives_any w hT)
  clear hT
  go_enter Tryd.func4, Tryd.ntmps4
  go_wp2_with fail
  refine (P1.out).mono ?_
  rintro e w' ⟨rfl, rfl⟩
  go_wp2_with fail
  refine (P2.out).mono ?_
  rintro e w' ⟨rfl, rfl⟩
  go_wp2_with fail
  refine (P3.out).mono ?_
  rintro e w' ⟨rfl, rfl⟩
  go_wp2_with fail
  refine (P4.out).mono ?_
  rintro e w' ⟨rfl, rfl⟩
  go_wp2_with fail
  refine (P5.out).mono ?_
  rintro e w' ⟨rfl, rfl⟩
  go_wp2_with fail
  refine (P6.out).mono ?_
  rintro e w' ⟨rfl, rfl⟩
  go_wp2_with fail
  refine (L.out).mono ?_
  rintro e w' ⟨rfl, rfl⟩
  go_wp2
  go_ret
  exact ⟨rfl, rfl⟩

set_option maxHeartbeats 1600000 in
theorem MasksRounds_any (n u : Int) (hn : n ≤ 9223372036854775807) (hu : u ≤ 9223372036854775807) (w : World) (hT : TabD w) :
    Calls Tryd.prog 7 #[.int .i64 n, .int .i64 u] w fun e w' => e = .returned (.bool true) ∧ w = w' := by
  have p1 := power_any n hn w
  have p2 := rpower_any n w
  have p3 := up_any n u hu w
  have p4 := rround_any n u true w
  have p5 := down_any n u hu w
  have p6 := rround_any n u false w
  generalize isPow n = v1 at *
  generalize roundS n u true = v2 at *
  generalize roundS n u false = v3 at *
  have P1 := Lib.hid p1
  have P2 := Lib.hid p2
  have P3 := Lib.hid p3
  have P4 := Lib.hid p4
  have P5 := Lib.hid p5
  have P6 := Lib.hid p6
  clear p1 p2 p3 p4 p5 p6
  have L := Lib.hid (lives_any w hT)
  clear hT
  go_enter Tryd.func7, Tryd.ntmps7
  go_wp2_with fail
  refine (P1.out).mono ?_
  rintro e w' ⟨rfl, rfl⟩
  go_wp2_with fail
  refine (P2.out).mono ?_
  rintro e w' ⟨rfl, rfl⟩
  go_wp2_with fail
  refine (P3.out).mono ?_
  rintro e w' ⟨rfl, rfl⟩
  go_wp2_with fail
  refine (P4.out).mono ?_
  rintro e w' ⟨rfl, rfl⟩
  go_wp2_with fail
  refine (P5.out).mono ?_
  rintro e w' ⟨rfl, rfl⟩
  go_wp2_with fail
  refine (P6.out).mono ?_
  rintro e w' ⟨rfl, rfl⟩
  go_wp2_with fail
  refine (L.out).mono ?_
  rintro e w' ⟨rfl, rfl⟩
  go_wp2
  go_ret
  exact ⟨rfl, rfl⟩

theorem same_fr {P : Program} {f : FuncId} {args : Array Value} {w : World} {v : Value} (h : Calls P f args w fun e w' => e = .returned v ∧ w = w') : Calls P f args w fun e w' => e = .returned v ∧ Fr (fun _ => False) w w' :=
  h.mono fun _ _ ⟨he, hw⟩ => ⟨he, by subst hw; exact Fr.refl _ _⟩
theorem nat_of_u64 {x : Int} (h : (Lit.int .u64 x).wf = true) : ∃ n : Nat, x = n ∧ n < 18446744073709551616 := by
  have := bounds_u64 h
  exact ⟨x.toNat, by omega, by omega⟩
theorem MasksRuns_of (x : Int) (hx : (Lit.int .u64 x).wf = true) (a : Int) (ha : (Lit.int .i64 a).wf = true) (b : Int) (hb : (Lit.int .i64 b).wf = true) (w : World) (hL : laidMetH Tryd.prog Rows.masksRunsRow.laid w) :
    Calls Tryd.prog 8 #[.int .u64 x, .int .i64 a, .int .i64 b] w fun e w' => e = .returned (.bool true) ∧ Fr (fun _ => False) w w' := by
  obtain ⟨x, rfl, gx⟩ := nat_of_u64 hx
  have ga := bounds_i64 ha
  have gb := bounds_i64 hb
  exact same_fr (MasksRuns_any x gx a b w (tab_of_laid hL))
theorem MasksPicks_of (x : Int) (hx : (Lit.int .u64 x).wf = true) (k : Int) (hk : (Lit.int .i64 k).wf = true) (w : World) (hL : laidMetH Tryd.prog Rows.masksPicksRow.laid w) :
    Calls Tryd.prog 6 #[.int .u64 x, .int .i64 k] w fun e w' => e = .returned (.bool true) ∧ Fr (fun _ => False) w w' := by
  obtain ⟨x, rfl, gx⟩ := nat_of_u64 hx
  have gk := bounds_i64 hk
  exact same_fr (MasksPicks_any x gx k w (tab_of_laid hL))
theorem MasksPacks_of (x : Int) (hx : (Lit.int .u64 x).wf = true) (m : Int) (hm : (Lit.int .u64 m).wf = true) (w : World) (hL : laidMetH Tryd.prog Rows.masksPacksRow.laid w) :
    Calls Tryd.prog 3 #[.int .u64 x, .int .u64 m] w fun e w' => e = .returned (.bool true) ∧ Fr (fun _ => False) w w' := by
  obtain ⟨x, rfl, gx⟩ := nat_of_u64 hx
  obtain ⟨m, rfl, gm⟩ := nat_of_u64 hm
  exact same_fr (MasksPacks_any x m gx gm w (tab_of_laid hL))
theorem MasksBack_of (x : Int) (hx : (Lit.int .u64 x).wf = true) (m : Int) (hm : (Lit.int .u64 m).wf = true) (w : World) (hL : laidMetH Tryd.prog Rows.masksBackRow.laid w) :
    Calls Tryd.prog 4 #[.int .u64 x, .int .u64 m] w fun e w' => e = .returned (.bool true) ∧ Fr (fun _ => False) w w' := by
  obtain ⟨x, rfl, gx⟩ := nat_of_u64 hx
  obtain ⟨m, rfl, gm⟩ := nat_of_u64 hm
  exact same_fr (MasksBack_any x m gx gm w (tab_of_laid hL))
theorem MasksRounds_of (n : Int) (hn : (Lit.int .i64 n).wf = true) (u : Int) (hu : (Lit.int .i64 u).wf = true) (w : World) (hL : laidMetH Tryd.prog Rows.masksRoundsRow.laid w) :
    Calls Tryd.prog 7 #[.int .i64 n, .int .i64 u] w fun e w' => e = .returned (.bool true) ∧ Fr (fun _ => False) w w' := by
  have gn := bounds_i64 hn
  have gu := bounds_i64 hu
  exact same_fr (MasksRounds_any n u gn.2 gu.2 w (tab_of_laid hL))
end Go.Proofs.YtheajimjmhocgaaDoor
