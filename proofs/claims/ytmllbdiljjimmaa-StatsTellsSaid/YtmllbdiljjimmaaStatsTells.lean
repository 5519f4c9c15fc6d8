/- The walk of the law StatsTells. -/
import Derived.Test.YtmllbdiljjimmaaStatsNobody
import Derived.Test.YtmllbdiljjimmaaFlat
namespace Go.Proofs.Ytmllbdiljjimmaa
open Go.RowKit

set_option maxRecDepth 100000 in
theorem mean2_zero (p : Option Addr) (cap : Nat) (w : World) : Calls Try.prog 52 #[.slice p 0 cap] w (NatPost w 9221120237041090560) := by
  go_enter Try.func52, Try.ntmps52
  go_wp2
  go_ret
  exact ⟨rfl, Fr.refl _ w⟩
theorem mean2_all (p : Option Addr) (len cap : Nat) (fs : List Nat) (w : World) (h : Words w p len fs) (hlen : len ≤ 1000000) : Calls Try.prog 52 #[.slice p len cap] w (NatPost w (meanF fs)) := by
  rcases Nat.eq_zero_or_pos len with h0 | h0
  · subst h0
    rw [List.eq_nil_of_length_eq_zero h.len, mean_nil]
    exact mean2_zero p cap w
  · exact mean2_any p len cap fs w h h0 hlen
theorem mean_perm {l m : List Nat} (h : l.Perm m) : meanF l = meanF m := by unfold meanF; rw [got_perm h, h.length_eq]
theorem kc_perm {l m : List Nat} (h : l.Perm m) (i : Nat) : kc l i = cnt (fun y => kindF y == i) m := cnt_perm _ h

theorem idx_five (c0 c1 c2 c3 c4 : Int) :
    (∀ w, (Instr.index 69 (.agg #[.int .i64 c0, .int .i64 c1, .int .i64 c2, .int .i64 c3, .int .i64 c4]) (.int .i64 0)).run Try.prog w = .ok (.int .i64 c0) w) ∧
    (∀ w, (Instr.index 69 (.agg #[.int .i64 c0, .int .i64 c1, .int .i64 c2, .int .i64 c3, .int .i64 c4]) (.int .i64 1)).run Try.prog w = .ok (.int .i64 c1) w) ∧
    (∀ w, (Instr.index 69 (.agg #[.int .i64 c0, .int .i64 c1, .int .i64 c2, .int .i64 c3, .int .i64 c4]) (.int .i64 2)).run Try.prog w = .ok (.int .i64 c2) w) ∧
    (∀ w, (Instr.index 69 (.agg #[.int .i64 c0, .int .i64 c1, .int .i64 c2, .int .i64 c3, .int .i64 c4]) (.int .i64 3)).run Try.prog w = .ok (.int .i64 c3) w) ∧
    (∀ w, (Instr.index 69 (.agg #[.int .i64 c0, .int .i64 c1, .int .i64 c2, .int .i64 c3, .int .i64 c4]) (.int .i64 4)).run Try.prog w = .ok (.int .i64 c4) w) := by
  have u3 := Try.underlying69
  have a3 := Try.isAgg3
  have z3 := Try.sizeOf3
  refine ⟨fun w => ?_, fun w => ?_, fun w => ?_, fun w => ?_, fun w => ?_⟩
  all_goals simp [Instr.index, asIntOf, run_underlying u3, part, a3, z3, go_sem]
/-- The kinds of a row. -/
theorem rkinds_row {W w : World} {b : Nat} {v : Value} {fs : List Nat} (h : RowB W w b v fs) (hl : fs.length ≤ 100000) : Calls Try.prog 48 #[.pointer (some ⟨b, 0, none⟩)] w (KPost w fs) := by
  obtain ⟨q, qc, hv, hf, _⟩ := flts_of_row h.2.1
  exact rkinds_of _ v q fs.length qc fs w (fun w' hf => all_any (h.keep hf)) hv hf hl
/-- What a row tells at a place, as its parts. -/
theorem pickV_parts (fs : List Nat) (k : Int) : ∃ x e : Nat, pickV fs k = .tuple #[.float .f64 x, .int .i64 (e : Int)] ∧ ((0 ≤ k ∧ k < fs.length) → x = fs.getD k.toNat 0 ∧ e = 0) ∧ (¬ (0 ≤ k ∧ k < fs.length) → x = 0 ∧ e = 6) := by
  unfold pickV
  by_cases h : 0 ≤ k ∧ k < fs.length
  · rw [if_pos h]; exact ⟨_, 0, rfl, fun _ => ⟨rfl, rfl⟩, fun h' => absurd h h'⟩
  · rw [if_neg h]; exact ⟨0, 6, rfl, fun h' => absurd h' h, fun _ => ⟨rfl, rfl⟩⟩

set_option maxRecDepth 100000 in
set_option maxHeartbeats 6400000 in
theorem StatsTells_any (p : Option Addr) (len cap : Nat) (l : List Nat) (k : Int) (q0 q1 : Nat) (hq0 : q0 < 18446744073709551616) (hq1 : q1 < 18446744073709551616) (W : World) (h : Words W p len l) :
    Calls Try.prog 13 #[.slice p len cap, .int .i64 k, .agg #[.int .u64 (q0 : Int), .int .u64 (q1 : Int)]] W (LawPost W) := by
  have HL := Lib.hid lives35_any
  by_cases h80 : 80 < len
  · have hi : (80 : Int) < len := by omega
    have HF0 : Hid (Fr (fun _ => False) W (W.alloc (.cells #[.int .u64 (q0 : Int), .int .u64 (q1 : Int)] 76))) := (Fr.refl _ W).alloc _
    clear h h80
    go_enter Try.func13, Try.ntmps13
    go_wp2_with fail
    refine (HL.out _).mono ?_
    rintro e w1 ⟨rfl, hf⟩
    have HF := Lib.hid (HF0.out.then hf)
    clear hf
    go_wp2
    go_ret
    exact ⟨rfl, HF.out⟩
  have hi : (len : Int) ≤ 80 := by omega
  have HLE : Hid (len ≤ 80) := Nat.le_of_not_lt h80
  have HW := Lib.hid h
  have HQ := Lib.hid (And.intro hq0 hq1)
  clear h h80 hq0 hq1
  go_enter Try.func13, Try.ntmps13
  go_upto_region 1 with fail
  have hb0 := Blk.new W [.int .u64 (q0 : Int), .int .u64 (q1 : Int)] 76
  have hf0 : Fr (fun _ => False) W (W.alloc (.cells #[.int .u64 (q0 : Int), .int .u64 (q1 : Int)] 76)) := (Fr.refl _ W).alloc _
  change Blk (W.alloc (.cells #[.int .u64 (q0 : Int), .int .u64 (q1 : Int)] 76)) _ _ _ at hb0
  generalize W.alloc (.cells #[.int .u64 (q0 : Int), .int .u64 (q1 : Int)] 76) = w0 at *
  have HB0 := Lib.hid hb0
  have HF0 := Lib.hid hf0
  have HRO := Lib.hid (rowof_any p len cap l w0 (HW.out.frame hf0) (by have := HLE.out; omega))
  generalize W.heap.size = B at *
  clear hb0 hf0
  go_wp2_with fail
  refine (HRO.out).mono ?_
  rintro e w1 ⟨b, v, rfl, hrow⟩
  have HR : Hid (∀ w', Fr (fun _ => False) w1 w' → RowB w0 w' b v (isort l)) := fun w' hf => hrow.keep hf
  have HWW : Hid (∀ w', Fr (fun _ => False) w1 w' → Words w' p len l) := fun w' hf => (HW.out.frame (HF0.out.then hrow.2.1.2.2.2)).frame hf
  have HBB : Hid (∀ w', Fr (fun _ => False) w1 w' → Blk w' B [.int .u64 (q0 : Int), .int .u64 (q1 : Int)] 76) := fun w' hf => (HB0.out.frame hrow.2.1.2.2.2 (fun h => h)).frame hf (fun h => h)
  have HFW : Hid (Fr (fun _ => False) W w1) := HF0.out.then hrow.2.1.2.2.2
  have hfl : (isort l).length = len := by rw [isort_len, HW.out.len]
  have HFL := Lib.hid hfl
  have HLOW : Hid (Low l) := HW.out.2
  clear hrow HRO HB0 HF0 hfl HW
  -- what is told of the whole
  have HLEN : Hid (∀ w', Fr (fun _ => False) w1 w' → Calls Try.prog 51 #[.pointer (some ⟨b, 0, none⟩)] w' (OneInt2 w' len)) := fun w' hf => by
    have := rlen_any (HR.out w' hf)
    rwa [HFL.out] at this
  have HSUM : Hid (∀ w', Fr (fun _ => False) w1 w' → Calls Try.prog 46 #[.pointer (some ⟨b, 0, none⟩)] w' (FPost w' (Got.of l).whole)) := fun w' hf => by
    have := rsum_any (HR.out w' hf) (by rw [HFL.out]; have := HLE.out; omega)
    rwa [got_perm (isort_perm l)] at this
  have HSUM2 : Hid (∀ w', Fr (fun _ => False) w1 w' → Calls Try.prog 23 #[.slice p len cap] w' (NatPost w' (Got.of l).whole)) := fun w' hf => by
    have := rwhole_any p len cap l w' (HWW.out w' hf) (by have := HLE.out; omega)
    rwa [← whole_same l HLOW.out] at this
  have HMEAN : Hid (∀ w', Fr (fun _ => False) w1 w' → Calls Try.prog 47 #[.pointer (some ⟨b, 0, none⟩)] w' (FPost w' (meanF l))) := fun w' hf => by
    have := rmean_any (HR.out w' hf) (by rw [HFL.out]; have := HLE.out; omega)
    rwa [mean_perm (isort_perm l)] at this
  have HMEAN2 : Hid (∀ w', Fr (fun _ => False) w1 w' → Calls Try.prog 52 #[.slice p len cap] w' (NatPost w' (meanF l))) := fun w' hf => mean2_all p len cap l w' (HWW.out w' hf) (by have := HLE.out; omega)
  generalize (Got.of l).whole = V1 at *
  generalize meanF l = V2 at *
  have HX1 := Lib.hid (bits_any V1)
  have HX2 := Lib.hid (bits_any V2)
  have HR1 : Hid (Fr (fun _ => False) w1 w1) := Fr.refl _ w1
  go_wp2_with fail
  refine (HLEN.out _ HR1.out).mono ?_
  rintro e w' ⟨rfl, rfl⟩
  go_wp2_with fail
  refine (HSUM.out _ HR1.out).mono ?_
  rintro e w2 ⟨rfl, hf2⟩
  have HF2 := Lib.hid hf2
  clear hf2
  go_wp2_with fail
  refine (HX1.out _).mono ?_
  rintro e w' ⟨rfl, rfl⟩
  go_wp2_with fail
  refine (HSUM2.out _ HF2.out).mono ?_
  rintro e w3 ⟨rfl, hf3⟩
  have HF3 := Lib.hid (HF2.out.then hf3)
  clear hf3 HF2
  go_wp2_with fail
  refine (HMEAN.out _ HF3.out).mono ?_
  rintro e w4 ⟨rfl, hf4⟩
  have HF4 := Lib.hid (HF3.out.then hf4)
  clear hf4 HF3
  go_wp2_with fail
  refine (HX2.out _).mono ?_
  rintro e w' ⟨rfl, rfl⟩
  go_wp2_with fail
  refine (HMEAN2.out _ HF4.out).mono ?_
  rintro e w5 ⟨rfl, hf5⟩
  have HF5 := Lib.hid (HF4.out.then hf5)
  clear hf5 HF4 HSUM HSUM2 HMEAN HMEAN2 HX1 HX2 HLEN
  -- the k-th
  have hll : l.length = len := by rw [← HFL.out, isort_len]
  have hlaw := pick_law HLOW.out
  have HP1 : Hid (∀ j, Calls Try.prog 49 #[.pointer (some ⟨b, 0, none⟩), .int .i64 j] w5 (OneVal w5 (pickV (isort l) j))) := fun j => rpick_any (HR.out _ HF5.out) (by rw [HFL.out]; have := HLE.out; omega) j
  have HP2 : Hid (∀ j, Calls Try.prog 53 #[.slice p len cap, .int .i64 j] w5 (PickPost w5 (pickR l j))) := fun j => pick2_any p len cap l w5 (HWW.out _ HF5.out) (by have := HLE.out; omega) j
  have HM := Lib.hid (rmid_any (HR.out _ HF5.out) (by rw [HFL.out]; have := HLE.out; omega))
  have hpick : ∀ j : Int, ∃ (x : Nat) (is : Bool), pickV (isort l) j = .tuple #[.float .f64 x, .int .i64 (if is then 0 else 6)] ∧ (pickR l j).getD 0 = x ∧ (pickR l j).isSome = is := fun j => by
    rw [hlaw j]
    unfold pickV
    rw [HFL.out, hll]
    by_cases hj : 0 ≤ j ∧ j < (len : Int)
    · rw [if_pos hj, if_pos hj]; exact ⟨_, true, rfl, rfl, rfl⟩
    · rw [if_neg hj, if_neg hj]; exact ⟨0, false, rfl, rfl, rfl⟩
  obtain ⟨x, is, hv1, hv2, hv3⟩ := hpick k
  obtain ⟨y, iy, hy1, hy2, hy3⟩ := hpick (((len - 1) / 2 : Nat) : Int)
  have hp1 := HP1.out k
  have hp2 := HP2.out k
  have hp3 := HP2.out (((len - 1) / 2 : Nat) : Int)
  have hm := HM.out
  rw [HFL.out] at hm
  unfold PickPost at hp2 hp3
  rw [hv1] at hp1
  rw [hv2, hv3] at hp2
  rw [hy1] at hm
  rw [hy2, hy3] at hp3
  have HPA := Lib.hid hp1
  have HPB := Lib.hid hp2
  have HPC := Lib.hid hp3
  have HMM := Lib.hid hm
  have HXX := Lib.hid (bits_any x w5)
  have HXY := Lib.hid (bits_any y w5)
  have hmid : ((len : Int) - 1).tdiv 2 = (((len - 1) / 2 : Nat) : Int) := by
    rcases Nat.eq_zero_or_pos len with h0 | h0
    · subst h0; rfl
    · rw [Int.tdiv_eq_ediv_of_nonneg (by omega)]; omega
  have hmid2 : 1 ≤ (len : Int) → ((len : Int) - 1) / 2 = (((len - 1) / 2 : Nat) : Int) := fun h => by omega
  have HMD := Lib.hid hmid
  generalize (len - 1) / 2 = mid at *
  clear hp1 hp2 hp3 hm hv1 hv2 hv3 hy1 hy2 hy3 hpick HP1 HP2 HM hlaw hmid2
  clear hmid
  have HLAST : Hid (∀ w', Fr (fun _ => False) w5 w' → Words w' p len l) := fun w' hf => HWW.out w' (HF5.out.then hf)
  have HLL := Lib.hid hll
  clear hll
  have hlo := HLOW.out
  have hperm := isort_perm l
  have hss := isort_sort l
  have hll := HLL.out
  have hle := HLE.out
  -- kinds
  obtain ⟨c0, hc0⟩ : ∃ c, cnt (fun y => kindF y == 0) l = c := ⟨_, rfl⟩
  obtain ⟨c1, hc1⟩ : ∃ c, cnt (fun y => kindF y == 1) l = c := ⟨_, rfl⟩
  obtain ⟨c2, hc2⟩ : ∃ c, cnt (fun y => kindF y == 2) l = c := ⟨_, rfl⟩
  obtain ⟨c3, hc3⟩ : ∃ c, cnt (fun y => kindF y == 3) l = c := ⟨_, rfl⟩
  obtain ⟨c4, hc4⟩ : ∃ c, cnt (fun y => kindF y == 4) l = c := ⟨_, rfl⟩
  have HKS : Hid (Calls Try.prog 48 #[.pointer (some ⟨b, 0, none⟩)] w5 fun e w' => e = .returned (.agg #[.int .i64 (c0 : Int), .int .i64 (c1 : Int), .int .i64 (c2 : Int), .int .i64 (c3 : Int), .int .i64 (c4 : Int)]) ∧ Fr (fun _ => False) w5 w') := by
    have := rkinds_row (HR.out w5 HF5.out) (by rw [HFL.out]; omega)
    unfold KPost kcells at this
    rw [kc_perm hperm, kc_perm hperm, kc_perm hperm, kc_perm hperm, kc_perm hperm, hc0, hc1, hc2, hc3, hc4] at this
    exact this
  have HK0 : Hid (∀ w', Fr (fun _ => False) w5 w' → Calls Try.prog 55 #[.slice p len cap, .int .i64 0] w' (OneInt2 w' c0)) := fun w' hf => by
    have := kind35_any p len cap l w' (HLAST.out w' hf) (by omega) 0
    rwa [hc0] at this
  have HK1 : Hid (∀ w', Fr (fun _ => False) w5 w' → Calls Try.prog 55 #[.slice p len cap, .int .i64 1] w' (OneInt2 w' c1)) := fun w' hf => by
    have := kind35_any p len cap l w' (HLAST.out w' hf) (by omega) 1
    rwa [hc1] at this
  have HK2 : Hid (∀ w', Fr (fun _ => False) w5 w' → Calls Try.prog 55 #[.slice p len cap, .int .i64 2] w' (OneInt2 w' c2)) := fun w' hf => by
    have := kind35_any p len cap l w' (HLAST.out w' hf) (by omega) 2
    rwa [hc2] at this
  have HK3 : Hid (∀ w', Fr (fun _ => False) w5 w' → Calls Try.prog 55 #[.slice p len cap, .int .i64 3] w' (OneInt2 w' c3)) := fun w' hf => by
    have := kind35_any p len cap l w' (HLAST.out w' hf) (by omega) 3
    rwa [hc3] at this
  have HK4 : Hid (∀ w', Fr (fun _ => False) w5 w' → Calls Try.prog 55 #[.slice p len cap, .int .i64 4] w' (OneInt2 w' c4)) := fun w' hf => by
    have := kind35_any p len cap l w' (HLAST.out w' hf) (by omega) 4
    rwa [hc4] at this
  clear hc0 hc1 hc2 hc3 hc4
  -- ranks
  have hA : rankA (isort l) q0 = cnt (fun x => aheadF x q0) l := cnt_perm _ hperm
  have hU : rankU (isort l) q0 = cnt (fun x => aheadF x q0) l + cnt (fun y => y == q0) l := by
    have : rankU (isort l) q0 = rankU l q0 := cnt_perm _ hperm
    rw [this, rank_two hlo q0 HQ.out.1]; rfl
  have hU1 : rankU (isort l) q1 = cnt (fun x => !aheadF q1 x) l := cnt_perm _ hperm
  have hAl : cnt (fun x => aheadF x q0) l ≤ 80 := by have := cnt_le (fun x => aheadF x q0) l; omega
  have hUl : cnt (fun y => y == q0) l ≤ 80 := by have := cnt_le (fun y => y == q0) l; omega
  have hBl : cnt (fun y => !aheadF y q0 && !aheadF q1 y) l ≤ 80 := by have := cnt_le (fun y => !aheadF y q0 && !aheadF q1 y) l; omega
  have HAH : Hid (∀ w', Fr (fun _ => False) w5 w' → Calls Try.prog 56 #[.slice p len cap, .int .u64 (q0 : Int)] w' (OneInt2 w' (cnt (fun x => aheadF x q0) l))) := fun w' hf => ahead2_any p len cap l w' (HLAST.out w' hf) (by omega) q0 HQ.out.1
  have HEQ : Hid (∀ w', Fr (fun _ => False) w5 w' → Calls Try.prog 57 #[.slice p len cap, .int .u64 (q0 : Int)] w' (OneInt2 w' (cnt (fun y => y == q0) l))) := fun w' hf => equal2_any p len cap l w' (HLAST.out w' hf) (by omega) q0
  have HB2 : Hid (∀ w', Fr (fun _ => False) w5 w' → Calls Try.prog 59 #[.slice p len cap, .int .u64 (q0 : Int), .int .u64 (q1 : Int)] w' (OneInt2 w' (cnt (fun y => !aheadF y q0 && !aheadF q1 y) l))) := fun w' hf => between2_any p len cap l w' (HLAST.out w' hf) (by omega) q0 q1 HQ.out.1 HQ.out.2
  have hra : ∀ w', Fr (fun _ => False) w5 w' → ∀ q, q < 18446744073709551616 → Calls Try.prog 50 #[.pointer (some ⟨b, 0, none⟩), .float .f64 q] w' (TwoP w' (rankA (isort l) q) (rankU (isort l) q)) := fun w' hf q hq => ranks_any (HR.out w' (HF5.out.then hf)) hss (by rw [HFL.out]; omega) q hq
  have HRA : Hid (∀ w', Fr (fun _ => False) w5 w' → Calls Try.prog 50 #[.pointer (some ⟨b, 0, none⟩), .float .f64 q0] w' fun e w'' => e = .returned (.tuple #[.int .i64 ((cnt (fun x => aheadF x q0) l : Nat) : Int), .int .i64 (((cnt (fun x => aheadF x q0) l : Nat) : Int) + ((cnt (fun y => y == q0) l : Nat) : Int))]) ∧ Fr (fun _ => False) w' w'') := fun w' hf => by
    have := hra w' hf q0 HQ.out.1
    rw [hA, hU] at this
    unfold TwoP at this
    rwa [Int.natCast_add] at this
  have HBT : Hid (∀ w', Fr (fun _ => False) w5 w' → Calls Try.prog 58 #[.pointer (some ⟨b, 0, none⟩), .float .f64 q0, .float .f64 q1] w' (IntP w' (cnt (fun y => !aheadF y q0 && !aheadF q1 y) l))) := fun w' hf => by
    have := rbetw_of (.pointer (some ⟨b, 0, none⟩)) q0 q1 _ _ _ _ (by rw [hU1]; have := cnt_le (fun x => !aheadF q1 x) l; omega) (by rw [hA]; omega) w' (hra w' hf q0 HQ.out.1) (fun w'' hf' => hra w'' (hf.then hf') q1 HQ.out.2)
    rw [hU1, hA, ← betw_law l q0 q1] at this
    exact this
  generalize cnt (fun x => aheadF x q0) l = A at *
  generalize cnt (fun y => y == q0) l = E at *
  generalize cnt (fun y => !aheadF y q0 && !aheadF q1 y) l = X at *
  have hAi : (A : Int) ≤ 80 := by omega
  have hEi : (E : Int) ≤ 80 := by omega
  have hwr : IntKind.i64.wrap ((A : Int) + (E : Int)) = (A : Int) + (E : Int) := by rw [IntKind.wrap_i64]; omega
  have HC0 : Hid (∀ w', Fr (fun _ => False) w5 w' → w'.cell? ⟨B, 0, none⟩ = some (.int .u64 (q0 : Int))) := fun w' hf => (HBB.out w' (HF5.out.then hf)).cell 0 rfl
  have HC1 : Hid (∀ w', Fr (fun _ => False) w5 w' → w'.cell? ⟨B, 1, none⟩ = some (.int .u64 (q1 : Int))) := fun w' hf => (HBB.out w' (HF5.out.then hf)).cell 1 rfl
  have HO0 := Lib.hid (of_any q0)
  have HO1 := Lib.hid (of_any q1)
  have HFW5 : Hid (Fr (fun _ => False) W w5) := HFW.out.then HF5.out
  clear hA hU hU1 hAl hUl hBl hra hlo hperm hss hll hle HLL HLOW HFL HR HWW HBB HFW HR1 HF5 HLAST HLE HQ
  rcases is with _ | _ <;> rcases iy with _ | _
  all_goals
    go_wp2_with fail
    refine (HPA.out).mono ?_
    rintro e w' ⟨rfl, rfl⟩
    go_wp2_with fail
    refine (HPB.out).mono ?_
    rintro e w' ⟨rfl, rfl⟩
    go_wp2_with fail
    refine (HXX.out).mono ?_
    rintro e w' ⟨rfl, rfl⟩
    clear HPA HPB HXX
    go_wp2_with fail
    refine (HMM.out).mono ?_
    rintro e w' ⟨rfl, rfl⟩
    clear HMM
    go_wp2_with fail
    rw [HMD.out]
    refine (HPC.out).mono ?_
    rintro e w' ⟨rfl, rfl⟩
    clear HPC HMD
    go_wp2_with fail
    refine (HXY.out).mono ?_
    rintro e w' ⟨rfl, rfl⟩
    clear HXY
    go_wp2_with fail
    refine (HKS.out).mono ?_
    rintro e w6 ⟨rfl, hf6⟩
    have HF6 := Lib.hid hf6
    clear hf6 HKS
    go_wp2_with fail
    go_loop [103] (fun v => ∃ i : Nat, i ≤ 5 ∧ v = .int .i64 (i : Int)) (fun v => 5 - (intOf v).toNat)
    case atStart => exact ⟨0, by omega, rfl⟩
    case round =>
      obtain ⟨i, hi5, rfl⟩ := hrel
      by_cases hlt : i < 5
      · have hk0 := HK0.out _ HF6.out
        have hk1 := HK1.out _ HF6.out
        have hk2 := HK2.out _ HF6.out
        have hk3 := HK3.out _ HF6.out
        have hk4 := HK4.out _ HF6.out
        have HH0 := Lib.hid hk0
        have HH1 := Lib.hid hk1
        have HH2 := Lib.hid hk2
        have HH3 := Lib.hid hk3
        have HH4 := Lib.hid hk4
        clear hk0 hk1 hk2 hk3 hk4
        rcases (show i = 0 ∨ i = 1 ∨ i = 2 ∨ i = 3 ∨ i = 4 by omega) with rfl | rfl | rfl | rfl | rfl
        · clear hlt hi5
          have hix := (idx_five (c0 : Int) (c1 : Int) (c2 : Int) (c3 : Int) (c4 : Int)).1
          go_wp2_with fail
          refine (HH0.out).mono ?_
          rintro e w' ⟨rfl, rfl⟩
          go_wp2
          go_round
          case rel => exact ⟨1, by decide, rfl⟩
          case measure => simp [intOf]
        · clear hlt hi5
          have hix := (idx_five (c0 : Int) (c1 : Int) (c2 : Int) (c3 : Int) (c4 : Int)).2.1
          go_wp2_with fail
          refine (HH1.out).mono ?_
          rintro e w' ⟨rfl, rfl⟩
          go_wp2
          go_round
          case rel => exact ⟨2, by decide, rfl⟩
          case measure => simp [intOf]
        · clear hlt hi5
          have hix := (idx_five (c0 : Int) (c1 : Int) (c2 : Int) (c3 : Int) (c4 : Int)).2.2.1
          go_wp2_with fail
          refine (HH2.out).mono ?_
          rintro e w' ⟨rfl, rfl⟩
          go_wp2
          go_round
          case rel => exact ⟨3, by decide, rfl⟩
          case measure => simp [intOf]
        · clear hlt hi5
          have hix := (idx_five (c0 : Int) (c1 : Int) (c2 : Int) (c3 : Int) (c4 : Int)).2.2.2.1
          go_wp2_with fail
          refine (HH3.out).mono ?_
          rintro e w' ⟨rfl, rfl⟩
          go_wp2
          go_round
          case rel => exact ⟨4, by decide, rfl⟩
          case measure => simp [intOf]
        · clear hlt hi5
          have hix := (idx_five (c0 : Int) (c1 : Int) (c2 : Int) (c3 : Int) (c4 : Int)).2.2.2.2
          go_wp2_with fail
          refine (HH4.out).mono ?_
          rintro e w' ⟨rfl, rfl⟩
          go_wp2
          go_round
          case rel => exact ⟨5, by decide, rfl⟩
          case measure => simp [intOf]
      · obtain rfl : i = 5 := by omega
        clear hi5 hlt
        have hc0 := HC0.out _ HF6.out
        go_wp2_with fail
        refine (HO0.out _).mono ?_
        rintro e w' ⟨rfl, rfl⟩
        go_wp2_with fail
        refine (HRA.out _ HF6.out).mono ?_
        rintro e w7 ⟨rfl, hf7⟩
        have HF7 := Lib.hid (HF6.out.then hf7)
        clear hf7 HF6 hc0
        have HC07 : Hid (∀ w', Fr (fun _ => False) w7 w' → w'.cell? ⟨B, 0, none⟩ = some (.int .u64 (q0 : Int))) := fun w' hf => HC0.out w' (HF7.out.then hf)
        have HC17 : Hid (∀ w', Fr (fun _ => False) w7 w' → w'.cell? ⟨B, 1, none⟩ = some (.int .u64 (q1 : Int))) := fun w' hf => HC1.out w' (HF7.out.then hf)
        have HAH7 : Hid (∀ w', Fr (fun _ => False) w7 w' → Calls Try.prog 56 #[.slice p len cap, .int .u64 (q0 : Int)] w' (OneInt2 w' A)) := fun w' hf => HAH.out w' (HF7.out.then hf)
        have HEQ7 : Hid (∀ w', Fr (fun _ => False) w7 w' → Calls Try.prog 57 #[.slice p len cap, .int .u64 (q0 : Int)] w' (OneInt2 w' E)) := fun w' hf => HEQ.out w' (HF7.out.then hf)
        have HB27 : Hid (∀ w', Fr (fun _ => False) w7 w' → Calls Try.prog 59 #[.slice p len cap, .int .u64 (q0 : Int), .int .u64 (q1 : Int)] w' (OneInt2 w' X)) := fun w' hf => HB2.out w' (HF7.out.then hf)
        have HBT7 : Hid (∀ w', Fr (fun _ => False) w7 w' → Calls Try.prog 58 #[.pointer (some ⟨b, 0, none⟩), .float .f64 q0, .float .f64 q1] w' (IntP w' X)) := fun w' hf => HBT.out w' (HF7.out.then hf)
        have HO07 : Hid (∀ w', Fr (fun _ => False) w7 w' → Calls Try.prog 26 #[.int .u64 (q0 : Int)] w' fun e w'' => e = .returned (.float .f64 q0) ∧ w' = w'') := fun w' _ => HO0.out w'
        have HO17 : Hid (∀ w', Fr (fun _ => False) w7 w' → Calls Try.prog 26 #[.int .u64 (q1 : Int)] w' fun e w'' => e = .returned (.float .f64 q1) ∧ w' = w'') := fun w' _ => HO1.out w'
        have HL7 : Hid (∀ w', Fr (fun _ => False) w7 w' → Calls Try.prog 44 #[] w' (BPost w' true)) := fun w' _ => HL.out w'
        clear HC0 HC1 HAH HEQ HB2 HBT HO0 HO1 HL HK0 HK1 HK2 HK3 HK4 HRA
        go_upto_region 21 with fail
        refine region_class_all (fun w' => Fr (fun _ => False) w7 w') (by kernel_rfl) (by kernel_rfl) (Fr.refl _ w7).drew ?_
        refine quiet_runG (.int .i64 (A : Int)) (by rfl) (fun w hw => by go_simp) ?_
        try simp only [Act.put, List.setIfInBounds_toArray, List.set_cons_zero, List.set_cons_succ]
        refine quiet_runG (.slice p len cap) (by rfl) (fun w hw => by go_simp) ?_
        try simp only [Act.put, List.setIfInBounds_toArray, List.set_cons_zero, List.set_cons_succ]
        refine quiet_runG (.pointer (some ⟨B, 0, none⟩)) (by rfl) (fun w hw => by go_simp) ?_
        try simp only [Act.put, List.setIfInBounds_toArray, List.set_cons_zero, List.set_cons_succ]
        refine quiet_runG (.int .u64 (q0 : Int)) (by rfl) (fun w hw => by have hq := HC07.out w hw; clear hw; go_simp) ?_
        try simp only [Act.put, List.setIfInBounds_toArray, List.set_cons_zero, List.set_cons_succ]
        refine quiet_callG (.int .i64 (A : Int)) 56 #[.slice p len cap, .int .u64 (q0 : Int)] (by rfl) (fun w => by go_simp) (fun w hw => (HAH7.out w hw).mono fun e w' h => ⟨h.1, h.2 ▸ hw⟩) ?_
        try simp only [Act.put, List.setIfInBounds_toArray, List.set_cons_zero, List.set_cons_succ]
        refine quiet_runG (.bool true) (by rfl) (fun w hw => by go_simp) ?_
        try simp only [Act.put, List.setIfInBounds_toArray, List.set_cons_zero, List.set_cons_succ]
        refine quiet_runG (.bool true) (by rfl) (fun w hw => by go_simp) ?_
        try simp only [Act.put, List.setIfInBounds_toArray, List.set_cons_zero, List.set_cons_succ]
        refine quiet_runG (.int .i64 ((A : Int) + (E : Int))) (by rfl) (fun w hw => by go_simp) ?_
        try simp only [Act.put, List.setIfInBounds_toArray, List.set_cons_zero, List.set_cons_succ]
        refine quiet_runG (.int .i64 (A : Int)) (by rfl) (fun w hw => by go_simp) ?_
        try simp only [Act.put, List.setIfInBounds_toArray, List.set_cons_zero, List.set_cons_succ]
        refine quiet_runG (.slice p len cap) (by rfl) (fun w hw => by go_simp) ?_
        try simp only [Act.put, List.setIfInBounds_toArray, List.set_cons_zero, List.set_cons_succ]
        refine quiet_runG (.pointer (some ⟨B, 0, none⟩)) (by rfl) (fun w hw => by go_simp) ?_
        try simp only [Act.put, List.setIfInBounds_toArray, List.set_cons_zero, List.set_cons_succ]
        refine quiet_runG (.int .u64 (q0 : Int)) (by rfl) (fun w hw => by have hq := HC07.out w hw; clear hw; go_simp) ?_
        try simp only [Act.put, List.setIfInBounds_toArray, List.set_cons_zero, List.set_cons_succ]
        refine quiet_callG (.int .i64 (E : Int)) 57 #[.slice p len cap, .int .u64 (q0 : Int)] (by rfl) (fun w => by go_simp) (fun w hw => (HEQ7.out w hw).mono fun e w' h => ⟨h.1, h.2 ▸ hw⟩) ?_
        try simp only [Act.put, List.setIfInBounds_toArray, List.set_cons_zero, List.set_cons_succ]
        refine quiet_runG (.int .i64 ((A : Int) + (E : Int))) (by rfl) (fun w hw => by go_simp) ?_
        try simp only [Act.put, List.setIfInBounds_toArray, List.set_cons_zero, List.set_cons_succ]
        refine quiet_runG (.bool true) (by rfl) (fun w hw => by go_simp) ?_
        try simp only [Act.put, List.setIfInBounds_toArray, List.set_cons_zero, List.set_cons_succ]
        refine quiet_runG (.bool true) (by rfl) (fun w hw => by go_simp) ?_
        try simp only [Act.put, List.setIfInBounds_toArray, List.set_cons_zero, List.set_cons_succ]
        refine quiet_runG (.bool true) (by rfl) (fun w hw => by go_simp) ?_
        try simp only [Act.put, List.setIfInBounds_toArray, List.set_cons_zero, List.set_cons_succ]
        refine quiet_runG (.pointer (some ⟨b, 0, none⟩)) (by rfl) (fun w hw => by go_simp) ?_
        try simp only [Act.put, List.setIfInBounds_toArray, List.set_cons_zero, List.set_cons_succ]
        refine quiet_runG (.pointer (some ⟨B, 0, none⟩)) (by rfl) (fun w hw => by go_simp) ?_
        try simp only [Act.put, List.setIfInBounds_toArray, List.set_cons_zero, List.set_cons_succ]
        refine quiet_runG (.int .u64 (q0 : Int)) (by rfl) (fun w hw => by have hq := HC07.out w hw; clear hw; go_simp) ?_
        try simp only [Act.put, List.setIfInBounds_toArray, List.set_cons_zero, List.set_cons_succ]
        refine quiet_callG (.float .f64 q0) 26 #[.int .u64 (q0 : Int)] (by rfl) (fun w => by go_simp) (fun w hw => (HO07.out w hw).mono fun e w' h => ⟨h.1, h.2 ▸ hw⟩) ?_
        try simp only [Act.put, List.setIfInBounds_toArray, List.set_cons_zero, List.set_cons_succ]
        refine quiet_runG (.pointer (some ⟨B, 1, none⟩)) (by rfl) (fun w hw => by go_simp) ?_
        try simp only [Act.put, List.setIfInBounds_toArray, List.set_cons_zero, List.set_cons_succ]
        refine quiet_runG (.int .u64 (q1 : Int)) (by rfl) (fun w hw => by have hq := HC17.out w hw; clear hw; go_simp) ?_
        try simp only [Act.put, List.setIfInBounds_toArray, List.set_cons_zero, List.set_cons_succ]
        refine quiet_callG (.float .f64 q1) 26 #[.int .u64 (q1 : Int)] (by rfl) (fun w => by go_simp) (fun w hw => (HO17.out w hw).mono fun e w' h => ⟨h.1, h.2 ▸ hw⟩) ?_
        try simp only [Act.put, List.setIfInBounds_toArray, List.set_cons_zero, List.set_cons_succ]
        refine quiet_callG (.int .i64 (X : Int)) 58 #[.pointer (some ⟨b, 0, none⟩), .float .f64 q0, .float .f64 q1] (by rfl) (fun w => by go_simp) (fun w hw => (HBT7.out w hw).mono fun e w' h => ⟨h.1, hw.then h.2⟩) ?_
        try simp only [Act.put, List.setIfInBounds_toArray, List.set_cons_zero, List.set_cons_succ]
        refine quiet_runG (.slice p len cap) (by rfl) (fun w hw => by go_simp) ?_
        try simp only [Act.put, List.setIfInBounds_toArray, List.set_cons_zero, List.set_cons_succ]
        refine quiet_runG (.pointer (some ⟨B, 0, none⟩)) (by rfl) (fun w hw => by go_simp) ?_
        try simp only [Act.put, List.setIfInBounds_toArray, List.set_cons_zero, List.set_cons_succ]
        refine quiet_runG (.int .u64 (q0 : Int)) (by rfl) (fun w hw => by have hq := HC07.out w hw; clear hw; go_simp) ?_
        try simp only [Act.put, List.setIfInBounds_toArray, List.set_cons_zero, List.set_cons_succ]
        refine quiet_runG (.pointer (some ⟨B, 1, none⟩)) (by rfl) (fun w hw => by go_simp) ?_
        try simp only [Act.put, List.setIfInBounds_toArray, List.set_cons_zero, List.set_cons_succ]
        refine quiet_runG (.int .u64 (q1 : Int)) (by rfl) (fun w hw => by have hq := HC17.out w hw; clear hw; go_simp) ?_
        try simp only [Act.put, List.setIfInBounds_toArray, List.set_cons_zero, List.set_cons_succ]
        refine quiet_callG (.int .i64 (X : Int)) 59 #[.slice p len cap, .int .u64 (q0 : Int), .int .u64 (q1 : Int)] (by rfl) (fun w => by go_simp) (fun w hw => (HB27.out w hw).mono fun e w' h => ⟨h.1, h.2 ▸ hw⟩) ?_
        try simp only [Act.put, List.setIfInBounds_toArray, List.set_cons_zero, List.set_cons_succ]
        refine quiet_runG (.bool true) (by rfl) (fun w hw => by go_simp) ?_
        try simp only [Act.put, List.setIfInBounds_toArray, List.set_cons_zero, List.set_cons_succ]
        refine quiet_runG (.bool true) (by rfl) (fun w hw => by go_simp) ?_
        try simp only [Act.put, List.setIfInBounds_toArray, List.set_cons_zero, List.set_cons_succ]
        refine quiet_runG (.bool true) (by rfl) (fun w hw => by go_simp) ?_
        try simp only [Act.put, List.setIfInBounds_toArray, List.set_cons_zero, List.set_cons_succ]
        refine quiet_callG (.bool true) 44 #[] (by rfl) (fun w => by go_simp) (fun w hw => (HL7.out w hw).mono fun e w' h => ⟨h.1, hw.then h.2⟩) ?_
        try simp only [Act.put, List.setIfInBounds_toArray, List.set_cons_zero, List.set_cons_succ]
        refine quiet_runG (.bool true) (by rfl) (fun w hw => by go_simp) ?_
        try simp only [Act.put, List.setIfInBounds_toArray, List.set_cons_zero, List.set_cons_succ]
        refine quiet_runG (.bool true) (by rfl) (fun w hw => by go_simp) ?_
        try simp only [Act.put, List.setIfInBounds_toArray, List.set_cons_zero, List.set_cons_succ]
        refine wpQuiet_nil ?_
        intro w8 hw8
        have HEND : Hid (Fr (fun _ => False) W w8) := HFW5.out.then (HF7.out.then hw8)
        clear hw8 HF7 HFW5
        go_wp2
        go_ret
        exact ⟨rfl, HEND.out⟩
theorem StatsTells_of {a : Option Addr} {len cap : Nat} {z : List Int} {k : Int} {c2 : List Value} {W : World} (h : Nums .u64 W a len z) (hz : ∀ n ∈ z, (Lit.int .u64 n).wf = true) (h2 : AllOk [.int .u64, .int .u64] c2) :
    Calls Try.prog 13 #[.slice a len cap, .int .i64 k, .agg c2.toArray] W (LawPost W) := by
  match c2, h2 with
  | [_, _], ⟨⟨g, rfl, hg⟩, ⟨l, rfl, hl⟩, _⟩ =>
    obtain ⟨g, rfl, hg2⟩ := u64_nat hg
    obtain ⟨l, rfl, hl2⟩ := u64_nat hl
    exact StatsTells_any a len cap _ k g l hg2 hl2 W (words_of h hz)
end Go.Proofs.Ytmllbdiljjimmaa
