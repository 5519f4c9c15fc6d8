/- The examples of the laws of package stats; the law StatsNobody. -/
import Derived.Test.YtmllbdiljjimmaaStatsOf
namespace Go.Proofs.Ytmllbdiljjimmaa
open Go.RowKit

theorem rkinds_any {W w : World} {b : Nat} {v : Value} {fs : List Nat} (h : RowB W w b v fs) (hl : fs.length ≤ 100000) : Calls Try.prog 48 #[.pointer (some ⟨b, 0, none⟩)] w (KPost w fs) := by
  obtain ⟨p, c, hv, hf, _⟩ := flts_of_row h.2.1
  exact rkinds_of _ v p _ c fs w (fun w' hf' => all_any (h.keep hf')) hv hf hl
theorem eq_five (a b c d e : Int) (w : World) : (Op.equalIn 10000 69 (.agg #[.int .i64 a, .int .i64 b, .int .i64 c, .int .i64 d, .int .i64 e]) (.agg #[.int .i64 a, .int .i64 b, .int .i64 c, .int .i64 d, .int .i64 e])).run Try.prog w = .ok true w := by
  have u3 := Try.underlying3
  have a3 := Try.isAgg3
  have z3 := Try.sizeOf3
  rw [show (10000 : Nat) = 9999 + 1 from rfl, Op.equalIn]
  simp only [Sem.run_bind, run_underlying Try.underlying69, Result.andThen_ok]
  simp only [Std.Legacy.Range.forIn_eq_forIn_range', Std.Legacy.Range.size, Nat.sub_zero, Nat.add_sub_cancel, Nat.div_one, List.range'_succ, List.range'_zero, List.forIn_cons, List.forIn_nil]
  go_simp
theorem flts_nil (w : World) : Flts w none 0 [] := ⟨rfl, fun i hi => absurd hi (by omega)⟩

theorem isort_ex : isort [9223372036854775807, 0, 9223372036854775808] = [9223372036854775808, 0, 9223372036854775807] := by decide +kernel
theorem nan_ex : (FloatKind.f64.format.order 9223372036854775807 9223372036854775807 != some Ordering.eq) = true := by rw [nan_ne (by decide)]; decide
theorem zero_ex : (FloatKind.f64.format.order 0 0 == some Ordering.eq) = true := by kernel_rfl

set_option maxRecDepth 100000 in
set_option maxHeartbeats 1600000 in
theorem lives35_any (w : World) : Calls Try.prog 44 #[] w (BPost w true) := by
  have hbk := Blk.new w [.int .u64 9223372036854775807, .int .u64 0, .int .u64 9223372036854775808] 35
  have hwd : Words (w.alloc (.cells #[.int .u64 9223372036854775807, .int .u64 0, .int .u64 9223372036854775808] 35)) (some ⟨w.heap.size, 0, none⟩) 3 [9223372036854775807, 0, 9223372036854775808] := by
    refine ⟨⟨rfl, fun i hi => ?_⟩, by decide⟩
    match i, hi with
    | 0, _ => exact ⟨_, 0, 9223372036854775807, rfl, rfl, hbk.cell 0 rfl⟩
    | 1, _ => exact ⟨_, 0, 0, rfl, rfl, hbk.cell 1 rfl⟩
    | 2, _ => exact ⟨_, 0, 9223372036854775808, rfl, rfl, hbk.cell 2 rfl⟩
  have hro := rowof_any (some ⟨w.heap.size, 0, none⟩) 3 3 _ _ hwd (by decide)
  unfold RowPost at hro
  rw [isort_ex] at hro
  have HRO := Lib.hid hro
  have HF0 : Hid (Fr (fun _ => False) w (w.alloc (.cells #[.int .u64 9223372036854775807, .int .u64 0, .int .u64 9223372036854775808] 35))) := (Fr.refl _ w).alloc _
  have q1 := nan_ex
  clear hbk hwd hro
  go_enter Try.func44, Try.ntmps44
  go_wp2_with fail
  refine (HRO.out).mono ?_
  rintro e w2 ⟨b, v, rfl, hrow⟩
  have HF2 := Lib.hid (HF0.out.then hrow.2.1.2.2.2)
  have HP0 := Lib.hid (rpick_any hrow (by decide) 0)
  have HP2 := Lib.hid (rpick_any hrow (by decide) 2)
  have HM := Lib.hid (rmid_any hrow (by decide))
  rw [show pickV [9223372036854775808, 0, 9223372036854775807] 0 = .tuple #[.float .f64 9223372036854775808, .int .i64 0] from rfl] at HP0
  rw [show pickV [9223372036854775808, 0, 9223372036854775807] 2 = .tuple #[.float .f64 9223372036854775807, .int .i64 0] from rfl] at HP2
  rw [show pickV [9223372036854775808, 0, 9223372036854775807] ((([9223372036854775808, 0, 9223372036854775807] : List Nat).length - 1) / 2 : Nat) = .tuple #[.float .f64 0, .int .i64 0] from rfl] at HM
  have HB1 := Lib.hid (bits_any 9223372036854775808 w2)
  have HB2 := Lib.hid (bits_any 0 w2)
  clear hrow HRO HF0
  go_wp2_with fail
  refine (HP0.out).mono ?_
  rintro e w' ⟨rfl, rfl⟩
  go_wp2_with fail
  refine (HP2.out).mono ?_
  rintro e w' ⟨rfl, rfl⟩
  go_wp2_with fail
  refine (HM.out).mono ?_
  rintro e w' ⟨rfl, rfl⟩
  go_wp2_with fail
  refine (HB1.out).mono ?_
  rintro e w' ⟨rfl, rfl⟩
  go_wp2_with fail
  refine (HB2.out).mono ?_
  rintro e w' ⟨rfl, rfl⟩
  go_wp2
  go_ret
  exact ⟨rfl, HF2.out⟩

set_option maxRecDepth 100000 in
set_option maxHeartbeats 1600000 in
theorem StatsNobody_any (b : Nat) (k : Int) (W : World) : Calls Try.prog 14 #[.int .u64 (b : Int), .int .i64 k] W (LawPost W) := by
  have HL := Lib.hid lives35_any
  have H1 := Lib.hid (of_any b)
  have H2 := Lib.hid (radd_nil b)
  have H3 := Lib.hid (rpick_nil k)
  have H4 := Lib.hid rmid_nil
  have H5 := Lib.hid (ranks_nil b)
  have H6 := Lib.hid rlen_nil
  have H7 : Hid (∀ w, Calls Try.prog 58 #[.pointer none, .float .f64 0, .float .f64 b] w (IntP w 0)) := fun w => rbetw_of (.pointer none) 0 b 0 0 0 0 (by decide) (by decide) w (ranks_nil 0 w) (fun w' _ => ranks_nil b w')
  have H8 : Hid (∀ w, Calls Try.prog 46 #[.pointer none] w (FPost w 0)) := fun w => by
    have := rsum_of (.pointer none) (.slice none 0 0) none 0 0 [] w (all_nil w) rfl (flts_nil w) (by decide)
    rw [show (Got.of []).whole = 0 from ex_none] at this
    exact this
  have H9 : Hid (∀ w, Calls Try.prog 47 #[.pointer none] w (FPost w 9221120237041090560)) := fun w => by
    have := rmean_of (.pointer none) (.slice none 0 0) none 0 0 [] w (all_nil w) rfl (flts_nil w) (by decide)
    rw [mean_nil] at this
    exact this
  have H10 : Hid (∀ w, Calls Try.prog 48 #[.pointer none] w (KPost w [])) := fun w => rkinds_of (.pointer none) (.slice none 0 0) none 0 0 [] w (fun w' _ => all_nil w') rfl (flts_nil w) (by decide)
  have HB1 := Lib.hid (bits_any 0)
  have HB2 := Lib.hid (bits_any 9221120237041090560)
  have q0 := zero_ex
  have q5 := eq_five 0 0 0 0 0
  unfold KPost at H10
  rw [show (kcells []).toArray = #[.int .i64 0, .int .i64 0, .int .i64 0, .int .i64 0, .int .i64 0] from rfl] at H10
  go_enter Try.func14, Try.ntmps14
  go_wp2_with fail
  refine (H1.out _).mono ?_
  rintro e w' ⟨rfl, rfl⟩
  go_wp2_with fail
  refine (H2.out _).mono ?_
  rintro e w' ⟨rfl, rfl⟩
  go_wp2_with fail
  refine (H3.out _).mono ?_
  rintro e w' ⟨rfl, rfl⟩
  go_wp2_with fail
  refine (H4.out _).mono ?_
  rintro e w' ⟨rfl, rfl⟩
  go_wp2_with fail
  refine (H1.out _).mono ?_
  rintro e w' ⟨rfl, rfl⟩
  go_wp2_with fail
  refine (H5.out _).mono ?_
  rintro e w1 ⟨rfl, hf1⟩
  have HF1 := Lib.hid hf1
  clear hf1
  go_wp2_with fail
  refine (H6.out _).mono ?_
  rintro e w' ⟨rfl, rfl⟩
  go_wp2_with fail
  refine (H1.out _).mono ?_
  rintro e w' ⟨rfl, rfl⟩
  go_wp2_with fail
  refine (H7.out _).mono ?_
  rintro e w2 ⟨rfl, hf2⟩
  have HF2 := Lib.hid (HF1.out.then hf2)
  clear hf2 HF1
  go_wp2_with fail
  refine (H8.out _).mono ?_
  rintro e w3 ⟨rfl, hf3⟩
  have HF3 := Lib.hid (HF2.out.then hf3)
  clear hf3 HF2
  go_wp2_with fail
  refine (HB1.out _).mono ?_
  rintro e w' ⟨rfl, rfl⟩
  go_wp2_with fail
  refine (H9.out _).mono ?_
  rintro e w4 ⟨rfl, hf4⟩
  have HF4 := Lib.hid (HF3.out.then hf4)
  clear hf4 HF3
  go_wp2_with fail
  refine (HB2.out _).mono ?_
  rintro e w' ⟨rfl, rfl⟩
  go_wp2_with fail
  refine (H10.out _).mono ?_
  rintro e w5 ⟨rfl, hf5⟩
  have HF5 := Lib.hid (HF4.out.then hf5)
  clear hf5 HF4
  go_wp2_with fail
  refine (HL.out _).mono ?_
  rintro e w6 ⟨rfl, hf6⟩
  have HF6 := Lib.hid (HF5.out.then hf6)
  clear hf6 HF5
  go_wp2
  go_ret
  exact ⟨rfl, HF6.out⟩
theorem StatsNobody_of {x k : Int} (hx : (Lit.int .u64 x).wf = true) (W : World) : Calls Try.prog 14 #[.int .u64 x, .int .i64 k] W (LawPost W) := by
  obtain ⟨b, rfl, _⟩ := u64_nat hx
  exact StatsNobody_any b k W
end Go.Proofs.Ytmllbdiljjimmaa
