/- The walks of package exact: the whole of a number. -/
import Derived.Test.YtmllbdiljjimmaaExact11
namespace Go.Proofs.Ytmllbdiljjimmaa
open Go.RowKit

set_option maxRecDepth 100000 in
set_option maxHeartbeats 400000 in
theorem whole_nil (w : World) : Calls Try.prog 25 #[.pointer none] w fun e w' => e = .returned (.float .f64 0) ∧ w = w' := by
  go_enter Try.func25, Try.ntmps25
  go_wp2
  go_ret
  exact ⟨rfl, rfl⟩

theorem run_neg_float {P : Program} (b : Nat) (w : World) : (Op.unary .neg (.float .f64 b)).run P w = .ok (.float .f64 (flipF b)) w := rfl

theorem limbs_one (ns : List Nat) : (limbCells ns).toArray.all (·.oneCell') = true := Go.all_oneCell_toArray (fun v hv => by
  unfold limbCells at hv; obtain ⟨x, _, rfl⟩ := List.mem_map.1 hv; rfl)

/-- The whole of a number: its bits. -/
noncomputable def wholeN (T : Bool) (A : Nat) (count zeroes : Int) : Nat := if T || (decide (count > 0) && zeroes == count) then rnd A + 9223372036854775808 else rnd A

set_option maxRecDepth 100000 in
set_option maxHeartbeats 1600000 in
theorem whole_number (b : Nat) (made : Bool) (ns : List Nat) (count zeroes : Int) (w : World) (h : SumB w b made ns false false false count zeroes) :
    Calls Try.prog 25 #[.pointer (some ⟨b, 0, none⟩)] w (FPost w (wholeN (topN ns) (absN ns) count zeroes)) := by
  have c1 := h.cNan
  have c2 := h.cPlus
  have c3 := h.cMinus
  have HSIZE := Lib.hid (size_any b made ns false false false count zeroes w h)
  have HS := Lib.hid h
  clear h
  go_enter Try.func25, Try.ntmps25
  go_wp2_with fail
  refine (HSIZE.out).mono ?_
  rintro e w1 ⟨ms, rfl, hm1, hm2, hm3, hf1⟩
  generalize hT : topN ns = T at *
  generalize absN ns = A at *
  have hszm := limbs_size ms hm1
  have HIm : Hid ((Try.prog.info? 88).map (·.size) = some (limbCells ms).toArray.size) := by rw [hszm]; exact info_limbs
  have HSm : Hid ((limbCells (List.replicate 35 0)).toArray.size = (limbCells ms).toArray.size) := by rw [hszm]; rfl
  have HOm : Hid ((limbCells ms).toArray.all (·.oneCell') = true) := limbs_one ms
  have HR := Lib.hid (rounded_any ms hm1 hm2)
  have HS1 : Hid (SumB w1 b made ns false false false count zeroes) := ⟨HS.out.1.frame hf1 (fun h => h), HS.out.2⟩
  have HF1 := Lib.hid hf1
  have HM3 := Lib.hid hm3
  generalize hg2 : w1.heap.size = g2 at *
  have HG2 := Lib.hid hg2
  have HNEW : Hid (∀ o, o = Obj.cells (limbCells (List.replicate 35 0)).toArray 88 → (w1.alloc o).heap[g2]? = some (.cells (limbCells (List.replicate 35 0)).toArray 88 (0, 0))) := fun o ho => by rw [ho, ← HG2.out]; exact Blk.new w1 (limbCells (List.replicate 35 0)) 88
  have HFN : Hid (∀ o, Fr (fun _ => False) w ((w1.alloc o).setRow g2 (limbCells ms).toArray)) := fun o => (HF1.out.alloc _).setRow g2 (.inr (by have := HF1.out.size; rw [HG2.out] at this; exact this)) _
  have HSN : Hid (∀ o, SumB ((w1.alloc o).setRow g2 (limbCells ms).toArray) b made ns false false false count zeroes) := fun o => ⟨(HS1.out.1.alloc o).setRowOther g2 _ (by have := HS1.out.1.lt; rw [HG2.out] at this; omega), HS1.out.2⟩
  clear hszm hm1 hm2 hm3 hf1 c1 c2 c3 hT
  unfold limbsV at *
  go_upto_region 10 with (refine wpList_store_row rfl 88 _ _ rfl g2 (limbCells ms).toArray rfl rfl 88 (limbCells (List.replicate 35 0)).toArray (HNEW.out _ rfl) HIm.out HSm.out HOm.out ?_)

  generalize hW2 : (w1.alloc _).setRow g2 _ = w2
  have HF2 : Hid (Fr (fun _ => False) w w2) := by rw [← hW2]; exact HFN.out _
  have HS2 : Hid (SumB w2 b made ns false false false count zeroes) := by rw [← hW2]; exact HSN.out _
  have HB2 : Hid (Blk w2 g2 (limbCells ms) 88) := by rw [← hW2]; exact Blk.setRow (c := limbCells (List.replicate 35 0)) (HNEW.out _ rfl) (limbCells ms)
  clear hW2 HNEW HFN HSN HS1 HF1 HG2 hg2
  go_wp2_with (refine wpList_load_row rfl 88 _ rfl g2 rfl 88 (limbCells ms).toArray (0, 0) _ HB2.out Try.underlying88 rfl HIm.out ?_)
  refine (HR.out w2).mono ?_
  rintro e w3 ⟨L, hL, rfl, hf3⟩
  rw [rnd_of hL, HM3.out]
  have HR2 : Hid (rnd A ≤ 9218868437227405312) := rnd_le A
  have HWN : Hid (wholeN T A count zeroes = if T || (decide (count > 0) && zeroes == count) then rnd A + 9223372036854775808 else rnd A) := rfl
  generalize rnd A = R at *
  have HOF := Lib.hid (of_any R w3)
  have HF3 := Lib.hid (HF2.out.none_trans hf3)
  have HS3 : Hid (SumB w3 b made ns false false false count zeroes) := ⟨HS2.out.1.frame hf3 (fun h => h), HS2.out.2⟩
  generalize wholeN T A count zeroes = V at *
  clear hf3 hL
  go_wp2_with fail
  refine (HOF.out).mono ?_
  rintro e w4 ⟨rfl, rfl⟩
  go_upto_region 11 with fail
  have cC := HS3.out.cCount
  have cZ := HS3.out.cZeroes
  have hng := fun w => run_neg_float (P := Try.prog) R w
  have hneg : flipF R = R + 9223372036854775808 := flip_low (by have := HR2.out; omega)
  rw [← hneg] at HWN
  clear hneg
  cases T with
  | true =>
    obtain rfl : V = flipF R := by rw [HWN.out, Bool.true_or, if_pos rfl]
    clear HWN
    go_quiet (fail)
    go_wp2
    go_ret
    exact ⟨rfl, HF3.out.drewN _⟩
  | false =>
    by_cases h0 : 0 < count
    · by_cases hz : zeroes = count
      · obtain rfl : V = flipF R := by rw [HWN.out, hz, if_pos (by rw [Bool.false_or, Bool.and_eq_true, decide_eq_true_eq, beq_iff_eq]; exact ⟨h0, rfl⟩)]
        subst hz
        clear HWN
        go_quiet (fail)
        go_wp2
        go_ret
        exact ⟨rfl, HF3.out.drewN _⟩
      · obtain rfl : V = R := by rw [HWN.out, if_neg (by simp; omega)]
        have hze : (zeroes == count) = false := by simpa using hz
        clear HWN
        go_quiet (fail)
        go_wp2
        go_ret
        exact ⟨rfl, HF3.out.drewN _⟩
    · obtain rfl : V = R := by rw [HWN.out, if_neg (by simp; omega)]
      have hd : decide (0 < count) = false := by simpa using h0
      clear HWN
      go_quiet (fail)
      go_wp2
      go_ret
      exact ⟨rfl, HF3.out.drewN _⟩

theorem whole_any (b : Nat) (made : Bool) (ns : List Nat) (nan plus minus : Bool) (count zeroes : Int) (w : World) (h : SumB w b made ns nan plus minus count zeroes) :
    Calls Try.prog 25 #[.pointer (some ⟨b, 0, none⟩)] w (FPost w (wholeB ns nan plus minus count zeroes)) := by
  unfold wholeB
  by_cases h1 : (nan || (plus && minus)) = true
  · rw [if_pos h1]; exact whole_nan b made ns nan plus minus count zeroes w h h1
  · rw [if_neg h1]
    obtain rfl : nan = false := by revert h1; cases nan <;> simp
    cases plus with
    | true =>
      obtain rfl : minus = false := by revert h1; cases minus <;> simp
      have h2 := whole_inf b made ns true false count zeroes w h (.inl rfl)
      rw [if_pos rfl] at h2 ⊢
      exact h2
    | false =>
      rw [if_neg Bool.false_ne_true]
      cases minus with
      | true =>
        have h2 := whole_inf b made ns false true count zeroes w h (.inr rfl)
        rw [if_neg Bool.false_ne_true] at h2
        rw [if_pos rfl]
        exact h2
      | false =>
        rw [if_neg Bool.false_ne_true]
        exact whole_number b made ns count zeroes w h
end Go.Proofs.Ytmllbdiljjimmaa
