/- The walks of package exact: the whole of a number. -/
import Derived.Test.YtmllbdiljjimmaaExact11
namespace Go.Proofs.Ytmllbdiljjimmaa
open Go.RowKit

set_option maxRecDepth 100000 in
set_option maxHeartbeats 400000 in
theorem whole_nil (w : World) : Calls Try.prog 25 #[.pointer none] w fun e w' => e = .returned (.float .f64 0) ∧ w = w' := by
  go_enter Try.func25, Try.ntmps25
  go_wp2
  go_ret
  exact ⟨rfl, rfl⟩

theorem run_neg_float {P : Program} (b : Nat) (w : World) : (Op.unary .neg (.float .f64 b)).run P w = .ok (.float .f64 (flipF b)) w := rfl

theorem limbs_one (ns : List Nat) : (limbCells ns).toArray.all (·.oneCell') = true := Go.all_oneCell_toArray (fun v hv => by
  unfold limbCells at hv; obtain ⟨x, _, rfl⟩ := List.mem_map.1 hv; rfl)

/-- The whole of a number: its bits. -/
noncomputable def wholeN (T : Bool) (A : Nat) (count zeroes : Int) : Nat := if T || (decide (count > 0) && zeroes == count) then rnd A + 9223372036854775808 else rnd A

set_option maxRecDepth 100000 in
set_option maxHeartbeats 1600000 in
theorem whole_number (b : Nat) (made : Bool) (ns : List Nat) (count zeroes : Int) (w : World) (h : SumB w b made ns false false false count zeroes) :
    Calls Try.prog 25 #[.pointer (some ⟨b, 0, none⟩)] w (FPost w (wholeN (topN ns) (absN ns) count zeroes)) := by
  have c1 := h.cNan
  have c2 := h.cPlus
  have c3 := h.cMinus
  have HSIZE := Lib.hid (size_any b made ns false false false count zeroes w h)
  have HS := Lib.hid h
  clear h
  go_enter Try.func25, Try.ntmps25
  go_wp2_with fail
  refine (HSIZE.out).mono ?_
  rintro e w1 ⟨ms, rfl, hm1, hm2, hm3, hf1⟩
  generalize hT : topN ns = T at *
  generalize absN ns = A at *
  have hszm := limbs_size ms hm1
  have HIm : Hid ((Try.prog.info? 88).map (·.size) = some (limbCells ms).toArray.size) := by rw [hszm]; exact info_limbs
  have HSm : Hid ((limbCells (List.replicate 35 0)).toArray.size = (limbCells ms).toArray.size) := by rw [hszm]; rfl
  have HOm : Hid ((limbCells ms).toArray.all (·.oneCell') = true) := limbs_one ms
  have HR := Lib.hid (rounded_any ms hm1 hm2)
  have HS1 : Hid (SumB w1 b made ns false false false count zeroes) := ⟨HS.out.1.frame hf1 (fun h => h), HS.out.2⟩
  have HF1 := Lib.hid hf1
  have HM3 := Lib.hid hm3
  generalize hg2 : w1.heap.size = g2 at *
  have HG2 := Lib.hid hg2
  have HNEW : Hid (∀ o, o = Obj.cells (limbCells (List.replicate 35 0)).toArray 88 → (w1.alloc o).heap[g2]? = some (.cells (limbCells (List.replicate 35 0)).toArray 88 (0, 0))) := fun o ho => by rw [ho, ← HG2.out]; exact Blk.new w1 (limbCells (List.replicate 35 0)) 88
  have HFN : Hid (∀ o, Fr (fun _ => False) w ((w1.alloc o).setRow g2 (limbCells ms).toArray)) := fun o => (HF1.out.alloc _).setRow g2 (.inr (by have := HF1.out.size; rw [HG2.out] at this; exact this)) _
  have HSN : Hid (∀ o, SumB ((w1.alloc o).setRow g2 (limbCells ms).toArray) b made ns false false false count zeroes) := fun o => ⟨(HS1.out.1.alloc o).setRowOther g2 _ (by have := HS1.out.1.lt; rw [HG2.out] at this; omega), HS1.out.2⟩
  clear hszm hm1 hm2 hm3 hf1 c1 c2 c3 hT
  unfold limbsV at *
  go_upto_region 10 with (refine wpList_store_row rfl 88 _ _ rfl g2 (limbCells ms).toArray rfl rfl 88 (limbCells (List.replicate 35 0)).toArray (HNEW.out _ rfl) HIm.out HSm.out HOm.out ?_)

  generalize hW2 : (w1.alloc _).setRow g2 _ = w2
  have HF2 : Hid (Fr (fun _ => False) w w2) := by rw [← hW2]; exact HFN.out _
  have HS2 : Hid (SumB w2 b made ns false false false count zeroes) := by rw [← hW2]; exact HSN.out _
  have HB2 : Hid (Blk w2 g2 (limbCells ms) 88) := by rw [← hW2]; exact Blk.setRow (c := limbCells (List.replicate 35 0)) (HNEW.out _ rfl) (limbCells ms)
  clear hW2 HNEW HFN HSN HS1 HF1 HG2 hg2
  go_wp2_with (refine wpList_load_row rfl 88 _ rfl g2 rfl 88 (limbCells ms).toArray (0, 0) _ HB2.out Try.underlying88 rfl HIm.out ?_)
  refine (HR.out w2).mono ?_
  rintro e w3 ⟨L, hL, rfl, hf3⟩
  rw [rnd_of hL, HM3.out]
  have HR2 : Hid (rnd A ≤ 9218868437227405312) := rnd_le A
  have HWN : Hid (wholeN T A count zeroes = if T || (decide (count > 0) && zeroes == count) then rnd A + 9223372036854775808 else rnd A) := rfl
  generalize rnd A = R at *
  have HOF := Lib.hid (of_any R w3)
  have HF3 := Lib.hid (HF2.out.none_trans hf3)
  have HS3 : Hid (SumB w3 b made ns false false false count zeroes) := ⟨HS2.out.1.frame hf3 (fun h => h), HS2.out.2⟩
  generalize wholeN T A count zeroes = V at *
  clear hf3 hL
  go_wp2_with fail
  refine (HOF.out).mono ?_
  rintro e w4 ⟨rfl, rfl⟩
  go_upto_region 11 with fail
  have cC := HS3.out.cCount
  have cZ := HS3.out.cZeroes
  have hng := fun w => run_neg_float (P := Try.prog) R w
  have hneg : flipF R = R + 9223372036854775808 := flip_low (by have := HR2.out; omega)
  rw [← hneg] at HWN
  clear hneg
  cases T with
  | true =>
    obtain rfl : V = flipF R := by rw [HWN.out, Bool.true_or, if_pos rfl]
    clear HWN
    go_quiet (fail)
    go_wp2
    go_ret
    exact ⟨rfl, HF3.out.drewN _⟩
  | false =>
    by_cases h0 : 0 < count
    · by_cases hz : zeroes = count
      · obtain rfl : V = flipF R := by rw [HWN.out, hz, if_pos (by rw [Bool.false_or, Bool.and_eq_true, decide_eq_true_eq, beq_iff_eq]; exact ⟨h0, rfl⟩)]
        subst hz
        clear HWN
        go_quiet (fail)
        go_wp2
        go_ret
        exact ⟨rfl, HF3.out.drewN _⟩
      · obtain rfl : V = R := by rw [HWN.out, if_neg (by simp; omega)]
        have hze : (zeroes == count) = false := by simpa using hz
        clear HWN
        go_quiet (fail)
        go_wp2
        go_ret
        exact ⟨rfl, HF3.out.drewN _⟩
    · obtain rfl : V = R := by rw [HWN.out, if_neg (by simp; omega)]
      have hd : decide (0 < count) = false := by simpa using h0
      clear HWN
      go_quiet (fail)
      go_wp2
      go_ret
      exact ⟨rfl, HF3.out.drewN _⟩

theorem whole_any (b : Nat) (made : Bool) (ns : List Nat) (nan plus minus : Bool) (count zeroes : Int) (w : World) (h : SumB w b made ns nan plus minus count zeroes) :
    Calls Try.prog 25 #[.pointer (some ⟨b, 0, none⟩)] w (FPost w (wholeB ns nan plus minus count zeroes)) := by
  unfold wholeB
  by_cases h1 : (nan || (plus && minus)) = true
  · rw [if_pos h1]; exact whole_nan b made ns nan plus minus count zeroes w h h1
  · rw [if_neg h1]
    obtain rfl : nan = false := by revert h1; cases nan <;> simp
    cases plus with
    | true =>
      obtain rfl : minus = false := by revert h1; cases minus <;> simp
      have h2 := whole_inf b made ns true false count zeroes w h (.inl rfl)
      rw [if_pos rfl] at h2 ⊢
      exact h2
    | false =>
      rw [if_neg Bool.false_ne_true]
      cases minus with
      | true =>
        have h2 := whole_inf b made ns false true count zeroes w h (.inr rfl)
        rw [if_neg Bool.false_ne_true] at h2
        rw [if_pos rfl]
        exact h2
      | false =>
        rw [if_neg Bool.false_ne_true]
        exact whole_number b made ns count zeroes w h
end Go.Proofs.Ytmllbdiljjimmaa

/- The walks of package exact: Merge, Count; what nobody made. -/
namespace Go.Proofs.Ytmllbdiljjimmaa
open Go.RowKit

set_option maxRecDepth 100000 in
set_option maxHeartbeats 400000 in
theorem count_nil (w : World) : Calls Try.prog 22 #[.pointer none] w fun e w' => e = .returned (.int .i64 0) ∧ w = w' := by
  go_enter Try.func22, Try.ntmps22
  go_wp2
  go_ret
  exact ⟨rfl, rfl⟩
set_option maxRecDepth 100000 in
set_option maxHeartbeats 400000 in
theorem count_any (b : Nat) (made : Bool) (ns : List Nat) (nan plus minus : Bool) (count zeroes : Int) (w : World) (h : SumB w b made ns nan plus minus count zeroes) :
    Calls Try.prog 22 #[.pointer (some ⟨b, 0, none⟩)] w fun e w' => e = .returned (.int .i64 count) ∧ w = w' := by
  have c := h.cCount
  clear h
  go_enter Try.func22, Try.ntmps22
  go_wp2
  go_ret
  exact ⟨rfl, rfl⟩
set_option maxRecDepth 100000 in
set_option maxHeartbeats 400000 in
theorem add_nil (f : Nat) (w : World) : Calls Try.prog 21 #[.pointer none, .float .f64 f] w fun e w' => e = .returned (.tuple #[]) ∧ w = w' := by
  go_enter Try.func21, Try.ntmps21
  go_wp2
  exact bodyPost_ret (results_none rfl _ _ _) rfl ⟨rfl, rfl⟩
set_option maxRecDepth 100000 in
set_option maxHeartbeats 400000 in
theorem merge_nil1 (p : Option Addr) (w : World) : Calls Try.prog 29 #[.pointer none, .pointer p] w fun e w' => e = .returned (.tuple #[]) ∧ w = w' := by
  go_enter Try.func29, Try.ntmps29
  go_wp2
  exact bodyPost_ret (results_none rfl _ _ _) rfl ⟨rfl, rfl⟩
set_option maxRecDepth 100000 in
set_option maxHeartbeats 400000 in
theorem merge_nil2 (b : Nat) (made : Bool) (ns : List Nat) (nan plus minus : Bool) (count zeroes : Int) (w : World) (h : SumB w b made ns nan plus minus count zeroes) : Calls Try.prog 29 #[.pointer (some ⟨b, 0, none⟩), .pointer none] w fun e w' => e = .returned (.tuple #[]) ∧ w = w' := by
  have c := h.c0
  clear h
  cases made
  all_goals
    go_enter Try.func29, Try.ntmps29
    go_wp2
    exact bodyPost_ret (results_none rfl _ _ _) rfl ⟨rfl, rfl⟩

/-- The words of two sums, put together as far as place k. -/
def MergeRel (w : World) (b : Nat) (ns ms : List Nat) (nan plus minus : Bool) (count zeroes : Int) (k c : Nat) (wr : World) : Prop :=
  ∃ ks, SumB wr b true ks nan plus minus count zeroes ∧ (∀ j, k ≤ j → ks[j]? = ns[j]?) ∧ toN (ks.take k) + c * 18446744073709551616 ^ k = toN (ns.take k) + toN (ms.take k) ∧ Fr (fun k => k = b) w wr

theorem merge_step {T S N x y s c c' P : Nat} (h : T + c * P = N) (hs : s + c' * 18446744073709551616 = x + y + c) : (T + P * s) + c' * (P * 18446744073709551616) = N + P * x + P * y + S - S := by
  have e : P * (s + c' * 18446744073709551616) = P * (x + y + c) := by rw [hs]
  rw [Nat.mul_add, Nat.mul_add, Nat.mul_add, Nat.mul_comm P c, ← Nat.mul_assoc, Nat.mul_comm P c', Nat.mul_assoc] at e
  omega

/-- Behind a merge. -/
def MergePost (w : World) (b : Nat) (ns ms : List Nat) (nan plus minus : Bool) (count zeroes : Int) (w' : World) : Prop :=
  ∃ ks, SumB w' b true ks nan plus minus count zeroes ∧ toN ks = (toN ns + toN ms) % M35 ∧ Fr (fun k => k = b) w w'

set_option maxRecDepth 100000 in
set_option maxHeartbeats 3200000 in
theorem merge_core (b o : Nat) (hne : b ≠ o) (made : Bool) (ns ms : List Nat) (nan plus minus nan2 plus2 minus2 N P M : Bool) (HN : Hid (N = (nan || nan2))) (HP : Hid (P = (plus || plus2))) (HM : Hid (M = (minus || minus2))) (count zeroes count2 zeroes2 : Int) (w : World)
    (h : SumB w b true ns nan plus minus count zeroes) (h2 : SumB w o made ms nan2 plus2 minus2 count2 zeroes2)
    (hb1 : 0 ≤ count) (hb2 : count < 4611686018427387904) (hb3 : 0 ≤ count2) (hb4 : count2 < 4611686018427387904) (hb5 : 0 ≤ zeroes) (hb6 : zeroes < 4611686018427387904) (hb7 : 0 ≤ zeroes2) (hb8 : zeroes2 < 4611686018427387904) :
    Calls Try.prog 29 #[.pointer (some ⟨b, 0, none⟩), .pointer (some ⟨o, 0, none⟩)] w fun e w' => e = .returned (.tuple #[]) ∧ MergePost w b ns ms N P M (count + count2) (zeroes + zeroes2) w' := by
  have c0 := h.c0
  have HNE := Lib.hid hne
  have HS := Lib.hid h
  have HO := Lib.hid h2
  have hn := h.2.1
  have hm := h2.2.1
  clear hne h h2
  go_enter Try.func29, Try.ntmps29
  go_wp2_with fail
  go_loopw [4, 19] (fun c i wr => ∃ k n : Nat, k ≤ 35 ∧ n ≤ 1 ∧ c = .int .u64 (n : Int) ∧ i = .int .i64 (k : Int) ∧ MergeRel w b ns ms nan plus minus count zeroes k n wr) (fun _ i _ => 35 - (intOf i).toNat)
  case atStart => exact ⟨0, 0, by omega, by omega, rfl, rfl, ns, HS.out, fun _ _ => rfl, by simp [toN], Fr.refl _ _⟩
  case round =>
    obtain ⟨k, n, hk, hn1, rfl, rfl, ks, k1, k2, k3, k4⟩ := hrel
    clear c0
    by_cases hlt : k < 35
    · have k5 := k2 k (Nat.le_refl _)
      obtain ⟨x, hx⟩ : ∃ x, ns[k]? = some x := ⟨ns[k]'(by omega), by simp⟩
      obtain ⟨y, hy⟩ : ∃ y, ms[k]? = some y := ⟨ms[k]'(by omega), by simp⟩
      have hx1 := k5.trans hx
      have c1 := k1.limb hx1
      have hO : SumB wr o made ms nan2 plus2 minus2 count2 zeroes2 := ⟨HO.out.1.frame k4 (fun e => HNE.out e.symm), HO.out.2⟩
      have c2 := hO.limb hy
      have f1 := k1.1.free (1 + k)
      have hk35 : (k : Int) < 35 := by omega
      have a1 := call_add64 x y n _ _ _ rfl rfl rfl hn1
      have hxl := HS.out.2.2.get hx
      have hyl := HO.out.2.2.get hy
      generalize hs : (x + y + n) % 18446744073709551616 = s at a1
      generalize hc : (x + y + n) / 18446744073709551616 = c at a1
      have hsl : s < 18446744073709551616 := by omega
      have hcl : c ≤ 1 := by omega
      have hnew : MergeRel w b ns ms nan plus minus count zeroes (k + 1) c ((wr.setCell ⟨b, 1 + k, none⟩ (.int .u64 (s : Int))).drew) := by
        have hl := k1.2.1
        refine ⟨ks.set k s, (k1.set (by omega) hsl).drew, fun j hj => ?_, ?_, (k4.setCell ⟨b, 1 + k, none⟩ (.inl rfl) _).drew⟩
        · rw [List.getElem?_set_ne (by omega)]; exact k2 j (by omega)
        · have e1 : (ks.set k s)[k]? = some s := by rw [List.getElem?_set_self (by omega)]
          have e2 : (ks.set k s).take k = ks.take k := by rw [List.take_set, List.set_eq_of_length_le (by rw [List.length_take]; omega)]
          rw [toN_take e1, e2, toN_take hx, toN_take hy, Nat.pow_succ]
          have := merge_step (S := 0) k3 (show s + c * 18446744073709551616 = x + y + n by omega)
          omega
      have HN := Lib.hid hnew
      clear hnew hs hc hx hy hx1 k5 k2 k3 k4 k1 hO
      go_wp2_with fail
      go_region
      go_wp2
      go_roundw
      case rel => exact ⟨k + 1, c, by omega, hcl, rfl, by go_num, HN.out⟩
      case measure => simp [intOf]; omega
    · obtain rfl : k = 35 := by omega
      have hO : SumB wr o made ms nan2 plus2 minus2 count2 zeroes2 := ⟨HO.out.1.frame k4 (fun e => HNE.out e.symm), HO.out.2⟩
      have HK : Hid (toN ks = (toN ns + toN ms) % M35) := by
        have hl := toN_lt k1.2.2
        rw [k1.2.1] at hl
        rw [List.take_of_length_le (by rw [k1.2.1]; omega), List.take_of_length_le (by omega), List.take_of_length_le (by omega)] at k3
        exact mod_of_carry hl k3
      have hne1 : b ≠ o := HNE.out
      have g1 := k1.cNan
      have q1 := hO.cNan
      have f1 := k1.1.free 36
      have HK1 := Lib.hid k1
      have HK4 := Lib.hid k4
      have HO1 := Lib.hid hO
      clear k1 k2 k3 k4 hO hlt hk hn1
      cases nan
      all_goals
        go_upto_region 8 with fail
        generalize hW : wr.setCell ⟨b, 36, none⟩ _ = w2
        have s1 : SumB w2 b true ks N plus minus count zeroes := by rw [← hW, HN.out]; exact HK1.out.setNan _
        have hf1 : Fr (fun k => k = b) wr w2 := by rw [← hW]; exact (Fr.refl (fun k => k = b) wr).setCell ⟨b, 36, none⟩ (.inl rfl) _
        have HK2 := Lib.hid s1
        have HK5 : Hid (Fr (fun k => k = b) w w2) := HK4.out.trans hf1 (fun i hi => .inl hi)
        have HO2 : Hid (SumB w2 o made ms nan2 plus2 minus2 count2 zeroes2) := ⟨HO1.out.1.frame hf1 (fun e => HNE.out e.symm), HO1.out.2⟩
        clear hW g1 q1 f1 hf1
        have g1 := s1.cPlus
        have q1 := HO2.out.cPlus
        have f1 := s1.1.free 37
        clear s1
        cases plus
      all_goals
        go_upto_region 9 with fail
        generalize hW : w2.setCell ⟨b, 37, none⟩ _ = w3
        have s1 : SumB w3 b true ks N P minus count zeroes := by rw [← hW, HP.out]; exact HK2.out.setPlus _
        have hf1 : Fr (fun k => k = b) w2 w3 := by rw [← hW]; exact (Fr.refl (fun k => k = b) w2).setCell ⟨b, 37, none⟩ (.inl rfl) _
        have HK3 := Lib.hid s1
        have HK6 : Hid (Fr (fun k => k = b) w w3) := HK5.out.trans hf1 (fun i hi => .inl hi)
        have HO3 : Hid (SumB w3 o made ms nan2 plus2 minus2 count2 zeroes2) := ⟨HO2.out.1.frame hf1 (fun e => HNE.out e.symm), HO2.out.2⟩
        clear hW g1 q1 f1 hf1
        have g1 := s1.cMinus
        have q1 := HO3.out.cMinus
        have f1 := s1.1.free 38
        clear s1
        cases minus
      all_goals
        go_upto_region 10 with fail
        generalize hW : w3.setCell ⟨b, 38, none⟩ _ = w4
        have s1 : SumB w4 b true ks N P M count zeroes := by rw [← hW, HM.out]; exact HK3.out.setMinus _
        have hf1 : Fr (fun k => k = b) w3 w4 := by rw [← hW]; exact (Fr.refl (fun k => k = b) w3).setCell ⟨b, 38, none⟩ (.inl rfl) _
        have HK7 : Hid (Fr (fun k => k = b) w w4) := HK6.out.trans hf1 (fun i hi => .inl hi)
        have HO4 : Hid (SumB w4 o made ms nan2 plus2 minus2 count2 zeroes2) := ⟨HO3.out.1.frame hf1 (fun e => HNE.out e.symm), HO3.out.2⟩
        clear hW g1 q1 f1 hf1
        have g1 := s1.cCount
        have q1 := HO4.out.cCount
        have f1 := s1.1.free 39
        have HS4 := Lib.hid s1
        clear s1 HO3 HO2 HO1 HK5 HK6 HK4 HK3 HK2 HK1
        go_region
        go_upto_region 11 with fail
        generalize hW : (w4.setCell ⟨b, 39, none⟩ _).drew = w5
        have s1 : SumB w5 b true ks N P M (count + count2) zeroes := by rw [← hW]; exact (HS4.out.setCount _).drew
        have hf1 : Fr (fun k => k = b) w4 w5 := by rw [← hW]; exact ((Fr.refl (fun k => k = b) w4).setCell ⟨b, 39, none⟩ (.inl rfl) _).drew
        have HK8 : Hid (Fr (fun k => k = b) w w5) := HK7.out.trans hf1 (fun i hi => .inl hi)
        have HO5 : Hid (SumB w5 o made ms nan2 plus2 minus2 count2 zeroes2) := ⟨HO4.out.1.frame hf1 (fun e => HNE.out e.symm), HO4.out.2⟩
        clear hW g1 q1 f1 hf1
        have g1 := s1.cZeroes
        have q1 := HO5.out.cZeroes
        have f1 := s1.1.free 40
        have HS5 := Lib.hid s1
        clear s1 HO4 HK7 HS4
        go_region
        go_wp2
        go_end0
        exact ⟨rfl, ks, (HS5.out.setZeroes _).drew, HK.out, (HK8.out.setCell ⟨b, 40, none⟩ (.inl rfl) _).drew⟩

theorem merge_any (b o : Nat) (hne : b ≠ o) (made : Bool) (ns ms : List Nat) (nan plus minus nan2 plus2 minus2 : Bool) (count zeroes count2 zeroes2 : Int) (w : World)
    (h : SumB w b true ns nan plus minus count zeroes) (h2 : SumB w o made ms nan2 plus2 minus2 count2 zeroes2)
    (hb1 : 0 ≤ count) (hb2 : count < 4611686018427387904) (hb3 : 0 ≤ count2) (hb4 : count2 < 4611686018427387904) (hb5 : 0 ≤ zeroes) (hb6 : zeroes < 4611686018427387904) (hb7 : 0 ≤ zeroes2) (hb8 : zeroes2 < 4611686018427387904) :
    Calls Try.prog 29 #[.pointer (some ⟨b, 0, none⟩), .pointer (some ⟨o, 0, none⟩)] w fun e w' => e = .returned (.tuple #[]) ∧ MergePost w b ns ms (nan || nan2) (plus || plus2) (minus || minus2) (count + count2) (zeroes + zeroes2) w' :=
  merge_core b o hne made ns ms nan plus minus nan2 plus2 minus2 _ _ _ rfl rfl rfl count zeroes count2 zeroes2 w h h2 hb1 hb2 hb3 hb4 hb5 hb6 hb7 hb8

def Got.merge (g h : Got) : Got := ⟨g.total + h.total, g.nan || h.nan, g.plus || h.plus, g.minus || h.minus, g.count + h.count, g.zeroes + h.zeroes⟩

theorem merge_got (b o : Nat) (hne : b ≠ o) (g k : Got) (w : World) (h : SumG w b g) (h2 : SumG w o k) (hb1 : g.count < 4611686018427387904) (hb2 : k.count < 4611686018427387904) (hb3 : g.zeroes ≤ g.count) (hb4 : k.zeroes ≤ k.count) :
    Calls Try.prog 29 #[.pointer (some ⟨b, 0, none⟩), .pointer (some ⟨o, 0, none⟩)] w fun e w' => e = .returned (.tuple #[]) ∧ SumG w' b (g.merge k) ∧ SumG w' o k ∧ Fr (fun k => k = b) w w' := by
  have h2' := h2
  obtain ⟨ns, hs, ht⟩ := h
  obtain ⟨ms, hs2, ht2⟩ := h2
  refine (merge_any b o hne true ns ms g.nan g.plus g.minus k.nan k.plus k.minus g.count g.zeroes k.count k.zeroes w hs hs2 (by omega) (by omega) (by omega) (by omega) (by omega) (by omega) (by omega) (by omega)).mono ?_
  rintro e w' ⟨he, ks, a1, a2, a3⟩
  refine ⟨he, ⟨ks, by unfold Got.merge; rw [Int.natCast_add, Int.natCast_add]; exact a1, ?_⟩, h2'.frame a3 (fun e => hne e.symm), a3⟩
  rw [a2, Int.natCast_emod, Int.natCast_add, ht, ht2]
  unfold Got.merge
  dsimp only
  rw [← Int.add_emod]

theorem count_got (b : Nat) (g : Got) (w : World) (h : SumG w b g) : Calls Try.prog 22 #[.pointer (some ⟨b, 0, none⟩)] w fun e w' => e = .returned (.int .i64 (g.count : Int)) ∧ w = w' := by
  obtain ⟨ns, hs, _⟩ := h
  exact count_any b true ns _ _ _ _ _ w hs

/-- The whole of what came, as bits. -/
noncomputable def Got.whole (g : Got) : Nat :=
  if g.nan || (g.plus && g.minus) then 9221120237041090560 else if g.plus then 9218868437227405312 else if g.minus then 18442240474082181120
  else if g.total < 0 ∨ (0 < g.count ∧ g.zeroes = g.count) then rnd g.total.natAbs + 9223372036854775808 else rnd g.total.natAbs
end Go.Proofs.Ytmllbdiljjimmaa

/- The whole of what came to a sum, told plainly. -/
namespace Go.Proofs.Ytmllbdiljjimmaa
open Go.RowKit

/-- More than any float that is a number has. -/
def magTop : Nat := 9007199254740992 * 2 ^ 2046
/-- Half of what the words of a sum can tell. -/
def halfTop : Nat := 18446744073709551616 ^ 34 * 9223372036854775808
theorem magTop_eq (k : Nat) (hk : k = 2046) : magTop = 9007199254740992 * 2 ^ k := by subst hk; rfl
theorem halfTop_eq (k : Nat) (hk : k = 34) : halfTop = 18446744073709551616 ^ k * 9223372036854775808 := by subst hk; rfl
theorem tops : 4611686018427387904 * magTop ≤ halfTop := by
  obtain ⟨k, hk⟩ : ∃ k : Nat, k = 2046 := ⟨_, rfl⟩
  obtain ⟨m, hm⟩ : ∃ k : Nat, k = 34 := ⟨_, rfl⟩
  rw [magTop_eq k hk, halfTop_eq m hm]
  have e1 : 4611686018427387904 * (9007199254740992 * 2 ^ k) = 2 ^ (62 + (53 + k)) := by rw [Nat.pow_add, Nat.pow_add]
  have e2 : 18446744073709551616 ^ m * 9223372036854775808 = 2 ^ (64 * m + 63) := by rw [Nat.pow_add, Nat.pow_mul]
  rw [e1, e2]
  exact Nat.pow_le_pow_right Nat.two_pos (by omega)
theorem half_two : M35 = halfTop + halfTop := by
  obtain ⟨m, hm⟩ : ∃ k : Nat, k = 34 := ⟨_, rfl⟩
  rw [halfTop_eq m hm]
  unfold M35
  rw [show (35 : Nat) = m + 1 by omega, Nat.pow_succ, ← Nat.mul_add]

theorem mag_lt (f : Nat) : magF f < magTop := by
  obtain ⟨k, hk⟩ : ∃ k : Nat, k = 2046 := ⟨_, rfl⟩
  rw [magTop_eq k hk]
  have hF : frac f < 4503599627370496 := Nat.mod_lt _ (by decide)
  have hE : expo f < 2048 := Nat.mod_lt _ (by decide)
  unfold magF
  generalize frac f = F at *
  generalize expo f = E at *
  have hp := pow_pos2 k
  split
  · have := Nat.le_mul_of_pos_right 9007199254740992 hp
    omega
  · have h1 : 2 ^ (E - 1) ≤ 2 ^ k := Nat.pow_le_pow_right Nat.two_pos (by omega)
    have h2 : (4503599627370496 + F) * 2 ^ (E - 1) ≤ (4503599627370496 + F) * 2 ^ k := Nat.mul_le_mul_left _ h1
    have h3 : (4503599627370496 + F + 1) * 2 ^ k ≤ 9007199254740992 * 2 ^ k := Nat.mul_le_mul_right _ (by omega)
    rw [Nat.add_mul, Nat.one_mul] at h3
    omega

theorem contrib_le (f : Nat) : (contrib f).natAbs ≤ magTop := by
  have h := mag_lt f
  unfold contrib svalF
  generalize magTop = T at *
  (repeat' split) <;> omega

/-- A sum that fits its words. -/
def Got.ok (g : Got) : Prop := g.total.natAbs ≤ g.count * magTop ∧ g.zeroes ≤ g.count
theorem Got.ok_none : Got.none.ok := ⟨by simp [Got.none], Nat.le_refl _⟩
theorem Got.ok.add {g : Got} (h : g.ok) (f : Nat) : (g.add f).ok := by
  have h1 := contrib_le f
  obtain ⟨h2, h3⟩ := h
  unfold Got.add Got.ok
  dsimp only
  refine ⟨?_, by split <;> omega⟩
  rw [Nat.succ_mul]
  generalize g.count * magTop = X at *
  generalize magTop = T at *
  omega
theorem Got.ok.merge {g h : Got} (hg : g.ok) (hh : h.ok) : (g.merge h).ok := by
  obtain ⟨h1, h2⟩ := hg
  obtain ⟨h3, h4⟩ := hh
  unfold Got.merge Got.ok
  dsimp only
  refine ⟨?_, by omega⟩
  rw [Nat.add_mul]
  generalize g.count * magTop = X at *
  generalize h.count * magTop = Y at *
  omega
theorem Got.ok_of (l : List Nat) : (Got.of l).ok := by
  unfold Got.of
  have : ∀ (l : List Nat) (g : Got), g.ok → (l.foldl Got.add g).ok := by
    intro l
    induction l with
    | nil => intro g hg; exact hg
    | cons f l ih => intro g hg; exact ih _ (hg.add f)
  exact this l _ Got.ok_none
theorem Got.ok.small {g : Got} (h : g.ok) (hc : g.count < 4611686018427387904) : g.total.natAbs < halfTop ∨ (g.total = 0 ∧ 0 < halfTop) := by
  have h1 := tops
  have h2 := h.1
  have h3 : g.count * magTop ≤ 4611686018427387904 * magTop := Nat.mul_le_mul_right _ (Nat.le_of_lt hc)
  rcases Nat.eq_zero_or_pos magTop with h0 | h0
  · right
    rw [h0, Nat.mul_zero] at h2
    refine ⟨by omega, ?_⟩
    have := mag_lt 0
    omega
  · left
    have h4 : g.count * magTop < 4611686018427387904 * magTop := Nat.mul_lt_mul_of_pos_right hc h0
    omega

theorem top_iff {ns : List Nat} (hn : ns.length = 35) (hL : Limbs ns) : topN ns = decide (halfTop ≤ toN ns) := by
  obtain ⟨m, hm⟩ : ∃ k : Nat, k = 34 := ⟨_, rfl⟩
  rw [halfTop_eq m hm]
  obtain ⟨x, hx⟩ : ∃ x, ns[34]? = some x := ⟨ns[34]'(by omega), by simp⟩
  obtain ⟨r, z, h1, h2, h3, h4⟩ := toN_at hL hx
  have hz : z = 0 := by rw [h4, List.drop_eq_nil_of_le (by omega)]; rfl
  subst hz
  rw [← hm] at h1 h2
  unfold topN
  rw [List.getD_eq_getElem?_getD, hx, h1, Nat.mul_zero, Nat.add_zero, Option.getD_some]
  generalize 18446744073709551616 ^ m = P at *
  rw [decide_eq_decide]
  constructor
  · intro h
    have : P * 9223372036854775808 ≤ P * x := Nat.mul_le_mul_left _ h
    omega
  · intro h
    rcases Nat.lt_or_ge x 9223372036854775808 with hlt | hge
    · have : P * (x + 1) ≤ P * 9223372036854775808 := Nat.mul_le_mul_left _ hlt
      rw [Nat.mul_add, Nat.mul_one] at this
      omega
    · exact hge

theorem top_abs {ns : List Nat} (hn : ns.length = 35) (hL : Limbs ns) {t : Int} (ht : (toN ns : Int) = t % (M35 : Int)) (hb : t.natAbs < halfTop) : topN ns = decide (t < 0) ∧ absN ns = t.natAbs := by
  have h1 := top_iff hn hL
  have h2 := half_two
  unfold absN
  rw [show (18446744073709551616 : Nat) ^ 35 = M35 from rfl, h1]
  generalize halfTop = H at *
  generalize M35 = M at *
  generalize toN ns = N at *
  rcases Int.lt_or_le t 0 with h | h
  · have e : t % (M : Int) = t + M := by
      rw [← Int.add_mul_emod_self_left t M 1, Int.mul_one, Int.emod_eq_of_lt (by omega) (by omega)]
    rw [e] at ht
    have : H ≤ N := by omega
    simp only [this, decide_true, if_true, h]
    exact ⟨trivial, by omega⟩
  · rw [Int.emod_eq_of_lt h (by omega)] at ht
    have h3 : ¬ H ≤ N := by omega
    have h4 : ¬ t < 0 := by omega
    simp only [h3, h4, decide_false, Bool.false_eq_true, if_false]
    exact ⟨trivial, by omega⟩

theorem whole_got (b : Nat) (g : Got) (w : World) (h : SumG w b g) (hok : g.ok) (hc : g.count < 4611686018427387904) :
    Calls Try.prog 25 #[.pointer (some ⟨b, 0, none⟩)] w (FPost w g.whole) := by
  obtain ⟨ns, hs, ht⟩ := h
  have hb : g.total.natAbs < halfTop := by rcases hok.small hc with h | ⟨h1, h2⟩; exact h; rw [h1]; exact h2
  obtain ⟨e1, e2⟩ := top_abs hs.2.1 hs.2.2 ht hb
  have hw := whole_any b true ns g.nan g.plus g.minus g.count g.zeroes w hs
  have : wholeB ns g.nan g.plus g.minus g.count g.zeroes = g.whole := by
    unfold wholeB Got.whole
    rw [e1, e2]
    have e3 : (decide (g.total < 0) || (decide ((g.count : Int) > 0) && ((g.zeroes : Int) == (g.count : Int)))) = decide (g.total < 0 ∨ (0 < g.count ∧ g.zeroes = g.count)) := by
      rw [Bool.eq_iff_iff]
      simp only [Bool.or_eq_true, decide_eq_true_eq, Bool.and_eq_true, beq_iff_eq]
      omega
    rw [e3]
    simp only [decide_eq_true_eq]
  rw [this] at hw
  exact hw
theorem SumG.drewN {w : World} {b : Nat} {g : Got} (h : SumG w b g) (n : Nat) : SumG (w.drewN n) b g := h
end Go.Proofs.Ytmllbdiljjimmaa
