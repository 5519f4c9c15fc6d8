/- The walk of the reference: the text of a float. -/
import Derived.Test.YtcmdcclolkgjeaaDoorFRef
namespace Go.Proofs.YtcmdcclolkgjeaaDoor
open Go.RowKit

/-- How far a number is halved. -/
def HalfRel (M O : Nat) (X : Int) (k : Nat) (x : Int) : Prop := k < 9007199254740992 ∧ -1074 ≤ x ∧ x ≤ 1100 ∧ (M = 0 → k = 0) ∧ (M ≠ 0 → k ≠ 0 ∧ k / 2 ^ tzN k = O ∧ x + (tzN k : Int) = X)
theorem HalfRel.step {M O : Nat} {X : Int} {k : Nat} {x : Int} (h : HalfRel M O X k x) (hX : X ≤ 1024) (h0 : 0 < k) (h2 : k % 2 = 0) : HalfRel M O X (k / 2) (x + 1) := by
  obtain ⟨i1, i2, i3, i4, i5⟩ := h
  have hM : M ≠ 0 := fun h => by have := i4 h; omega
  obtain ⟨j1, j2, j3⟩ := i5 hM
  have e := tzN_even j1 h2
  rw [e] at j2 j3
  refine ⟨by omega, by omega, by omega, fun h => absurd h hM, fun _ => ⟨by omega, ?_, by omega⟩⟩
  rw [← j2, Nat.pow_succ, Nat.mul_comm, Nat.div_div_eq_div_mul]
theorem HalfRel.done {M O : Nat} {X : Int} {k : Nat} {x : Int} (h : HalfRel M O X k x) (h0 : ¬ (0 < k ∧ k % 2 = 0)) : (M = 0 ∧ k = 0) ∨ (M ≠ 0 ∧ k ≠ 0 ∧ k = O ∧ x = X) := by
  obtain ⟨i1, i2, i3, i4, i5⟩ := h
  by_cases hM : M = 0
  · exact .inl ⟨hM, i4 hM⟩
  · obtain ⟨j1, j2, j3⟩ := i5 hM
    have e := tzN_odd (x := k) (by omega)
    rw [e] at j2 j3
    refine .inr ⟨hM, j1, ?_, by omega⟩
    rw [← j2, Nat.pow_zero, Nat.div_one]

set_option maxRecDepth 100000 in
set_option maxHeartbeats 3200000 in
theorem text2_num (b : Nat) (hb : b < 18446744073709551616) (hk : kindF b < 3) (w : World) : Calls Tryd.prog 32 #[.int .u64 (b : Int)] w (SPost w (bytesOf (textF b))) := by
  have HN := Lib.hid (nan2_any b hb)
  rw [show (kindF b == 4) = false by rw [beq_eq_false_iff_ne]; omega] at HN
  have hr := (kind_num b).1 hk
  have hx := exp_num hk
  have he : (rungF b : Int) / 4503599627370496 = (expo b : Int) := by rw [expo_rung]; omega
  have hf : (rungF b : Int) % 4503599627370496 = (frac b : Int) := by rw [frac_rung]; omega
  have hF : frac b < 4503599627370496 := Nat.mod_lt _ (by decide)
  have hEl : expo b < 2047 := by rw [expo_rung]; omega
  have HD := Lib.hid (digits2_any (oddF b) (Nat.lt_trans (odd_lt b) (by decide)))
  have HD2 := Lib.hid (digits2_any (expF b).natAbs (by omega))
  have hrel : HalfRel (mantF b) (oddF b) (expF b) (mantF b) ((if expo b = 0 then 1 else expo b : Nat) - 1075) := by
    refine ⟨mant_lt b, by split <;> omega, by split <;> omega, fun h => h, fun h => ⟨h, rfl, ?_⟩⟩
    unfold expF; rw [if_neg h]
  have hz : mantF b = 0 → oddF b = 0 ∧ expF b = 0 := fun h => ⟨by unfold oddF; rw [h, Nat.zero_div], by unfold expF; rw [if_pos h]⟩
  have hm : mantF b = if expo b = 0 then frac b else 4503599627370496 + frac b := rfl
  have ht := text_num hk
  have hc : coreF b = Lib.decDigits (oddF b) ++ 112 :: Lib.itoa (expF b) := rfl
  have hs1 : (bytesOf (Lib.decDigits (oddF b))).size ≤ 20 := by rw [bytes_size]; exact digits_le (Nat.lt_trans (odd_lt b) (by decide))
  have hs2 : (bytesOf (Lib.decDigits (expF b).natAbs)).size ≤ 20 := by rw [bytes_size]; exact digits_le (by omega)
  have hbw := bits_rung hb
  generalize textF b = T at *
  generalize coreF b = C at *
  generalize mantF b = M at *
  generalize oddF b = O at *
  generalize expF b = X at *
  generalize frac b = F at *
  generalize expo b = E at *
  generalize rungF b = R at *
  have hT : T = (if negF b then [45] else []) ++ (Lib.decDigits O ++ 112 :: Lib.itoa X) := by
    rw [ht, hc]
    cases negF b <;> rfl
  obtain ⟨RI, hRI⟩ : ∃ RI, (R : Int) = RI := ⟨_, rfl⟩
  obtain ⟨BI, hBI⟩ : ∃ BI, (b : Int) = BI := ⟨_, rfl⟩
  have hr0 : 0 ≤ RI := by omega
  have hr1 : RI < 9218868437227405312 := by omega
  have hr2 : (RI == 9218868437227405312) = false := by rw [beq_eq_false_iff_ne]; omega
  rw [hRI] at he hf
  rw [hBI] at HN ⊢
  have hbi : BI = if negF b then RI + 9223372036854775808 else RI := by
    cases hn : negF b
    · rw [hn, if_neg Bool.false_ne_true] at hbw; rw [if_neg Bool.false_ne_true]; omega
    · rw [hn, if_pos rfl] at hbw; rw [if_pos rfl]; omega
  clear hbw ht hc hBI hRI hr hk hb
  generalize negF b = ng at *
  clear b
  have hEi : (E : Int) < 2047 := by omega
  have HREL := Lib.hid hrel
  have HZ := Lib.hid hz
  have HM := Lib.hid hm
  have HTT := Lib.hid hT
  clear hrel hz hm hT hEl
  cases ng
  · rw [if_neg Bool.false_ne_true] at hbi HTT
    subst hbi
    by_cases hE0 : E = 0
    · subst hE0
      rw [if_pos rfl] at HREL HM
      go_enter Tryd.func32, Tryd.ntmps32
      go_wp2_with fail
      refine (HN.out _).mono ?_
      rintro e w' ⟨rfl, rfl⟩
      go_wp2
      go_loop [4, 5] (fun m e => ∃ (k : Nat) (x : Int), m = .int .u64 (k : Int) ∧ e = .int .i64 x ∧ Hid (HalfRel M O X k x)) (fun m _ => (intOf m).toNat)
      case atStart => exact ⟨M, _, by rw [HM.out]; congr 1, rfl, HREL.out⟩
      case round =>
        obtain ⟨k, x, rfl, rfl, hr⟩ := hrel
        have hb1 := hr.out.1
        have hb2 := hr.out.2.1
        have hb3 := hr.out.2.2.1
        by_cases hc : 0 < k ∧ k % 2 = 0
        · have hst := Lib.hid (hr.out.step (by omega) hc.1 hc.2)
          have hc1 : (0 : Int) < (k : Int) := by omega
          have hc2 : (k : Int) % 2 = 0 := by omega
          have hc3 := hc.1
          clear hr hc
          go_wp2
          go_round
          case rel => exact ⟨k / 2, x + 1, by go_num, by go_num, hst.out⟩
          case measure => simp [intOf]; omega
        · rcases hr.out.done hc with ⟨hM0, rfl⟩ | ⟨hM1, hk1, rfl, rfl⟩
          · obtain ⟨rfl, rfl⟩ := HZ.out hM0
            rw [Int.natAbs_zero] at HD2 hs2
            have hfin : Hid (bytesOf T = bytesOf [] ++ bytesOf (Lib.decDigits 0) ++ bytesOf [112] ++ bytesOf (Lib.decDigits 0)) := by
              rw [HTT.out, bytes_app, bytes_app, bytes_app, show Lib.itoa 0 = Lib.decDigits 0 from Lib.itoa_nonneg 0]
              show bytesOf _ = bytesOf _
              congr 1
              simp
            clear hr hc HTT HZ hM0
            generalize bytesOf (Lib.decDigits 0) = D at *
            go_wp2_with fail
            refine (HD.out _).mono ?_
            rintro e w1 ⟨rfl, hf1⟩
            have HF1 := Lib.hid hf1
            clear hf1
            go_wp2_with fail
            refine (HD2.out _).mono ?_
            rintro e w2 ⟨rfl, hf2⟩
            have HF2 := Lib.hid (HF1.out.then hf2)
            clear hf2
            go_wp2
            go_ret
            refine ⟨?_, HF2.out⟩
            rw [hfin.out]
            rfl
          · have hkz : ((k : Int) == 0) = false := by rw [beq_eq_false_iff_ne]; omega
            have hkp : (0 : Int) < (k : Int) := by omega
            have hkm : ((k : Int) % 2 == 0) = false := by rw [beq_eq_false_iff_ne]; omega
            rcases Int.lt_or_le x 0 with hx0 | hx0
            · obtain ⟨n, rfl⟩ : ∃ n : Nat, x = -(n : Int) := ⟨x.natAbs, by omega⟩
              have hn1 : 1 ≤ n := by omega
              rw [Int.natAbs_neg, Int.natAbs_natCast] at HD2 hs2
              have hfin : Hid (bytesOf T = bytesOf [] ++ bytesOf (Lib.decDigits k) ++ bytesOf [112, 45] ++ bytesOf (Lib.decDigits n)) := by
                rw [HTT.out, bytes_app, bytes_app, bytes_app, Lib.itoa_neg n hn1]
                show bytesOf _ = bytesOf _
                congr 1
                simp
              clear hr hc HTT HZ HREL
              generalize bytesOf (Lib.decDigits k) = D at *
              generalize bytesOf (Lib.decDigits n) = D2 at *
              go_wp2_with fail
              refine (HD.out _).mono ?_
              rintro e w1 ⟨rfl, hf1⟩
              have HF1 := Lib.hid hf1
              clear hf1
              go_wp2_with fail
              refine (HD2.out _).mono ?_
              rintro e w2 ⟨rfl, hf2⟩
              have HF2 := Lib.hid (HF1.out.then hf2)
              clear hf2
              go_wp2
              go_ret
              refine ⟨?_, HF2.out⟩
              rw [hfin.out]
              rfl
            · obtain ⟨n, rfl⟩ : ∃ n : Nat, x = (n : Int) := ⟨x.natAbs, by omega⟩
              rw [Int.natAbs_natCast] at HD2 hs2
              have hfin : Hid (bytesOf T = bytesOf [] ++ bytesOf (Lib.decDigits k) ++ bytesOf [112] ++ bytesOf (Lib.decDigits n)) := by
                rw [HTT.out, bytes_app, bytes_app, bytes_app, Lib.itoa_nonneg n]
                show bytesOf _ = bytesOf _
                congr 1
                simp
              clear hr hc HTT HZ HREL
              generalize bytesOf (Lib.decDigits k) = D at *
              generalize bytesOf (Lib.decDigits n) = D2 at *
              go_wp2_with fail
              refine (HD.out _).mono ?_
              rintro e w1 ⟨rfl, hf1⟩
              have HF1 := Lib.hid hf1
              clear hf1
              go_wp2_with fail
              refine (HD2.out _).mono ?_
              rintro e w2 ⟨rfl, hf2⟩
              have HF2 := Lib.hid (HF1.out.then hf2)
              clear hf2
              go_wp2
              go_ret
              refine ⟨?_, HF2.out⟩
              rw [hfin.out]
              rfl
    · rw [if_neg hE0] at HREL HM
      have d1 : decide (0 < E) = true := by rw [decide_eq_true_eq]; omega
      go_enter Tryd.func32, Tryd.ntmps32
      go_wp2_with fail
      refine (HN.out _).mono ?_
      rintro e w' ⟨rfl, rfl⟩
      go_wp2
      go_loop [4, 5] (fun m e => ∃ (k : Nat) (x : Int), m = .int .u64 (k : Int) ∧ e = .int .i64 x ∧ Hid (HalfRel M O X k x)) (fun m _ => (intOf m).toNat)
      case atStart => exact ⟨M, _, by rw [HM.out]; congr 1; omega, rfl, HREL.out⟩
      case round =>
        obtain ⟨k, x, rfl, rfl, hr⟩ := hrel
        have hb1 := hr.out.1
        have hb2 := hr.out.2.1
        have hb3 := hr.out.2.2.1
        by_cases hc : 0 < k ∧ k % 2 = 0
        · have hst := Lib.hid (hr.out.step (by omega) hc.1 hc.2)
          have hc1 : (0 : Int) < (k : Int) := by omega
          have hc2 : (k : Int) % 2 = 0 := by omega
          have hc3 := hc.1
          clear hr hc
          go_wp2
          go_round
          case rel => exact ⟨k / 2, x + 1, by go_num, by go_num, hst.out⟩
          case measure => simp [intOf]; omega
        · rcases hr.out.done hc with ⟨hM0, rfl⟩ | ⟨hM1, hk1, rfl, rfl⟩
          · obtain ⟨rfl, rfl⟩ := HZ.out hM0
            rw [Int.natAbs_zero] at HD2 hs2
            have hfin : Hid (bytesOf T = bytesOf [] ++ bytesOf (Lib.decDigits 0) ++ bytesOf [112] ++ bytesOf (Lib.decDigits 0)) := by
              rw [HTT.out, bytes_app, bytes_app, bytes_app, show Lib.itoa 0 = Lib.decDigits 0 from Lib.itoa_nonneg 0]
              show bytesOf _ = bytesOf _
              congr 1
              simp
            clear hr hc HTT HZ hM0
            generalize bytesOf (Lib.decDigits 0) = D at *
            go_wp2_with fail
            refine (HD.out _).mono ?_
            rintro e w1 ⟨rfl, hf1⟩
            have HF1 := Lib.hid hf1
            clear hf1
            go_wp2_with fail
            refine (HD2.out _).mono ?_
            rintro e w2 ⟨rfl, hf2⟩
            have HF2 := Lib.hid (HF1.out.then hf2)
            clear hf2
            go_wp2
            go_ret
            refine ⟨?_, HF2.out⟩
            rw [hfin.out]
            rfl
          · have hkz : ((k : Int) == 0) = false := by rw [beq_eq_false_iff_ne]; omega
            have hkp : (0 : Int) < (k : Int) := by omega
            have hkm : ((k : Int) % 2 == 0) = false := by rw [beq_eq_false_iff_ne]; omega
            rcases Int.lt_or_le x 0 with hx0 | hx0
            · obtain ⟨n, rfl⟩ : ∃ n : Nat, x = -(n : Int) := ⟨x.natAbs, by omega⟩
              have hn1 : 1 ≤ n := by omega
              rw [Int.natAbs_neg, Int.natAbs_natCast] at HD2 hs2
              have hfin : Hid (bytesOf T = bytesOf [] ++ bytesOf (Lib.decDigits k) ++ bytesOf [112, 45] ++ bytesOf (Lib.decDigits n)) := by
                rw [HTT.out, bytes_app, bytes_app, bytes_app, Lib.itoa_neg n hn1]
                show bytesOf _ = bytesOf _
                congr 1
                simp
              clear hr hc HTT HZ HREL
              generalize bytesOf (Lib.decDigits k) = D at *
              generalize bytesOf (Lib.decDigits n) = D2 at *
              go_wp2_with fail
              refine (HD.out _).mono ?_
              rintro e w1 ⟨rfl, hf1⟩
              have HF1 := Lib.hid hf1
              clear hf1
              go_wp2_with fail
              refine (HD2.out _).mono ?_
              rintro e w2 ⟨rfl, hf2⟩
              have HF2 := Lib.hid (HF1.out.then hf2)
              clear hf2
              go_wp2
              go_ret
              refine ⟨?_, HF2.out⟩
              rw [hfin.out]
              rfl
            · obtain ⟨n, rfl⟩ : ∃ n : Nat, x = (n : Int) := ⟨x.natAbs, by omega⟩
              rw [Int.natAbs_natCast] at HD2 hs2
              have hfin : Hid (bytesOf T = bytesOf [] ++ bytesOf (Lib.decDigits k) ++ bytesOf [112] ++ bytesOf (Lib.decDigits n)) := by
                rw [HTT.out, bytes_app, bytes_app, bytes_app, Lib.itoa_nonneg n]
                show bytesOf _ = bytesOf _
                congr 1
                simp
              clear hr hc HTT HZ HREL
              generalize bytesOf (Lib.decDigits k) = D at *
              generalize bytesOf (Lib.decDigits n) = D2 at *
              go_wp2_with fail
              refine (HD.out _).mono ?_
              rintro e w1 ⟨rfl, hf1⟩
              have HF1 := Lib.hid hf1
              clear hf1
              go_wp2_with fail
              refine (HD2.out _).mono ?_
              rintro e w2 ⟨rfl, hf2⟩
              have HF2 := Lib.hid (HF1.out.then hf2)
              clear hf2
              go_wp2
              go_ret
              refine ⟨?_, HF2.out⟩
              rw [hfin.out]
              rfl
  · rw [if_pos rfl] at hbi HTT
    subst hbi
    by_cases hE0 : E = 0
    · subst hE0
      rw [if_pos rfl] at HREL HM
      go_enter Tryd.func32, Tryd.ntmps32
      go_wp2_with fail
      refine (HN.out _).mono ?_
      rintro e w' ⟨rfl, rfl⟩
      go_wp2
      go_loop [4, 5] (fun m e => ∃ (k : Nat) (x : Int), m = .int .u64 (k : Int) ∧ e = .int .i64 x ∧ Hid (HalfRel M O X k x)) (fun m _ => (intOf m).toNat)
      case atStart => exact ⟨M, _, by rw [HM.out]; congr 1, rfl, HREL.out⟩
      case round =>
        obtain ⟨k, x, rfl, rfl, hr⟩ := hrel
        have hb1 := hr.out.1
        have hb2 := hr.out.2.1
        have hb3 := hr.out.2.2.1
        by_cases hc : 0 < k ∧ k % 2 = 0
        · have hst := Lib.hid (hr.out.step (by omega) hc.1 hc.2)
          have hc1 : (0 : Int) < (k : Int) := by omega
          have hc2 : (k : Int) % 2 = 0 := by omega
          have hc3 := hc.1
          clear hr hc
          go_wp2
          go_round
          case rel => exact ⟨k / 2, x + 1, by go_num, by go_num, hst.out⟩
          case measure => simp [intOf]; omega
        · rcases hr.out.done hc with ⟨hM0, rfl⟩ | ⟨hM1, hk1, rfl, rfl⟩
          · obtain ⟨rfl, rfl⟩ := HZ.out hM0
            rw [Int.natAbs_zero] at HD2 hs2
            have hfin : Hid (bytesOf T = bytesOf [45] ++ bytesOf (Lib.decDigits 0) ++ bytesOf [112] ++ bytesOf (Lib.decDigits 0)) := by
              rw [HTT.out, bytes_app, bytes_app, bytes_app, show Lib.itoa 0 = Lib.decDigits 0 from Lib.itoa_nonneg 0]
              show bytesOf _ = bytesOf _
              congr 1
              simp
            clear hr hc HTT HZ hM0
            generalize bytesOf (Lib.decDigits 0) = D at *
            go_wp2_with fail
            refine (HD.out _).mono ?_
            rintro e w1 ⟨rfl, hf1⟩
            have HF1 := Lib.hid hf1
            clear hf1
            go_wp2_with fail
            refine (HD2.out _).mono ?_
            rintro e w2 ⟨rfl, hf2⟩
            have HF2 := Lib.hid (HF1.out.then hf2)
            clear hf2
            go_wp2
            go_ret
            refine ⟨?_, HF2.out⟩
            rw [hfin.out]
            rfl
          · have hkz : ((k : Int) == 0) = false := by rw [beq_eq_false_iff_ne]; omega
            have hkp : (0 : Int) < (k : Int) := by omega
            have hkm : ((k : Int) % 2 == 0) = false := by rw [beq_eq_false_iff_ne]; omega
            rcases Int.lt_or_le x 0 with hx0 | hx0
            · obtain ⟨n, rfl⟩ : ∃ n : Nat, x = -(n : Int) := ⟨x.natAbs, by omega⟩
              have hn1 : 1 ≤ n := by omega
              rw [Int.natAbs_neg, Int.natAbs_natCast] at HD2 hs2
              have hfin : Hid (bytesOf T = bytesOf [45] ++ bytesOf (Lib.decDigits k) ++ bytesOf [112, 45] ++ bytesOf (Lib.decDigits n)) := by
                rw [HTT.out, bytes_app, bytes_app, bytes_app, Lib.itoa_neg n hn1]
                show bytesOf _ = bytesOf _
                congr 1
                simp
              clear hr hc HTT HZ HREL
              generalize bytesOf (Lib.decDigits k) = D at *
              generalize bytesOf (Lib.decDigits n) = D2 at *
              go_wp2_with fail
              refine (HD.out _).mono ?_
              rintro e w1 ⟨rfl, hf1⟩
              have HF1 := Lib.hid hf1
              clear hf1
              go_wp2_with fail
              refine (HD2.out _).mono ?_
              rintro e w2 ⟨rfl, hf2⟩
              have HF2 := Lib.hid (HF1.out.then hf2)
              clear hf2
              go_wp2
              go_ret
              refine ⟨?_, HF2.out⟩
              rw [hfin.out]
              rfl
            · obtain ⟨n, rfl⟩ : ∃ n : Nat, x = (n : Int) := ⟨x.natAbs, by omega⟩
              rw [Int.natAbs_natCast] at HD2 hs2
              have hfin : Hid (bytesOf T = bytesOf [45] ++ bytesOf (Lib.decDigits k) ++ bytesOf [112] ++ bytesOf (Lib.decDigits n)) := by
                rw [HTT.out, bytes_app, bytes_app, bytes_app, Lib.itoa_nonneg n]
                show bytesOf _ = bytesOf _
                congr 1
                simp
              clear hr hc HTT HZ HREL
              generalize bytesOf (Lib.decDigits k) = D at *
              generalize bytesOf (Lib.decDigits n) = D2 at *
              go_wp2_with fail
              refine (HD.out _).mono ?_
              rintro e w1 ⟨rfl, hf1⟩
              have HF1 := Lib.hid hf1
              clear hf1
              go_wp2_with fail
              refine (HD2.out _).mono ?_
              rintro e w2 ⟨rfl, hf2⟩
              have HF2 := Lib.hid (HF1.out.then hf2)
              clear hf2
              go_wp2
              go_ret
              refine ⟨?_, HF2.out⟩
              rw [hfin.out]
              rfl
    · rw [if_neg hE0] at HREL HM
      have d1 : decide (0 < E) = true := by rw [decide_eq_true_eq]; omega
      go_enter Tryd.func32, Tryd.ntmps32
      go_wp2_with fail
      refine (HN.out _).mono ?_
      rintro e w' ⟨rfl, rfl⟩
      go_wp2
      go_loop [4, 5] (fun m e => ∃ (k : Nat) (x : Int), m = .int .u64 (k : Int) ∧ e = .int .i64 x ∧ Hid (HalfRel M O X k x)) (fun m _ => (intOf m).toNat)
      case atStart => exact ⟨M, _, by rw [HM.out]; congr 1; omega, rfl, HREL.out⟩
      case round =>
        obtain ⟨k, x, rfl, rfl, hr⟩ := hrel
        have hb1 := hr.out.1
        have hb2 := hr.out.2.1
        have hb3 := hr.out.2.2.1
        by_cases hc : 0 < k ∧ k % 2 = 0
        · have hst := Lib.hid (hr.out.step (by omega) hc.1 hc.2)
          have hc1 : (0 : Int) < (k : Int) := by omega
          have hc2 : (k : Int) % 2 = 0 := by omega
          have hc3 := hc.1
          clear hr hc
          go_wp2
          go_round
          case rel => exact ⟨k / 2, x + 1, by go_num, by go_num, hst.out⟩
          case measure => simp [intOf]; omega
        · rcases hr.out.done hc with ⟨hM0, rfl⟩ | ⟨hM1, hk1, rfl, rfl⟩
          · obtain ⟨rfl, rfl⟩ := HZ.out hM0
            rw [Int.natAbs_zero] at HD2 hs2
            have hfin : Hid (bytesOf T = bytesOf [45] ++ bytesOf (Lib.decDigits 0) ++ bytesOf [112] ++ bytesOf (Lib.decDigits 0)) := by
              rw [HTT.out, bytes_app, bytes_app, bytes_app, show Lib.itoa 0 = Lib.decDigits 0 from Lib.itoa_nonneg 0]
              show bytesOf _ = bytesOf _
              congr 1
              simp
            clear hr hc HTT HZ hM0
            generalize bytesOf (Lib.decDigits 0) = D at *
            go_wp2_with fail
            refine (HD.out _).mono ?_
            rintro e w1 ⟨rfl, hf1⟩
            have HF1 := Lib.hid hf1
            clear hf1
            go_wp2_with fail
            refine (HD2.out _).mono ?_
            rintro e w2 ⟨rfl, hf2⟩
            have HF2 := Lib.hid (HF1.out.then hf2)
            clear hf2
            go_wp2
            go_ret
            refine ⟨?_, HF2.out⟩
            rw [hfin.out]
            rfl
          · have hkz : ((k : Int) == 0) = false := by rw [beq_eq_false_iff_ne]; omega
            have hkp : (0 : Int) < (k : Int) := by omega
            have hkm : ((k : Int) % 2 == 0) = false := by rw [beq_eq_false_iff_ne]; omega
            rcases Int.lt_or_le x 0 with hx0 | hx0
            · obtain ⟨n, rfl⟩ : ∃ n : Nat, x = -(n : Int) := ⟨x.natAbs, by omega⟩
              have hn1 : 1 ≤ n := by omega
              rw [Int.natAbs_neg, Int.natAbs_natCast] at HD2 hs2
              have hfin : Hid (bytesOf T = bytesOf [45] ++ bytesOf (Lib.decDigits k) ++ bytesOf [112, 45] ++ bytesOf (Lib.decDigits n)) := by
                rw [HTT.out, bytes_app, bytes_app, bytes_app, Lib.itoa_neg n hn1]
                show bytesOf _ = bytesOf _
                congr 1
                simp
              clear hr hc HTT HZ HREL
              generalize bytesOf (Lib.decDigits k) = D at *
              generalize bytesOf (Lib.decDigits n) = D2 at *
              go_wp2_with fail
              refine (HD.out _).mono ?_
              rintro e w1 ⟨rfl, hf1⟩
              have HF1 := Lib.hid hf1
              clear hf1
              go_wp2_with fail
              refine (HD2.out _).mono ?_
              rintro e w2 ⟨rfl, hf2⟩
              have HF2 := Lib.hid (HF1.out.then hf2)
              clear hf2
              go_wp2
              go_ret
              refine ⟨?_, HF2.out⟩
              rw [hfin.out]
              rfl
            · obtain ⟨n, rfl⟩ : ∃ n : Nat, x = (n : Int) := ⟨x.natAbs, by omega⟩
              rw [Int.natAbs_natCast] at HD2 hs2
              have hfin : Hid (bytesOf T = bytesOf [45] ++ bytesOf (Lib.decDigits k) ++ bytesOf [112] ++ bytesOf (Lib.decDigits n)) := by
                rw [HTT.out, bytes_app, bytes_app, bytes_app, Lib.itoa_nonneg n]
                show bytesOf _ = bytesOf _
                congr 1
                simp
              clear hr hc HTT HZ HREL
              generalize bytesOf (Lib.decDigits k) = D at *
              generalize bytesOf (Lib.decDigits n) = D2 at *
              go_wp2_with fail
              refine (HD.out _).mono ?_
              rintro e w1 ⟨rfl, hf1⟩
              have HF1 := Lib.hid hf1
              clear hf1
              go_wp2_with fail
              refine (HD2.out _).mono ?_
              rintro e w2 ⟨rfl, hf2⟩
              have HF2 := Lib.hid (HF1.out.then hf2)
              clear hf2
              go_wp2
              go_ret
              refine ⟨?_, HF2.out⟩
              rw [hfin.out]
              rfl

theorem text2_any (b : Nat) (hb : b < 18446744073709551616) (w : World) : Calls Tryd.prog 32 #[.int .u64 (b : Int)] w (SPost w (bytesOf (textF b))) := by
  by_cases hk : kindF b < 3
  · exact text2_num b hb hk w
  have HN := Lib.hid (nan2_any b hb)
  by_cases h4 : kindF b = 4
  · rw [show (kindF b == 4) = true by rw [h4]; rfl] at HN
    rw [show textF b = [110, 97, 110] by unfold textF; rw [if_pos h4]]
    clear hk h4 hb
    go_enter Tryd.func32, Tryd.ntmps32
    go_wp2_with fail
    refine (HN.out _).mono ?_
    rintro e w' ⟨rfl, rfl⟩
    go_wp2
    go_ret
    exact ⟨rfl, Fr.refl _ _⟩
  have h3 : kindF b = 3 := by have := kind_le b; omega
  rw [show (kindF b == 4) = false by rw [beq_eq_false_iff_ne]; exact h4] at HN
  have hr := (kind_inf b).1 h3
  have hbw := bits_rung hb
  rw [hr] at hbw
  have ht : textF b = if negF b then [45, 105, 110, 102] else [105, 110, 102] := by unfold textF; rw [if_neg h4, if_pos h3]
  rw [ht]
  generalize negF b = ng at *
  clear ht h3 h4 hk hr
  cases ng
  · rw [if_neg Bool.false_ne_true] at hbw
    subst hbw
    rw [if_neg Bool.false_ne_true]
    clear hb
    go_enter Tryd.func32, Tryd.ntmps32
    go_wp2_with fail
    refine (HN.out _).mono ?_
    rintro e w' ⟨rfl, rfl⟩
    go_wp2
    go_ret
    exact ⟨rfl, Fr.refl _ _⟩
  · rw [if_pos rfl] at hbw
    subst hbw
    rw [if_pos rfl]
    clear hb
    go_enter Tryd.func32, Tryd.ntmps32
    go_wp2_with fail
    refine (HN.out _).mono ?_
    rintro e w' ⟨rfl, rfl⟩
    go_wp2
    go_ret
    exact ⟨rfl, Fr.refl _ _⟩
end Go.Proofs.YtcmdcclolkgjeaaDoor
