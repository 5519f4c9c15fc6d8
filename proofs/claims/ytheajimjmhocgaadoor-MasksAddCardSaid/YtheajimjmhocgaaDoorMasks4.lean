/- The walks of package masks and of its reference: picking, turning, powers of two, rounding. -/
import Derived.Test.YtheajimjmhocgaaDoorMasks3
namespace Go.Proofs.YtheajimjmhocgaaDoor
open Go.RowKit

theorem cnt_between (x a b : Nat) (hab : a ≤ b) (hb : b ≤ 64) : cntW (inF x (a : Int) (b : Int)) 64 = below x b - below x a := by
  have h := cntW_run x a b 64 hab
  rw [show min b 64 = b by omega, show min a 64 = a by omega] at h
  rw [← h]
  refine cntW_congr fun j _ => ?_
  unfold inF
  simp

/-- The number of a word of which K are less. -/
def pickF (x : Nat) (K : Int) (j : Nat) : Bool := x.testBit j && decide ((below x j : Int) = K)

theorem pick_found {x K p : Nat} (hp : p < 64) (h1 : below x p ≤ K) (h2 : K < below x (p + 1)) : firstW (pickF x K) 0 64 = p := by
  rw [below_succ] at h2
  have hb : x.testBit p = true := by
    cases h : x.testBit p with
    | true => rfl
    | false => rw [h] at h2; simp at h2; omega
  rw [hb] at h2
  simp only [if_true] at h2
  have hK : below x p = K := by omega
  refine firstW_at (Nat.zero_le _) (by omega) ?_ ?_
  · unfold pickF; simp [hb, hK]
  · intro j _ hj
    unfold pickF
    cases hbj : x.testBit j with
    | false => rfl
    | true =>
      have := below_lt x hj hbj
      simp; omega
theorem pick_none {x : Nat} {K : Int} (h : K < 0 ∨ (below x 64 : Int) ≤ K) : firstW (pickF x K) 0 64 = 64 := by
  have := firstW_none (f := pickF x K) (a := 0) (n := 64) (fun j _ hj => by
    unfold pickF
    cases hbj : x.testBit j with
    | false => rfl
    | true =>
      have := below_lt x (show j < 64 by omega) hbj
      simp; omega)
  simpa using this

set_option maxHeartbeats 800000 in
theorem rpick_any (x : Nat) (hx : x < 18446744073709551616) (K : Int) (w : World) :
    Calls Tryd.prog 17 #[.int .u64 (x : Int), .int .i64 K] w fun e w' => e = .returned (.int .i64 ((firstW (pickF x K) 0 64 : Nat) : Int)) ∧ w = w' := by
  go_enter Tryd.func17, Tryd.ntmps17
  go_wp2
  go_loop [5] (fun k => ∃ j : Nat, j ≤ 64 ∧ k = .int .i64 j ∧ firstW (pickF x K) 0 64 = firstW (pickF x K) j (64 - j)) (fun k => 64 - (intOf k).toNat)
  case atStart => exact ⟨0, Nat.zero_le _, rfl, rfl⟩
  case round =>
    obtain ⟨j, hj, rfl, hf⟩ := hrel
    by_cases hlt : j < 64
    · rw [firstW_step _ hlt] at hf
      change firstW (pickF x K) 0 64 = if (x.testBit j && decide ((below x j : Int) = K)) = true then j else firstW (pickF x K) (j + 1) (64 - (j + 1)) at hf
      have hc := rcount_any x hx 0 (j : Int) w
      have hcb := cnt_between x 0 j (Nat.zero_le _) (by omega)
      have h00 : below x 0 = 0 := rfl
      rw [h00, Nat.sub_zero] at hcb
      have hcb' : cntW (inF x 0 (j : Int)) 64 = below x j := hcb
      rw [hcb'] at hc
      clear hcb hcb' h00
      generalize below x j = c at *
      have Hc := Lib.hid hc
      clear hc
      cases hB : x.testBit j with
      | true =>
        by_cases hK : (c : Int) = K
        · simp only [hB, hK, decide_true, Bool.and_self, if_true] at hf
          have Hf := Lib.hid hf
          have HB := Lib.hid hB
          have hq : ((c : Int) == K) = true := by simp [hK]
          clear hf hB hK
          go_wp2_with fail
          refine (in_b x j hx hlt _ HB.out _).mono ?_
          rintro e w' ⟨rfl, rfl⟩
          go_wp2_with fail
          refine (Hc.out).mono ?_
          rintro e w' ⟨rfl, rfl⟩
          go_wp2
          go_ret
          exact ⟨congrArg (fun z : Nat => Ending.returned (.int .i64 (z : Int))) Hf.out.symm, rfl⟩
        · simp only [hB, hK, decide_false, Bool.and_false, Bool.false_eq_true, if_false] at hf
          have Hf := Lib.hid hf
          have HB := Lib.hid hB
          have hq : ((c : Int) == K) = false := by simp [hK]
          clear hf hB hK
          go_wp2_with fail
          refine (in_b x j hx hlt _ HB.out _).mono ?_
          rintro e w' ⟨rfl, rfl⟩
          go_wp2_with fail
          refine (Hc.out).mono ?_
          rintro e w' ⟨rfl, rfl⟩
          go_wp2
          go_round
          case rel => exact ⟨j + 1, by omega, by go_num, Hf.out⟩
          case measure => simp [intOf]; omega
      | false =>
        simp only [hB, Bool.false_and, Bool.false_eq_true, if_false] at hf
        have Hf := Lib.hid hf
        have HB := Lib.hid hB
        clear hf hB
        go_wp2_with fail
        refine (in_b x j hx hlt _ HB.out _).mono ?_
        rintro e w' ⟨rfl, rfl⟩
        go_wp2
        go_round
        case rel => exact ⟨j + 1, by omega, by go_num, Hf.out⟩
        case measure => simp [intOf]; omega
    · obtain rfl : j = 64 := by omega
      have hf' : firstW (pickF x K) 0 64 = 64 := hf
      have Hf := Lib.hid hf'
      clear hf hf'
      go_wp2
      go_ret
      exact ⟨congrArg (fun z : Nat => Ending.returned (.int .i64 (z : Int))) Hf.out.symm, rfl⟩

set_option maxHeartbeats 1600000 in
theorem pick_any (x : Nat) (hx : x < 18446744073709551616) (K : Int) (w : World) :
    Calls Tryd.prog 16 #[.int .u64 (x : Int), .int .i64 K] w fun e w' => e = .returned (.int .i64 ((firstW (pickF x K) 0 64 : Nat) : Int)) ∧ w = w' := by
  have ho := ones_any x hx w
  have hle : cntW (fun j => x.testBit j) 64 ≤ 64 := cntW_le _ _
  have hpk : K < 0 ∨ (below x 64 : Int) ≤ K → firstW (pickF x K) 0 64 = 64 := pick_none
  by_cases hneg : K < 0
  · rw [hpk (.inl hneg)]
    clear hpk ho
    go_enter Tryd.func16, Tryd.ntmps16
    go_wp2
    go_ret
    exact ⟨rfl, rfl⟩
  have hK0 : 0 ≤ K := by omega
  by_cases hbig : (below x 64 : Int) ≤ K
  · rw [hpk (.inr hbig)]
    change ((cntW (fun j => x.testBit j) 64 : Nat) : Int) ≤ K at hbig
    generalize cntW (fun j => x.testBit j) 64 = c at *
    have Ho := Lib.hid ho
    clear hpk ho
    go_enter Tryd.func16, Tryd.ntmps16
    go_wp2_with (go_at_call 34; refine (Ho.out).mono ?_; rintro e w' ⟨rfl, rfl⟩)
    go_ret
    exact ⟨rfl, rfl⟩
  obtain ⟨k, rfl⟩ := Int.eq_ofNat_of_zero_le hK0
  clear hpk hneg hK0
  have hk : k < below x 64 := by omega
  have hkc : (k : Int) < (cntW (fun j => x.testBit j) 64 : Nat) := by have : k < cntW (fun j => x.testBit j) 64 := hk; omega
  clear hbig
  generalize cntW (fun j => x.testBit j) 64 = c at ho hkc hle
  have Ho := Lib.hid ho
  clear ho
  have Hk := Lib.hid hk
  clear hk
  have hd1 : decide ((k : Int) < 0) = false := by simp
  have hd2 : decide ((c : Int) ≤ (k : Int)) = false := by simp; omega
  have hd3 : decide (c ≤ k) = false := by simp; omega
  go_enter Tryd.func16, Tryd.ntmps16
  go_wp2_with (go_at_call 34; refine (Ho.out).mono ?_; rintro e w' ⟨rfl, rfl⟩)
  go_loop [1, 5, 6] (fun q p h => ∃ p' h' : Nat, (h' = 32 ∨ h' = 16 ∨ h' = 8 ∨ h' = 4 ∨ h' = 2 ∨ h' = 1 ∨ h' = 0) ∧ p = .int .i64 p' ∧ h = .int .i64 h' ∧ q = .int .i64 ((k : Int) - (below x p' : Nat)) ∧
    p' + (if h' = 0 then 1 else 2 * h') ≤ 64 ∧ below x p' ≤ k ∧ k < below x (p' + (if h' = 0 then 1 else 2 * h'))) (fun _ _ h => (intOf h).toNat)
  case atStart => exact ⟨0, 32, .inl rfl, rfl, rfl, by simp [below, cntW], by simp, by simp [below, cntW], by simpa using Hk.out⟩
  case round =>
    obtain ⟨p, h, hh, rfl, rfl, rfl, hp, h1, h2⟩ := hrel
    by_cases h0 : h = 0
    · subst h0
      simp only [if_true] at hp h2
      have hf := pick_found (show p < 64 by omega) h1 h2
      have Hf := Lib.hid hf
      clear hf h1 h2
      generalize below x p = b at *
      go_wp2
      go_ret
      exact ⟨congrArg (fun z : Nat => Ending.returned (.int .i64 (z : Int))) Hf.out.symm, rfl⟩
    · rw [if_neg h0] at hp h2
      have hpos : 0 < h := by omega
      have hcount := count_any x hx (p : Int) ((p : Int) + h) w
      have hcb := cnt_between x p (p + h) (by omega) (by omega)
      rw [show ((p + h : Nat) : Int) = (p : Int) + h by omega] at hcb
      rw [hcb] at hcount
      have hm1 := below_mono x (show p ≤ p + h by omega)
      have hb64 : below x (p + h) ≤ p + h := cntW_le _ _
      have hw : (if h / 2 = 0 then 1 else 2 * (h / 2)) = h := by rcases hh with e | e | e | e | e | e | e <;> subst e <;> first | rfl | omega
      have Hw := Lib.hid hw
      have Hh := Lib.hid (show h / 2 = 32 ∨ h / 2 = 16 ∨ h / 2 = 8 ∨ h / 2 = 4 ∨ h / 2 = 2 ∨ h / 2 = 1 ∨ h / 2 = 0 by omega)
      have hh32 : h ≤ 32 := by omega
      have Hc := Lib.hid hcount
      have H2 := Lib.hid h2
      clear hcb hcount hw hh h2
      by_cases hle2 : below x (p + h) ≤ k
      · have H1 := Lib.hid hle2
        have H3 : Hid (p + h + h = p + 2 * h) := Lib.hid (by omega)
        generalize hA : below x (p + h) = A at *
        generalize below x p = B at *
        have HA := Lib.hid hA
        clear hA
        go_wp2_with fail
        refine (Hc.out).mono ?_
        rintro e w' ⟨rfl, rfl⟩
        go_wp2
        go_round
        case rel => exact ⟨p + h, h / 2, Hh.out, by go_num, by go_num, by rw [HA.out]; go_num, by rw [Hw.out]; omega, by rw [HA.out]; exact H1.out, by rw [Hw.out, H3.out]; exact H2.out⟩
        case measure => simp [intOf]; omega
      · have H1 : Hid (k < below x (p + h)) := Lib.hid (by omega)
        have h1' := h1
        generalize hA : below x (p + h) = A at *
        generalize hB : below x p = B at *
        have HB := Lib.hid hB
        have HA := Lib.hid hA
        clear hA hB
        go_wp2_with fail
        refine (Hc.out).mono ?_
        rintro e w' ⟨rfl, rfl⟩
        go_wp2
        go_round
        case rel => exact ⟨p, h / 2, Hh.out, by go_num, by go_num, by rw [HB.out], by rw [Hw.out]; omega, by rw [HB.out]; exact h1, by rw [Hw.out, HA.out]; exact H1.out⟩
        case measure => simp [intOf]; omega
end Go.Proofs.YtheajimjmhocgaaDoor
