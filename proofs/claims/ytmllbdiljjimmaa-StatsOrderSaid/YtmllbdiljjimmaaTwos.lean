/- The walk of the law ExactTwo. -/
import Derived.Test.YtmllbdiljjimmaaTwo
import Derived.Test.YtmllbdiljjimmaaNobody
namespace Go.Proofs.Ytmllbdiljjimmaa
open Go.RowKit

/-- What an operation on floats gives, with the one NaN. -/
def opF (o : Option Nat) : Nat := match o with | some q => canonF q | none => 9221120237041090560
theorem drawn_nan (t : Nat) : t % 2 * 2 ^ 63 + 9218868437227405312 + 1 + t / 2 % (2 ^ 52 - 1) < 18446744073709551616 ∧ kindF (t % 2 * 2 ^ 63 + 9218868437227405312 + 1 + t / 2 % (2 ^ 52 - 1)) = 4 := by
  have h1 : t % 2 < 2 := Nat.mod_lt _ (by decide)
  have h2 : t / 2 % (2 ^ 52 - 1) < 2 ^ 52 - 1 := Nat.mod_lt _ (by decide)
  generalize t % 2 = x at *
  generalize t / 2 % (2 ^ 52 - 1) = y at *
  refine ⟨by omega, ?_⟩
  rw [kind_nan]
  unfold rungF
  omega
theorem canon_lt {f : Nat} (h : f < 18446744073709551616) : canonF f < 18446744073709551616 := by
  unfold canonF; split <;> omega
theorem canon_nan {f : Nat} (h : kindF f = 4) : canonF f = 9221120237041090560 := by unfold canonF; rw [if_pos h]
theorem canon_num {f : Nat} (h : kindF f ≠ 4) : canonF f = f := by unfold canonF; rw [if_neg h]

theorem run_arith_any {P : Program} (op : BinOp) (hop : op = .add ∨ op = .quo) (t : TypeId) (b c : Nat) (w : World) :
    ∃ r w', (binOp op t (.float .f64 b) (.float .f64 c)).run P w = .ok (.float .f64 r) w' ∧ Fr (fun _ => False) w w' ∧ r < 18446744073709551616 ∧ canonF r = opF (floatBits op .f64 b c) := by
  cases h : floatBits op .f64 b c with
  | some r =>
    have hw := floatBits_wf h
    simp only [Lit.wf, decide_eq_true_eq] at hw
    exact ⟨r, w, run_float_arith w op t .f64 b c r h, Fr.refl _ w, hw, rfl⟩
  | none =>
    have hd := drawn_nan (w.tape w.drawn (.nanBits .f64 b c))
    refine ⟨(Question.nanBits .f64 b c).cut (w.tape w.drawn (.nanBits .f64 b c)), w.drew, ?_, (Fr.refl _ w).drew, hd.1, ?_⟩
    · rcases hop with rfl | rfl <;> unfold floatBits at h <;> simp only at h <;> simp [binOp, Op.floatArith, h, Question.forced]
    · exact canon_nan hd.2

def OneFloat (w : World) (v : Nat) (e : Ending) (w' : World) : Prop := e = .returned (.float .f64 v) ∧ w = w'
set_option maxRecDepth 100000 in
set_option maxHeartbeats 800000 in
theorem canon_any (f : Nat) (w : World) (hf : f < 18446744073709551616) : Calls Try.prog 27 #[.float .f64 f] w (OneFloat w (canonF f)) := by
  have ho := order_self hf
  have HOF := Lib.hid (of_any 9221120237041090560 w)
  by_cases h : kindF f = 4
  · rw [canon_nan h]
    have e1 : (FloatKind.f64.format.order f f != some .eq) = true := by rw [bne, ho, h]; rfl
    clear ho h
    go_enter Try.func27, Try.ntmps27
    go_wp2_with fail
    refine (HOF.out).mono ?_
    rintro e w' ⟨rfl, rfl⟩
    go_wp2
    go_ret
    exact ⟨rfl, rfl⟩
  · rw [canon_num h]
    have e1 : (FloatKind.f64.format.order f f != some .eq) = false := by rw [bne, ho, beq_eq_false_iff_ne.2 h]; rfl
    clear ho h
    go_enter Try.func27, Try.ntmps27
    go_wp2_with fail
    go_ret
    exact ⟨rfl, rfl⟩

theorem two_float : floatOfInt .f64 2 = 4611686018427387904 := by decide +kernel

set_option maxRecDepth 100000 in
set_option maxHeartbeats 800000 in
theorem mean_two (p : Option Addr) (cap : Nat) (fs : List Nat) (w : World) (h : Flts w p 2 fs) :
    Calls Try.prog 28 #[.slice p 2 cap] w (FPost w (opF (floatBits .quo .f64 (Got.of fs).whole 4611686018427387904))) := by
  have HO := Lib.hid (ofs_any p 2 cap fs w h (by decide))
  generalize (Got.of fs).whole = V at *
  have HQ := Lib.hid (run_arith_any (P := Try.prog) .quo (.inr rfl) 26 V 4611686018427387904)
  generalize opF (floatBits .quo .f64 V 4611686018427387904) = R at *
  have htf := two_float
  clear h
  go_enter Try.func28, Try.ntmps28
  go_wp2_with fail
  refine (HO.out).mono ?_
  rintro e w1 ⟨rfl, hf⟩
  have HF := Lib.hid hf
  obtain ⟨r, w2, hr, hf2, hlt, hcr⟩ := HQ.out w1
  have HC := Lib.hid (canon_any r w2 hlt)
  rw [hcr] at HC
  have HF2 := Lib.hid (HF.out.then hf2)
  clear hf hf2 hlt hcr HQ
  go_wp2_with fail
  refine (HC.out).mono ?_
  rintro e w3 ⟨rfl, rfl⟩
  go_wp2
  go_ret
  exact ⟨rfl, HF2.out⟩

set_option maxRecDepth 100000 in
set_option maxHeartbeats 800000 in
theorem mean_none (w : World) : Calls Try.prog 28 #[.slice none 0 0] w (OneFloat w 9221120237041090560) := by
  have HOF := Lib.hid (of_any 9221120237041090560 w)
  go_enter Try.func28, Try.ntmps28
  go_wp2_with fail
  refine (HOF.out).mono ?_
  rintro e w' ⟨rfl, rfl⟩
  go_wp2
  go_ret
  exact ⟨rfl, rfl⟩

set_option maxRecDepth 100000 in
set_option maxHeartbeats 3200000 in
theorem ExactTwo_any (a b : Nat) (ha : a < 18446744073709551616) (hb : b < 18446744073709551616) (W : World) :
    Calls Try.prog 5 #[.int .u64 (a : Int), .int .u64 (b : Int)] W (LawPost W) := by
  have HLIVE := Lib.hid lives_any
  have HOFA := Lib.hid (of_any a)
  have HOFB := Lib.hid (of_any b)
  have HOFN := Lib.hid (of_any 18446744073709551615)
  have HMN := Lib.hid mean_none
  have h1 := one_whole ha
  have h2 : (Got.of [a, b]).whole = opF (floatBits .add .f64 a b) := by
    obtain ⟨k1, k2⟩ := two_whole ha hb
    unfold floatBits
    dsimp only
    cases h : FloatKind.f64.format.add a b with
    | some q => obtain ⟨_, i2, i3⟩ := k1 q h; rw [i3]; exact (canon_num i2).symm
    | none => rw [k2 h]; rfl
  have hVlt := whole_lt (Got.of [a, b])
  have HADD := Lib.hid (run_arith_any (P := Try.prog) .add (.inl rfl) 26 a b)
  have HO1 : Hid (∀ w k t, Blk w k (fvals [a]) t → Calls Try.prog 17 #[.slice (some ⟨k, 0, none⟩) 1 1] w (FPost w (canonF a))) := fun w k t h => by
    have := ofs_any (some ⟨k, 0, none⟩) 1 1 [a] w (flts_blk h (by intro f hf; rw [List.mem_singleton] at hf; omega)) (by decide)
    rwa [h1] at this
  have HO2 : Hid (∀ w k t, Blk w k (fvals [a, b]) t → Calls Try.prog 17 #[.slice (some ⟨k, 0, none⟩) 2 2] w (FPost w (Got.of [a, b]).whole)) := fun w k t h => by
    exact ofs_any (some ⟨k, 0, none⟩) 2 2 [a, b] w (flts_blk h (by intro f hf; simp at hf; omega)) (by decide)
  have HM2 : Hid (∀ w k t, Blk w k (fvals [a, b]) t → Calls Try.prog 28 #[.slice (some ⟨k, 0, none⟩) 2 2] w (FPost w (opF (floatBits .quo .f64 (Got.of [a, b]).whole 4611686018427387904)))) := fun w k t h => by
    exact mean_two (some ⟨k, 0, none⟩) 2 [a, b] w (flts_blk h (by intro f hf; simp at hf; omega))
  have HCA : Hid (∀ w, Calls Try.prog 27 #[.float .f64 a] w (OneFloat w (canonF a))) := fun w => canon_any a w ha
  have HCN : Hid (∀ w, Calls Try.prog 27 #[.float .f64 18446744073709551615] w (OneFloat w 9221120237041090560)) := fun w => canon_any 18446744073709551615 w (by decide)
  generalize (Got.of [a, b]).whole = V at *
  rw [← h2] at HADD
  have HQ := Lib.hid (run_arith_any (P := Try.prog) .quo (.inr rfl) 26 V 4611686018427387904)
  generalize opF (floatBits .quo .f64 V 4611686018427387904) = M at *
  have HB1 : Hid (∀ w : World, Blk (w.alloc (.cells #[.float .f64 a] 26)) w.heap.size (fvals [a]) 26) := fun w => Blk.new w (fvals [a]) 26
  have HB2 : Hid (∀ w : World, Blk (w.alloc (.cells #[.float .f64 a, .float .f64 b] 26)) w.heap.size (fvals [a, b]) 26) := fun w => Blk.new w (fvals [a, b]) 26
  have HSV := Lib.hid (same_any V V)
  have HSM := Lib.hid (same_any M M)
  have HSA := Lib.hid (same_any (canonF a) (canonF a))
  have HSN := Lib.hid (same_any 9221120237041090560 9221120237041090560)
  rw [beq_self_eq_true] at HSV HSM HSA HSN
  generalize canonF a = C at *
  obtain ⟨r, w1, hr, hf1, hlt1, hcr⟩ := HADD.out W
  have HCR := Lib.hid (canon_any r w1 hlt1)
  rw [hcr] at HCR
  have HF1 := Lib.hid hf1
  clear h1 h2 hVlt HADD hcr hlt1 hf1
  go_enter Try.func5, Try.ntmps5
  go_wp2_with fail
  refine (HOFA.out _).mono ?_
  rintro e w' ⟨rfl, rfl⟩
  go_wp2_with fail
  refine (HOFB.out _).mono ?_
  rintro e w' ⟨rfl, rfl⟩
  go_wp2_with fail
  refine (HCR.out).mono ?_
  rintro e w' ⟨rfl, rfl⟩
  clear HCR hr
  go_wp2_with fail
  have hf2 := (HF1.out.alloc (.cells #[.float .f64 a, .float .f64 b] 26))
  have HF2 := Lib.hid hf2
  clear hf2
  refine (HO2.out _ _ _ (HB2.out w1)).mono ?_
  rintro e w3 ⟨rfl, hf3⟩
  have HF3 := Lib.hid (HF2.out.then hf3)
  clear hf3 HF2 HF1
  go_wp2_with fail
  refine (HSV.out w3).mono ?_
  rintro e w4 ⟨rfl, rfl⟩
  go_wp2_with fail
  have hf4 := (HF3.out.alloc (.cells #[.float .f64 a] 26))
  have HF4 := Lib.hid hf4
  clear hf4
  refine (HO1.out _ _ _ (HB1.out w3)).mono ?_
  rintro e w5 ⟨rfl, hf5⟩
  have HF5 := Lib.hid (HF4.out.then hf5)
  clear hf5 HF4 HF3
  go_wp2_with fail
  refine (HCA.out w5).mono ?_
  rintro e w6 ⟨rfl, rfl⟩
  go_wp2_with fail
  refine (HSA.out w5).mono ?_
  rintro e w6 ⟨rfl, rfl⟩
  go_wp2_with fail
  have hf6 := (HF5.out.alloc (.cells #[.float .f64 a, .float .f64 b] 26))
  have HF6 := Lib.hid hf6
  clear hf6
  refine (HM2.out _ _ _ (HB2.out w5)).mono ?_
  rintro e w7 ⟨rfl, hf7⟩
  obtain ⟨q, w8, hr8, hf8, hlt8, hcr8⟩ := HQ.out w7
  have HCR := Lib.hid (canon_any q w8 hlt8)
  rw [hcr8] at HCR
  have HF8 := Lib.hid ((HF6.out.then hf7).then hf8)
  clear hf7 hf8 hlt8 hcr8 HF5 HF6
  go_wp2_with fail
  refine (HCR.out).mono ?_
  rintro e w9 ⟨rfl, rfl⟩
  clear HCR hr8
  go_wp2_with fail
  refine (HSM.out _).mono ?_
  rintro e w9 ⟨rfl, rfl⟩
  go_wp2_with fail
  refine (HMN.out _).mono ?_
  rintro e w9 ⟨rfl, rfl⟩
  go_wp2_with fail
  refine (HOFN.out _).mono ?_
  rintro e w9 ⟨rfl, rfl⟩
  go_wp2_with fail
  refine (HCN.out _).mono ?_
  rintro e w9 ⟨rfl, rfl⟩
  go_wp2_with fail
  refine (HSN.out _).mono ?_
  rintro e w9 ⟨rfl, rfl⟩
  go_wp2_with fail
  refine (HLIVE.out _).mono ?_
  rintro e w10 ⟨rfl, hf10⟩
  have HF10 := Lib.hid (HF8.out.then hf10)
  clear hf10
  go_wp2
  go_ret
  exact ⟨rfl, HF10.out⟩

theorem ExactTwo_ofI {a b : Int} (h : (Lit.int .u64 a).wf = true) (k : (Lit.int .u64 b).wf = true) (W : World) : Calls Try.prog 5 #[.int .u64 a, .int .u64 b] W (LawPost W) := by
  obtain ⟨n, rfl, hn⟩ := u64_nat h
  obtain ⟨m, rfl, hm⟩ := u64_nat k
  exact ExactTwo_any n m hn hm W
end Go.Proofs.Ytmllbdiljjimmaa
