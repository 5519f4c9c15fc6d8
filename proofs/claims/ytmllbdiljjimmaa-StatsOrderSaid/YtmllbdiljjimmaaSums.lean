/- The walk of the law ExactSums. -/
import Derived.Test.YtmllbdiljjimmaaExact15
namespace Go.Proofs.Ytmllbdiljjimmaa
open Go.RowKit

theorem words_of {w : World} {p : Option Addr} {len : Nat} {zs : List Int} (h : Nums .u64 w p len zs) (hz : ∀ n ∈ zs, (Lit.int .u64 n).wf = true) : Words w p len (zs.map Int.toNat) := by
  have hb : ∀ n ∈ zs, 0 ≤ n ∧ n < 18446744073709551616 := fun n hn => by
    have h1 := hz n hn
    simp only [Lit.wf, Bool.and_eq_true, decide_eq_true_eq] at h1
    have e1 : IntKind.u64.min = 0 := by rfl
    have e2 : IntKind.u64.max = 18446744073709551615 := by rfl
    omega
  refine ⟨?_, fun f hf => ?_⟩
  · have e : (zs.map Int.toNat).map Int.ofNat = zs := by
      rw [List.map_map]
      conv => rhs; rw [← List.map_id zs]
      exact List.map_congr_left fun n hn => by
        have := hb n hn
        show Int.ofNat n.toNat = n
        exact Int.toNat_of_nonneg this.1
    rw [e]; exact h
  · obtain ⟨n, hn, rfl⟩ := List.mem_map.1 hf
    have := hb n hn
    omega

/-- Where the law's loop stands. -/
def SumsRel (W : World) (b : Nat) (p : Option Addr) (len : Nat) (fs : List Nat) (k : Nat) (wr : World) : Prop :=
  SumG wr b (Got.of (fs.take k)) ∧ Flts wr p len fs ∧ Fr (fun _ => False) W wr

def LawPost (w : World) (e : Ending) (w' : World) : Prop := e = .returned (.bool true) ∧ Fr (fun _ => False) w w'

set_option maxRecDepth 100000 in
set_option maxHeartbeats 3200000 in
theorem ExactSums_any (p : Option Addr) (len cap : Nat) (fs : List Nat) (W : World) (h : Words W p len fs) :
    Calls Try.prog 4 #[.slice p len cap] W (LawPost W) := by
  have HLIVE := Lib.hid lives_any
  by_cases h60 : 60 < len
  · have hi60 : (60 : Int) < len := by omega
    clear h h60
    go_enter Try.func4, Try.ntmps4
    go_wp2_with fail
    refine (HLIVE.out W).mono ?_
    rintro e w1 ⟨rfl, hf⟩
    have HF := Lib.hid hf
    clear hf
    go_wp2
    go_ret
    exact ⟨rfl, HF.out⟩
  · have hi60 : (len : Int) ≤ 60 := by omega
    have hfl := h.len
    have HW := Lib.hid h
    have HNEW := Lib.hid (new_got W)
    clear h h60
    go_enter Try.func4, Try.ntmps4
    go_wp2_with fail
    refine (HNEW.out).mono ?_
    rintro e w1 ⟨rfl, g1, f1, l1⟩
    generalize hb : W.heap.size = b at *
    have HB := Lib.hid hb
    have HG1 := Lib.hid g1
    have HF1 := Lib.hid f1
    have HL1 := Lib.hid l1
    have HFL := Lib.hid (floats_any p len cap fs w1 (HW.out.frame f1).1 HW.out.2 (by omega))
    clear hb g1 f1 l1 HNEW
    go_wp2_with fail
    refine (HFL.out).mono ?_
    rintro e w2 ⟨v, rfl, hrow⟩
    obtain ⟨p2, cap2, rfl, hfl2, hwhere⟩ := flts_of_row hrow
    rw [hfl] at hfl2 ⊢
    have hf2 : Fr (fun _ => False) w1 w2 := hrow.2.2.2
    have HRW : Hid (SumsRel W b p2 len fs 0 w2) := ⟨HG1.out.frame hf2 (fun h => h), hfl2, HF1.out.then hf2⟩
    have HNE : Hid (∀ b' off, p2 = some ⟨b', off, none⟩ → b' ≠ b) := by
      intro b' off e he
      rcases hwhere with h | ⟨g, h, hg⟩
      · rw [h] at e; cases e
      · rw [h] at e
        cases e
        have := HL1.out
        omega
    clear hrow hfl2 hwhere hf2 HFL HG1 HF1 HL1
    go_wp2_with fail
    go_loopw [17] (fun i wr => ∃ k : Nat, k ≤ len ∧ i = .int .i64 (k : Int) ∧ Hid (SumsRel W b p2 len fs k wr)) (fun i _ => len - (intOf i).toNat)
    case atStart => exact ⟨0, by omega, rfl, HRW⟩
    case round =>
      clear HRW
      obtain ⟨k, hk, rfl, hr⟩ := hrel
      by_cases hlt : k < len
      · obtain ⟨hg, hfl2, hf⟩ := hr.out
        obtain ⟨pb, off, f, rfl, hx, hfl3, hc⟩ := hfl2.2 k hlt
        have hz := zeroes_le (fs.take k)
        have hcnt : (Got.of (fs.take k)).count < 4611686018427387904 := by rw [hz.2, List.length_take]; omega
        have ha := add_got b (Got.of (fs.take k)) f hfl3 wr hg hcnt hz.1
        rw [← got_take hx] at ha
        have hz2 := zeroes_le (fs.take (k + 1))
        have hcn2 : (Got.of (fs.take (k + 1))).count = k + 1 := by rw [hz2.2, List.length_take]; omega
        have HA := Lib.hid ha
        have HC2 := Lib.hid hcn2
        have HR : Hid (∀ w', SumG w' b (Got.of (fs.take (k + 1))) → Fr (fun k => k = b) wr w' → SumsRel W b (some ⟨pb, off, none⟩) len fs (k + 1) w') := fun w' h1 h2 =>
          ⟨h1, hfl2.frame h2 (fun b' off' e he => HNE.out b' off' e he), hf.trans h2 (fun i hi => .inr (by rw [HB.out]; omega))⟩
        have hk2 : (k : Int) < len := by omega
        clear ha hz hz2 hcnt hcn2 hg hfl2 hf hx hr
        go_wp2_with fail
        refine (HA.out).mono ?_
        rintro e w3 ⟨rfl, hg3, hf3⟩
        have HREL : Hid (SumsRel W b (some ⟨pb, off, none⟩) len fs (k + 1) w3) := HR.out w3 hg3 hf3
        have hcount := count_got b _ w3 hg3
        rw [HC2.out] at hcount
        have HCO := Lib.hid hcount
        clear hg3 hf3 hcount HR HA
        go_wp2_with fail
        refine (HCO.out).mono ?_
        rintro e w4 ⟨rfl, rfl⟩
        clear HCO
        go_wp2_with fail
        go_roundw
        case rel => exact ⟨k + 1, by omega, by go_num, HREL⟩
        case measure => simp [intOf]; omega
      · obtain rfl : k = len := by omega
        obtain ⟨hg, hfl2, hf⟩ := hr.out
        rw [List.take_of_length_le (by omega)] at hg
        have hW := HW.out.frame hf
        have hrw := rwhole_any p k cap fs wr hW (by omega)
        rw [← whole_same fs HW.out.2] at hrw
        have hcc := (zeroes_le fs).2
        have HWH := Lib.hid (fun w' (hfr : Fr (fun _ => False) wr w') => whole_got b (Got.of fs) w' (hg.frame hfr (fun h => h)) (Got.ok_of fs) (by rw [hcc]; omega))
        have HFLO : Hid (∀ w', Fr (fun _ => False) wr w' → Calls Try.prog 16 #[.slice p k cap] w' (FloatsPost w' fs)) := fun w' hfr => floats_any p k cap fs w' (hW.frame hfr).1 HW.out.2 (by omega)
        have HRW := Lib.hid hrw
        have HF := Lib.hid hf
        have HOF : Hid (∀ w' p' cap', Flts w' p' k fs → Calls Try.prog 17 #[.slice p' k cap'] w' (FPost w' (Got.of fs).whole)) := fun w' p' cap' h => ofs_any p' k cap' fs w' h (by omega)
        clear hr hg hfl2 hf hW hrw hcc hk hlt HNE
        generalize (Got.of fs).whole = V at *
        go_wp2_with fail
        refine (HRW.out).mono ?_
        rintro e w3 ⟨rfl, hf3⟩
        have HF3 := Lib.hid hf3
        clear hf3 HRW
        go_wp2_with fail
        refine (HWH.out w3 HF3.out).mono ?_
        rintro e w4 ⟨rfl, hf4⟩
        have HF4 := Lib.hid (HF3.out.then hf4)
        have HBI := Lib.hid (bits_any V w4)
        clear hf4 HF3
        go_wp2_with fail
        refine (HBI.out).mono ?_
        rintro e w5 ⟨rfl, rfl⟩
        clear HBI
        have hq : ((V : Int) == (V : Int)) = true := by rw [beq_iff_eq]
        go_wp2_with fail
        refine (HFLO.out _ HF4.out).mono ?_
        rintro e w6 ⟨v, rfl, hrow⟩
        obtain ⟨p3, cap3, rfl, hfl3, _⟩ := flts_of_row hrow
        rw [hfl] at hfl3 ⊢
        have HF6 := Lib.hid (HF4.out.then hrow.2.2.2)
        have HX := Lib.hid hfl3
        clear hrow hfl3 HF4 HFLO
        go_wp2_with fail
        refine (HOF.out _ _ _ HX.out).mono ?_
        rintro e w7 ⟨rfl, hf7⟩
        have HF7 := Lib.hid (HF6.out.then hf7)
        have HBI := Lib.hid (bits_any V w7)
        clear hf7 HF6
        go_wp2_with fail
        refine (HBI.out).mono ?_
        rintro e w8 ⟨rfl, rfl⟩
        clear HBI
        go_wp2_with fail
        refine (HLIVE.out _).mono ?_
        rintro e w9 ⟨rfl, hf9⟩
        have HF9 := Lib.hid (HF.out.then (HF7.out.then hf9))
        clear hf9
        go_wp2
        go_ret
        exact ⟨rfl, HF9.out⟩

theorem ExactSums_of {a : Option Addr} {len cap : Nat} {z : List Int} {W : World} (h : Nums .u64 W a len z) (hz : ∀ n ∈ z, (Lit.int .u64 n).wf = true) :
    Calls Try.prog 4 #[.slice a len cap] W fun e W' => e = .returned (.bool true) ∧ Fr (fun _ => False) W W' :=
  ExactSums_any a len cap _ W (words_of h hz)
end Go.Proofs.Ytmllbdiljjimmaa
