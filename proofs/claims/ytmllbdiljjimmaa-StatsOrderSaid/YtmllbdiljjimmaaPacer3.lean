/- The walks of package pacer: Trigger, Due. -/
import Derived.Test.YtmllbdiljjimmaaPacer2
import Derived.Test.YtmllbdiljjimmaaTwos
namespace Go.Proofs.Ytmllbdiljjimmaa
open Go.RowKit

/-- The ratios behind a share that was noted. -/
def noteL (rs : List Nat) (r : Nat) : List Nat := (if rs.length = 8 then rs.drop 1 else rs) ++ [r]
theorem noteL_len {rs : List Nat} (h : rs.length ≤ 8) (r : Nat) : (noteL rs r).length ≤ 8 ∧ (noteL rs r).length = min (rs.length + 1) 8 := by
  unfold noteL
  rw [List.length_append, List.length_singleton]
  split
  · rw [List.length_drop]; omega
  · omega
theorem note_yes {W w : World} {b g l m : Nat} {v : Value} {rs : List Nat} (h : PacB W w b g l m v rs) (hl : rs.length ≤ 8) (live words : Int) (hf : fitsI live words = true) :
    Calls Try.prog 36 #[.pointer (some ⟨b, 0, none⟩), .int .i64 live, .int .i64 words] w (NotePost W w b g l m v (noteL rs (ratioF live.toNat words.toNat))) := by
  unfold fitsI at hf
  rw [decide_eq_true_eq] at hf
  obtain ⟨x, rfl⟩ : ∃ x : Nat, live = (x : Int) := ⟨live.toNat, by omega⟩
  obtain ⟨y, rfl⟩ : ∃ y : Nat, words = (y : Int) := ⟨words.toNat, by omega⟩
  rw [Int.toNat_natCast, Int.toNat_natCast]
  unfold noteL
  by_cases h8 : rs.length = 8
  · rw [if_pos h8]; exact note_full h h8 x y (by omega) (by omega) (by omega)
  · rw [if_neg h8]; exact note_room h (by omega) x y (by omega) (by omega) (by omega)

/-- The mean of some floats. -/
noncomputable def meanF (fs : List Nat) : Nat := opF (floatBits .quo .f64 (Got.of fs).whole (floatOfInt .f64 (fs.length : Int)))
set_option maxRecDepth 100000 in
set_option maxHeartbeats 800000 in
theorem mean_any (p : Option Addr) (len cap : Nat) (fs : List Nat) (w : World) (h : Flts w p len fs) (h0 : 0 < len) (hlen : len < 4611686018427387904) :
    Calls Try.prog 28 #[.slice p len cap] w (FPost w (meanF fs)) := by
  have HO := Lib.hid (ofs_any p len cap fs w h hlen)
  unfold meanF
  rw [h.1]
  generalize (Got.of fs).whole = V at *
  have HQ := Lib.hid (run_arith_any (P := Try.prog) .quo (.inr rfl) 26 V (floatOfInt .f64 (len : Int)))
  generalize opF (floatBits .quo .f64 V (floatOfInt .f64 (len : Int))) = R at *
  have d0 : ((len : Int) == 0) = false := by rw [beq_eq_false_iff_ne]; omega
  clear h
  go_enter Try.func28, Try.ntmps28
  go_wp2_with fail
  refine (HO.out).mono ?_
  rintro e w1 ⟨rfl, hf⟩
  have HF := Lib.hid hf
  obtain ⟨r, w2, hr, hf2, hlt, hcr⟩ := HQ.out w1
  have HC := Lib.hid (canon_any r w2 hlt)
  rw [hcr] at HC
  have HF2 := Lib.hid (HF.out.then hf2)
  clear hf hf2 hlt hcr HQ
  go_wp2_with fail
  refine (HC.out).mono ?_
  rintro e w3 ⟨rfl, rfl⟩
  go_wp2
  go_ret
  exact ⟨rfl, HF2.out⟩
theorem opF_lt (op : BinOp) (a b : Nat) : opF (floatBits op .f64 a b) < 18446744073709551616 := by
  cases h : floatBits op .f64 a b with
  | some r =>
    have hw := floatBits_wf h
    simp only [Lit.wf, decide_eq_true_eq] at hw
    exact canon_lt hw
  | none => exact (by decide : 9221120237041090560 < 18446744073709551616)

theorem run_mul_any {P : Program} (t : TypeId) (b c : Nat) (w : World) :
    ∃ r w', (binOp .mul t (.float .f64 b) (.float .f64 c)).run P w = .ok (.float .f64 r) w' ∧ Fr (fun _ => False) w w' ∧ r < 18446744073709551616 ∧ canonF r = opF (floatBits .mul .f64 b c) := by
  cases h : floatBits .mul .f64 b c with
  | some r =>
    have hw := floatBits_wf h
    simp only [Lit.wf, decide_eq_true_eq] at hw
    exact ⟨r, w, run_float_arith w .mul t .f64 b c r h, Fr.refl _ w, hw, rfl⟩
  | none =>
    have hd := drawn_nan (w.tape w.drawn (.nanBits .f64 b c))
    refine ⟨(Question.nanBits .f64 b c).cut (w.tape w.drawn (.nanBits .f64 b c)), w.drew, ?_, (Fr.refl _ w).drew, hd.1, ?_⟩
    · unfold floatBits at h; simp only at h; simp [binOp, Op.floatArith, h, Question.forced]
    · exact canon_nan hd.2
theorem one_kind : kindF 9221120237041090560 = 4 := by decide
theorem canon_kind (r : Nat) : kindF (canonF r) = 4 ↔ kindF r = 4 := by
  unfold canonF
  split
  · rename_i h; exact ⟨fun _ => h, fun _ => one_kind⟩
  · exact Iff.rfl
theorem add_canon {M r : Nat} (hM : M < 18446744073709551616) (hr : r < 18446744073709551616) : opF (floatBits .add .f64 M r) = opF (floatBits .add .f64 M (canonF r)) := by
  by_cases h : kindF r = 4
  · have e1 : floatBits .add .f64 M r = none := add_none_nan hM hr (.inr h)
    have e2 : floatBits .add .f64 M (canonF r) = none := add_none_nan hM (canon_lt hr) (.inr ((canon_kind r).2 h))
    rw [e1, e2]
  · rw [canon_num h]
theorem order_canon {x r : Nat} (hx : x < 18446744073709551616) (hr : r < 18446744073709551616) : dbl.order x r = dbl.order x (canonF r) := by
  by_cases h : kindF r = 4
  · rw [order_nan hx hr (.inr h), order_nan hx (canon_lt hr) (.inr ((canon_kind r).2 h))]
  · rw [canon_num h]

/-- Where a collection is begun. -/
noncomputable def trigF (g l m : Nat) (rs : List Nat) : Nat :=
  if rs = [] then m else
    if kindF (opF (floatBits .add .f64 (meanF rs) (opF (floatBits .mul .f64 g (meanF rs))))) = 4 ∨ aheadF m (opF (floatBits .add .f64 (meanF rs) (opF (floatBits .mul .f64 g (meanF rs))))) = true then m
    else if aheadF (opF (floatBits .add .f64 (meanF rs) (opF (floatBits .mul .f64 g (meanF rs))))) l = true then l
    else opF (floatBits .add .f64 (meanF rs) (opF (floatBits .mul .f64 g (meanF rs))))

set_option maxRecDepth 100000 in
set_option maxHeartbeats 400000 in
theorem trig_nil (w : World) : Calls Try.prog 40 #[.pointer none] w (OneFloat w 0) := by
  have HN := Lib.hid (none_nil w)
  go_enter Try.func40, Try.ntmps40
  go_wp2_with fail
  refine (HN.out).mono ?_
  rintro e w' ⟨rfl, rfl⟩
  go_wp2
  go_ret
  exact ⟨rfl, rfl⟩

set_option maxRecDepth 100000 in
set_option maxHeartbeats 1600000 in
theorem trig_any {W w : World} {b g l m : Nat} {v : Value} {rs : List Nat} (h : PacB W w b g l m v rs) (hl8 : rs.length ≤ 8) (hl : l < 18446744073709551616) (hm : m < 18446744073709551616) :
    Calls Try.prog 40 #[.pointer (some ⟨b, 0, none⟩)] w (FPost w (trigF g l m rs)) := by
  have HN := Lib.hid h.isNone
  have HP := Lib.hid h
  have c0 := h.1.cell 0 rfl
  have c1 := h.1.cell 1 rfl
  have c2 := h.1.cell 2 rfl
  have c3 := h.1.cell 3 rfl
  by_cases h0 : rs = []
  · obtain ⟨q, qc, rfl⟩ := h.row
    subst h0
    rw [show trigF g l m [] = m from if_pos rfl]
    clear h
    go_enter Try.func40, Try.ntmps40
    go_wp2_with fail
    refine (HN.out).mono ?_
    rintro e w' ⟨rfl, rfl⟩
    go_wp2
    go_ret
    exact ⟨rfl, Fr.refl _ w⟩
  · have hpos : 0 < rs.length := List.length_pos_iff.2 h0
    obtain ⟨g0, qc, rfl, _⟩ := frow_shape h.2.1 hpos
    have HM := Lib.hid (mean_any (some ⟨g0, 0, none⟩) rs.length qc rs w (frow_flts h.2.1) hpos (by omega))
    have hMl : meanF rs < 18446744073709551616 := opF_lt _ _ _
    have ht : trigF g l m rs = if kindF (opF (floatBits .add .f64 (meanF rs) (opF (floatBits .mul .f64 g (meanF rs))))) = 4 ∨ aheadF m (opF (floatBits .add .f64 (meanF rs) (opF (floatBits .mul .f64 g (meanF rs))))) = true then m
      else if aheadF (opF (floatBits .add .f64 (meanF rs) (opF (floatBits .mul .f64 g (meanF rs))))) l = true then l
      else opF (floatBits .add .f64 (meanF rs) (opF (floatBits .mul .f64 g (meanF rs)))) := if_neg h0
    generalize trigF g l m rs = T at *
    generalize meanF rs = M at *
    have hp8 : ((rs.length : Int) == 0) = false := by rw [beq_eq_false_iff_ne]; omega
    have HT := Lib.hid ht
    have HB := Lib.hid h.1
    clear h ht
    go_enter Try.func40, Try.ntmps40
    go_wp2_with fail
    refine (HN.out).mono ?_
    rintro e w' ⟨rfl, rfl⟩
    go_wp2_with fail
    refine (HM.out).mono ?_
    rintro e w1 ⟨rfl, hf1⟩
    obtain ⟨r, w2, hr2, hf2, hlt2, hcr2⟩ := run_mul_any (P := Try.prog) 26 g M w1
    obtain ⟨t, w3, hr3, hf3, hlt3, hcr3⟩ := run_arith_any (P := Try.prog) .add (.inl rfl) 26 M r w2
    rw [add_canon hMl hlt2, hcr2] at hcr3
    have HF3 : Hid (Fr (fun _ => False) w w3) := (hf1.then hf2).then hf3
    have k0 := (HB.out.frame hf1 (fun h => h)).cell 0 rfl
    have k2 := (HB.out.frame HF3.out (fun h => h)).cell 2 rfl
    have k1 := (HB.out.frame HF3.out (fun h => h)).cell 1 rfl
    have htn := nan_ne hlt3
    have HCR := Lib.hid hcr3
    have HB1 := Lib.hid (before_any m t hm hlt3 w3)
    have HB2 := Lib.hid (before_any t l hlt3 hl w3)
    have hkk := canon_kind t
    rw [hcr3] at hkk
    by_cases hk : kindF t = 4
    · obtain rfl : T = m := by rw [HT.out, if_pos (.inl (hkk.2 hk))]
      rw [hk] at htn
      clear hcr3 hcr2 hf1 hf2 hf3 hlt2 hlt3 hkk hk c0 c1 c2 c3 HT HP HB
      go_wp2
      go_ret
      exact ⟨rfl, HF3.out⟩
    · have e4 : (kindF t == 4) = false := by rw [beq_eq_false_iff_ne]; exact hk
      rw [e4] at htn
      rw [canon_num hk] at hcr3
      rw [← hcr3] at HT
      cases ha : aheadF m t
      · rw [ha] at HB1
        cases hb : aheadF t l
        · rw [hb] at HB2
          obtain rfl : T = t := by rw [HT.out, if_neg (by rw [ha]; rintro (h | h); exact hk h; cases h), if_neg (by rw [hb]; exact Bool.false_ne_true)]
          clear hcr3 hcr2 hf1 hf2 hf3 hlt2 hlt3 hkk hk c0 c1 c2 c3 HT HP HB HCR ha hb e4
          go_wp2_with fail
          refine (HB1.out).mono ?_
          rintro e w' ⟨rfl, rfl⟩
          go_wp2_with fail
          refine (HB2.out).mono ?_
          rintro e w' ⟨rfl, rfl⟩
          go_wp2
          go_ret
          exact ⟨rfl, HF3.out⟩
        · rw [hb] at HB2
          obtain rfl : T = l := by rw [HT.out, if_neg (by rw [ha]; rintro (h | h); exact hk h; cases h), if_pos hb]
          clear hcr3 hcr2 hf1 hf2 hf3 hlt2 hlt3 hkk hk c0 c1 c2 c3 HT HP HB HCR ha hb e4
          go_wp2_with fail
          refine (HB1.out).mono ?_
          rintro e w' ⟨rfl, rfl⟩
          go_wp2_with fail
          refine (HB2.out).mono ?_
          rintro e w' ⟨rfl, rfl⟩
          go_wp2
          go_ret
          exact ⟨rfl, HF3.out⟩
      · rw [ha] at HB1
        obtain rfl : T = m := by rw [HT.out, if_pos (.inr ha)]
        clear hcr3 hcr2 hf1 hf2 hf3 hlt2 hlt3 hkk hk c0 c1 c2 c3 HT HP HB HCR ha e4
        go_wp2_with fail
        refine (HB1.out).mono ?_
        rintro e w' ⟨rfl, rfl⟩
        go_wp2
        go_ret
        exact ⟨rfl, HF3.out⟩
end Go.Proofs.Ytmllbdiljjimmaa
