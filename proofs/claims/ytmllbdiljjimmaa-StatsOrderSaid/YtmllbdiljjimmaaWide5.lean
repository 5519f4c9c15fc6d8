/- The walks of the reference's wide numbers: a float's value. -/
import Derived.Test.YtmllbdiljjimmaaWide4
import Derived.Test.YtmllbdiljjimmaaExact14
namespace Go.Proofs.Ytmllbdiljjimmaa
open Go.RowKit

theorem wTop_eq (k : Nat) (hk : k = 140) : wTop = 65536 ^ k := by subst hk; rfl
theorem magTop_lt : magTop < wTop := by
  obtain ⟨k, hk⟩ : ∃ k : Nat, k = 2046 := ⟨_, rfl⟩
  obtain ⟨m, hm⟩ : ∃ k : Nat, k = 140 := ⟨_, rfl⟩
  rw [magTop_eq k hk, wTop_eq m hm]
  have e1 : 9007199254740992 * 2 ^ k = 2 ^ (53 + k) := by rw [Nat.pow_add]
  have e2 : 65536 ^ m = 2 ^ (16 * m) := by rw [Nat.pow_mul]
  rw [e1, e2]
  exact Nat.pow_lt_pow_right (by decide) (by omega)

/-- A number that is doubled, as far as round k. -/
def DblW (w : World) (B1 B2 M k : Nat) (wr : World) : Prop := ∃ ds, ds.length = 140 ∧ Digs ds ∧ WB wr B2 ds ∧ WB wr B1 zeroW ∧ toD ds = M * 2 ^ k ∧ Fr (fun _ => False) w wr

/-- The value's loop and its end, from the frame where the digits lie. -/
theorem dbl_bound {M k r : Nat} (hr : M * 2 ^ r < wTop) (hk : k < r) : (M * 2 ^ k + M * 2 ^ k) % wTop = M * 2 ^ (k + 1) := by
  have h1 : M * 2 ^ (k + 1) = M * 2 ^ k + M * 2 ^ k := by rw [Nat.pow_succ, ← Nat.mul_assoc, Nat.mul_two]
  have h2 : M * 2 ^ (k + 1) ≤ M * 2 ^ r := Nat.mul_le_mul_left _ (Nat.pow_le_pow_right (by decide) hk)
  rw [← h1, Nat.mod_eq_of_lt (by omega)]

set_option maxRecDepth 100000 in
set_option maxHeartbeats 1600000 in
theorem value_core (b E F m e q r : Nat) (w : World) (h1 : (b : Int) / 4503599627370496 = (E : Int)) (h2 : (b : Int) % 4503599627370496 = (F : Int)) (hE : E < 2048) (hF : F < 4503599627370496) (hb : b < 18446744073709551616)
    (hc : Hid ((E = 0 ∧ m = F ∧ e = E) ∨ (0 < E ∧ m = F + 4503599627370496 ∧ E = e + 1))) (he1 : (e : Int) / 16 = (q : Int)) (he2 : (e : Int) % 16 = (r : Int)) (hr : r < 16) (hq : q ≤ 127) (he : e < 2048) (hm : m < 9007199254740992) (hfit : Hid (m * 65536 ^ q * 2 ^ r < wTop)) :
    Calls Try.prog 93 #[.int .u64 (b : Int)] w (WidePost w (m * 65536 ^ q * 2 ^ r)) := by
  have HD := Lib.hid (digits_any m q (by omega) (by omega))
  have HNEW : Hid (∀ w : World, WB (w.alloc (.cells Try.zeroCells93 93)) w.heap.size zeroW) := fun w => by rw [zero_wide]; exact Blk.new w (digCells zeroW) _
  obtain ⟨V, hV⟩ : ∃ V, V = m * 65536 ^ q * 2 ^ r := ⟨_, rfl⟩
  rw [← hV]
  have HV := Lib.hid hV
  clear hV
  have hsplit : (decide (0 < E) = false ∧ m = F ∧ e = E) ∨ (decide (0 < E) = true ∧ (F : Int) + 4503599627370496 = (m : Int) ∧ (E : Int) - 1 = (e : Int)) := by
    rcases hc.out with ⟨h, h', h''⟩ | ⟨h, h', h''⟩
    · exact .inl ⟨by simp; omega, h', h''⟩
    · exact .inr ⟨by simp; omega, by omega, by omega⟩
  clear hc
  have hf0 : Fr (fun _ => False) w (w.alloc (.cells Try.zeroCells93 93)) := (Fr.refl _ w).alloc _
  have hb0 := HNEW.out w
  generalize hw1 : w.alloc (.cells Try.zeroCells93 93) = w1 at *
  generalize hg1 : w.heap.size = g1 at *
  have HF0 := Lib.hid hf0
  have HB0 := Lib.hid hb0
  have HG1 := Lib.hid hg1
  clear hf0 hb0
  rcases hsplit with ⟨hd, rfl, rfl⟩ | ⟨hd, hm1, he0⟩
  all_goals
    go_enter Try.func93, Try.ntmps93
    go_upto_region 6 with fail
    clear hw1 hg1 hd
    go_wp2_with fail
    refine (HD.out _).mono ?_
    rintro x w2 ⟨ds, rfl, hd1, hd2, hd3, hf2⟩
    have HI := Lib.hid (info_digs ds hd1)
    have HS := Lib.hid (show (digCells zeroW).toArray.size = (digCells ds).toArray.size by rw [digs_size ds hd1, digs_size zeroW zeroW_len])
    have HO := Lib.hid (digs_one ds)
    have HB2 := Lib.hid (HB0.out.frame hf2 (fun h => h))
    have HF2 := Lib.hid (HF0.out.then hf2)
    have hnew := HNEW.out w2
    have hnf : Fr (fun _ => False) w2 (w2.alloc (.cells Try.zeroCells93 93)) := (Fr.refl _ w2).alloc _
    generalize hw3 : w2.alloc (.cells Try.zeroCells93 93) = w3 at *
    generalize hg2 : w2.heap.size = g2 at *
    have HN3 := Lib.hid hnew
    have HG2 := Lib.hid hg2
    have HB3 := Lib.hid (HB2.out.frame hnf (fun h => h))
    have HF3 := Lib.hid (HF2.out.then hnf)
    have HLT : Hid (g1 < g2) := by have := HB2.out.lt; rw [hg2] at this; exact this
    have HWG : Hid (w.heap.size ≤ g2) := by have := HF2.out.size; rw [hg2] at this; exact this
    clear hnew hnf
    unfold digsV
    go_upto_region 7 with (refine wpList_store_row rfl 93 _ _ rfl g2 (digCells ds).toArray rfl rfl 93 (digCells zeroW).toArray HN3.out HI.out HS.out HO.out ?_)
    clear hw3 hg2
    have hrel0 : DblW w g1 g2 (m * 65536 ^ q) 0 (w3.setRow g2 (digCells ds).toArray) := ⟨ds, hd1, hd2, Blk.setRow (c := digCells zeroW) HN3.out (digCells ds), HB3.out.setRowOther g2 _ (by have := HLT.out; omega), by rw [hd3, Nat.pow_zero, Nat.mul_one], HF3.out.setRow g2 (.inr HWG.out) _⟩
    have HREL := Lib.hid hrel0
    clear hrel0 hd1 hd2 hd3 hf2 HI HS HO HB2 HF2 HN3 HG2 HB3 HF3 HB0 HF0 HD
    generalize w3.setRow g2 (digCells ds).toArray = w4 at *
    clear hb h1 h2 hE hF
    go_wp2_with fail
    go_loopw [6] (fun i wr => ∃ k : Nat, k ≤ r ∧ i = .int .i64 (k : Int) ∧ DblW w g1 g2 (m * 65536 ^ q) k wr) (fun i _ => r - (intOf i).toNat)
    case atStart => exact ⟨0, by omega, rfl, HREL.out⟩
    case round =>
      clear HREL
      obtain ⟨k, hk, rfl, xs, k1, k2, k3, k4, k5, k6⟩ := hrel
      have HI := Lib.hid (info_digs xs k1)
      have HB5 := Lib.hid k3
      by_cases hlt : k < r
      · have HPL := Lib.hid (plus_any xs xs k1 k1 k2 k2 wr)
        have HNUM : Hid ((toD xs + toD xs) % wTop = m * 65536 ^ q * 2 ^ (k + 1)) := by
          show (toD xs + toD xs) % wTop = _
          rw [k5]; exact dbl_bound hfit.out hlt
        have HK4 := Lib.hid k4
        have HK6 := Lib.hid k6
        clear k1 k2 k3 k4 k5 k6
        go_wp2_with (refine wpList_load_row rfl 93 _ rfl g2 rfl 93 (digCells xs).toArray (0, 0) _ HB5.out Try.underlying93 rfl HI.out ?_)
        refine (HPL.out).mono ?_
        rintro x w5 ⟨ys, rfl, y1, y2, y3, y4⟩
        have HBY := Lib.hid (HB5.out.frame y4 (fun h => h))
        have HIY := Lib.hid (info_digs ys y1)
        have HSY := Lib.hid (show (digCells xs).toArray.size = (digCells ys).toArray.size by have := HI.out.symm.trans HIY.out; simpa using this)
        have HOY := Lib.hid (digs_one ys)
        have hrel1 : DblW w g1 g2 (m * 65536 ^ q) (k + 1) (w5.setRow g2 (digCells ys).toArray) := ⟨ys, y1, y2, Blk.setRow (c := digCells xs) HBY.out (digCells ys), (HK4.out.frame y4 (fun h => h)).setRowOther g2 _ (by have := HLT.out; omega), by rw [y3, HNUM.out], (HK6.out.then y4).setRow g2 (.inr HWG.out) _⟩
        have HREL := Lib.hid hrel1
        clear hrel1 y1 y2 y3 y4
        unfold digsV
        go_wp2_with (refine wpList_store_row rfl 93 _ _ rfl g2 (digCells ys).toArray rfl rfl 93 (digCells xs).toArray HBY.out HIY.out HSY.out HOY.out ?_)
        go_roundw
        case rel => exact ⟨k + 1, by omega, by go_num, HREL.out⟩
        case measure => simp [intOf]; omega
      · obtain rfl : k = r := by omega
        have HS := Lib.hid (show (digCells zeroW).toArray.size = (digCells xs).toArray.size by rw [digs_size xs k1, digs_size zeroW zeroW_len])
        have HO := Lib.hid (digs_one xs)
        have HB4 := Lib.hid k4
        have hfin : WidePost w V (.returned (digsV xs)) (wr.setRow g1 (digCells xs).toArray) := ⟨xs, rfl, k1, k2, by rw [k5, HV.out], k6.setRow g1 (.inr (by rw [HG1.out]; exact Nat.le_refl _)) _⟩
        have HFIN := Lib.hid hfin
        clear hfin k1 k2 k3 k4 k5 k6 hk hlt
        go_wp2_with (first | refine wpList_load_row rfl 93 _ rfl g2 rfl 93 (digCells xs).toArray (0, 0) _ HB5.out Try.underlying93 rfl HI.out ?_ | refine wpList_store_row rfl 93 _ _ rfl g1 (digCells xs).toArray rfl rfl 93 (digCells zeroW).toArray HB4.out HI.out HS.out HO.out ?_)
        refine bodyPost_ret (results_cell_row (by rfl) _ _ g1 93 (digCells xs).toArray (0, 0) _ rfl (HB4.out.setRow (digCells xs)) Try.underlying93 rfl HI.out) rfl ?_
        exact HFIN.out

theorem value_any (b : Nat) (hb : b < 9223372036854775808) (w : World) :
    Calls Try.prog 93 #[.int .u64 (b : Int)] w (WidePost w (magF b)) := by
  have hE : expo b = b / 4503599627370496 := by unfold expo; omega
  obtain ⟨m, e, hm, hml, hel, h0, h1⟩ := mag_parts b (by omega)
  have hF : frac b < 4503599627370496 := Nat.mod_lt _ (by decide)
  have hval : m * 65536 ^ (e / 16) * 2 ^ (e % 16) = magF b := by
    rw [hm, Nat.mul_assoc, show (65536 : Nat) = 2 ^ 16 by rfl, ← Nat.pow_mul, ← Nat.pow_add, Nat.div_add_mod]
  have hfit : magF b < wTop := Nat.lt_trans (mag_lt b) magTop_lt
  have hm2 : m < 9007199254740992 := by
    by_cases h : expo b = 0
    · have := (h0 h).1; omega
    · have := (h1 h).1; omega
  rw [← hval] at hfit ⊢
  have hF2 : frac b = b % 4503599627370496 := rfl
  refine value_core b (expo b) (frac b) m e (e / 16) (e % 16) w (by omega) (by omega) (by omega) hF (by omega) ?_ (by omega) (by omega) (by omega) (by omega) (by omega) hm2 hfit
  show (expo b = 0 ∧ m = frac b ∧ e = expo b) ∨ (0 < expo b ∧ m = frac b + 4503599627370496 ∧ expo b = e + 1)
  by_cases h : expo b = 0
  · exact .inl ⟨h, (h0 h).1, by rw [(h0 h).2, h]⟩
  · exact .inr ⟨by omega, by have := (h1 h).1; omega, by have := (h1 h).2; omega⟩
end Go.Proofs.Ytmllbdiljjimmaa
