/- The walks of the reference's wide numbers: digits. -/
import Derived.Test.YtmllbdiljjimmaaWide3
namespace Go.Proofs.Ytmllbdiljjimmaa
open Go.RowKit

/-- Two new wide numbers. -/
theorem two_new (w : World) : ∀ w1, (w.alloc (.cells Try.zeroCells93 93)).alloc (.cells Try.zeroCells93 93) = w1 →
    WB w1 w.heap.size zeroW ∧ WB w1 (w.heap.size + 1) zeroW ∧ Fr (fun _ => False) w w1 := by
  rintro w1 rfl
  rw [zero_wide]
  exact two_boxes w zeroW zeroW

/-- A word's digits, as far as place k. -/
def DigW (w : World) (B m p k M : Nat) (wr : World) : Prop :=
  ∃ ds, ds.length = 140 ∧ Digs ds ∧ WB wr (B + 1) ds ∧ WB wr B zeroW ∧ (∀ j, p + k ≤ j → j < 140 → ds[j]? = some 0) ∧ toD ds + M * 65536 ^ (p + k) = m * 65536 ^ p ∧ Fr (fun _ => False) w wr

theorem DigW.step {w : World} {B m p k M : Nat} {wr : World} (h : DigW w B m p k M wr) (hB : w.heap.size ≤ B) (hk : p + k < 140) :
    DigW w B m p (k + 1) (M / 65536) (wr.setCell ⟨B + 1, p + k, none⟩ (.int .i64 ((M % 65536 : Nat) : Int))) := by
  obtain ⟨ds, h1, h2, h3, h4, h5, h6, h7⟩ := h
  refine ⟨ds.set (p + k) (M % 65536), by rw [List.length_set]; exact h1, h2.set _ (Nat.mod_lt _ (by decide)), ?_, h4.setOther ⟨B + 1, p + k, none⟩ _ (by show B ≠ B + 1; omega), fun j hj hl => ?_, ?_, h7.setCell ⟨B + 1, p + k, none⟩ (.inr (by show w.heap.size ≤ B + 1; omega)) _⟩
  · show Blk _ _ (digCells (ds.set (p + k) (M % 65536))) _
    rw [← digCells_set]; exact h3.set _ _
  · rw [List.getElem?_set_ne (by omega)]; exact h5 j (by omega) hl
  · have e1 := toD_set ds (p + k) 0 (M % 65536) (h5 (p + k) (Nat.le_refl _) hk)
    rw [Nat.zero_mul, Nat.add_zero] at e1
    rw [e1, ← h6, ← Nat.add_assoc, Nat.pow_succ]
    generalize 65536 ^ (p + k) = P at *
    have e2 : M * P = (M % 65536) * P + M / 65536 * (P * 65536) := by
      have e3 : M = M % 65536 + M / 65536 * 65536 := by omega
      have e4 : M * P = (M % 65536 + M / 65536 * 65536) * P := by rw [← e3]
      rw [e4, Nat.add_mul, Nat.mul_assoc (M / 65536), Nat.mul_comm 65536 P]
    rw [e2]
    omega

set_option maxRecDepth 100000 in
set_option maxHeartbeats 1600000 in
theorem digits_any (m p : Nat) (hm : m < 18446744073709551616) (hp : p ≤ 136) (w : World) :
    Calls Try.prog 103 #[.int .u64 (m : Int), .int .i64 (p : Int)] w (WidePost w (m * 65536 ^ p)) := by
  have HB := Lib.hid (two_new w)
  go_enter Try.func103, Try.ntmps103
  go_upto_region 2 with fail
  generalize hW : (w.alloc _).alloc _ = w1
  obtain ⟨b1, b2, hf⟩ := HB.out w1 hW
  have hrel0 : DigW w w.heap.size m p 0 m w1 := ⟨zeroW, zeroW_len, Digs.zero _, b2, b1, fun j _ hl => by unfold zeroW; rw [List.getElem?_replicate, if_pos hl], by unfold zeroW; rw [toD_zero, Nat.zero_add, Nat.add_zero], hf⟩
  generalize hbb : w.heap.size = B at *
  have HREL := Lib.hid hrel0
  have HBW : Hid (w.heap.size ≤ B) := by rw [← hbb]; exact Nat.le_refl _
  clear hrel0 b1 b2 hf hW HB hbb
  go_wp2
  go_loopw [0, 6] (fun c i wr => ∃ k M : Nat, k ≤ 4 ∧ M < 65536 ^ (4 - k) ∧ c = .int .u64 (M : Int) ∧ i = .int .i64 (k : Int) ∧ DigW w B m p k M wr) (fun _ i _ => 4 - (intOf i).toNat)
  case atStart => exact ⟨0, m, by omega, hm, rfl, rfl, HREL.out⟩
  case round =>
    clear HREL
    obtain ⟨k, M, hk, hM, rfl, rfl, hr⟩ := hrel
    by_cases hlt : k < 4
    · have hMl : M < 18446744073709551616 := Nat.lt_of_lt_of_le hM (show 65536 ^ (4 - k) ≤ 65536 ^ 4 from Nat.pow_le_pow_right (by decide) (by omega))
      have hM2 : M / 65536 < 65536 ^ (4 - (k + 1)) := by
        rw [Nat.div_lt_iff_lt_mul (by decide), ← Nat.pow_succ, show (4 - (k + 1)).succ = 4 - k by omega]; exact hM
      have hnew := hr.step HBW.out (by omega)
      obtain ⟨ds, h1, h2, h3, h4, h5, h6, h7⟩ := hr
      have d3 := h3.cell (p + k) (dig_cell (h5 (p + k) (Nat.le_refl _) (by omega)))
      have d4 := h3.free (p + k)
      have e1 : (M : Int) % 65536 = ((M % 65536 : Nat) : Int) := by omega
      have e2 : (M : Int) / 65536 = ((M / 65536 : Nat) : Int) := by omega
      have hd : M % 65536 < 65536 := Nat.mod_lt _ (by decide)
      generalize M % 65536 = d at *
      generalize M / 65536 = M' at *
      have hk2 : (k : Int) < 4 := by omega
      have hpk : (p : Int) + k < 140 := by omega
      have hpk2 : p + k < 140 := by omega
      have HN := Lib.hid hnew
      have HM2 := Lib.hid hM2
      clear hnew h1 h2 h3 h4 h5 h6 h7 hM hM2
      go_wp2
      go_roundw
      case rel => exact ⟨k + 1, M', by omega, HM2.out, rfl, by go_num, HN.out⟩
      case measure => simp [intOf]; omega
    · obtain rfl : k = 4 := by omega
      obtain ⟨ds, h1, h2, h3, h4, h5, h6, h7⟩ := hr
      have HN : Hid (toD ds = m * 65536 ^ p) := by
        rw [Nat.sub_self, Nat.pow_zero] at hM
        obtain rfl : M = 0 := by omega
        rw [Nat.zero_mul, Nat.add_zero] at h6
        exact h6
      have HI := Lib.hid (info_digs ds h1)
      have HS := Lib.hid (show (digCells zeroW).toArray.size = (digCells ds).toArray.size by rw [digs_size ds h1, digs_size zeroW zeroW_len])
      have HO := Lib.hid (digs_one ds)
      have HB5 := Lib.hid h3
      have HB4 := Lib.hid h4
      have HF : Hid (Fr (fun _ => False) w (wr.setRow B (digCells ds).toArray)) := h7.setRow B (.inr HBW.out) _
      have HD : Hid (ds.length = 140 ∧ Digs ds) := ⟨h1, h2⟩
      clear h1 h2 h3 h4 h5 h6 h7 hlt hk hM
      go_wp2_with (first | refine wpList_load_row rfl 93 _ rfl (B + 1) rfl 93 (digCells ds).toArray (0, 0) _ HB5.out Try.underlying93 rfl HI.out ?_ | refine wpList_store_row rfl 93 _ _ rfl B (digCells ds).toArray rfl rfl 93 (digCells zeroW).toArray HB4.out HI.out HS.out HO.out ?_)
      refine bodyPost_ret (results_cell_row (by rfl) _ _ B 93 (digCells ds).toArray (0, 0) _ rfl (HB4.out.setRow (digCells ds)) Try.underlying93 rfl HI.out) rfl ?_
      exact ⟨ds, rfl, HD.out.1, HD.out.2, HN.out, HF.out⟩
end Go.Proofs.Ytmllbdiljjimmaa
