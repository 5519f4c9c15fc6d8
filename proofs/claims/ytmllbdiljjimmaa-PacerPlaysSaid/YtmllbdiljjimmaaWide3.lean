/- The walks of the reference's wide numbers: minus. -/
import Derived.Test.YtmllbdiljjimmaaWide2
namespace Go.Proofs.Ytmllbdiljjimmaa
open Go.RowKit

/-- Where a wide number is taken from another one. -/
def MinusW (w : World) (B : Nat) (xs ys : List Nat) (k c : Nat) (wr : World) : Prop :=
  ∃ ds, ds.length = 140 ∧ Digs ds ∧ WB wr (B + 1 + 1 + 1) ds ∧ WB wr (B + 1 + 1) zeroW ∧ WB wr B xs ∧ WB wr (B + 1) ys ∧ toD (ds.take k) + toD (ys.take k) = toD (xs.take k) + c * 65536 ^ k ∧ Fr (fun _ => False) w wr

theorem MinusW.step {w : World} {B : Nat} {xs ys : List Nat} {k c x y s c' : Nat} {wr : World} (h : MinusW w B xs ys k c wr) (hB : w.heap.size ≤ B) (hk : k < 140) (hx : xs[k]? = some x) (hy : ys[k]? = some y) (hs : s + y + c = x + c' * 65536) (hsl : s < 65536) :
    MinusW w B xs ys (k + 1) c' (wr.setCell ⟨B + 1 + 1 + 1, k, none⟩ (.int .i64 (s : Int))) := by
  obtain ⟨ds, h1, h2, h3, h4, h5, h6, h7, h8⟩ := h
  refine ⟨ds.set k s, by rw [List.length_set]; exact h1, h2.set k hsl, ?_, h4.setOther ⟨B + 1 + 1 + 1, k, none⟩ _ (by show B + 1 + 1 ≠ B + 1 + 1 + 1; omega), h5.setOther ⟨B + 1 + 1 + 1, k, none⟩ _ (by show B ≠ B + 1 + 1 + 1; omega), h6.setOther ⟨B + 1 + 1 + 1, k, none⟩ _ (by show B + 1 ≠ B + 1 + 1 + 1; omega), ?_, h8.setCell ⟨B + 1 + 1 + 1, k, none⟩ (.inr (by show w.heap.size ≤ B + 1 + 1 + 1; omega)) _⟩
  · show Blk _ _ (digCells (ds.set k s)) _
    rw [← digCells_set]; exact h3.set k _
  · have e1 : (ds.set k s)[k]? = some s := by rw [List.getElem?_set_self (by omega)]
    have e2 : (ds.set k s).take k = ds.take k := by rw [List.take_set, List.set_eq_of_length_le (by rw [List.length_take]; omega)]
    rw [toD_take e1, e2, toD_take hx, toD_take hy, Nat.pow_succ, minus_step h7 hs]
theorem MinusW.drewN {w : World} {B : Nat} {xs ys : List Nat} {k c : Nat} {wr : World} (h : MinusW w B xs ys k c wr) (n : Nat) : MinusW w B xs ys k c (wr.drewN n) := by
  obtain ⟨ds, h1, h2, h3, h4, h5, h6, h7, h8⟩ := h
  exact ⟨ds, h1, h2, h3.drewN n, h4.drewN n, h5.drewN n, h6.drewN n, h7, h8.drewN n⟩

set_option maxRecDepth 100000 in
set_option maxHeartbeats 1600000 in
theorem minus_any (xs ys : List Nat) (hx : xs.length = 140) (hy : ys.length = 140) (hX : Digs xs) (hY : Digs ys) (hle : toD ys ≤ toD xs) (w : World) :
    Calls Try.prog 67 #[digsV xs, digsV ys] w (WidePost w (toD xs - toD ys)) := by
  unfold digsV
  have hb := four_boxes w xs ys
  generalize hca : (digCells xs).toArray = ca at *
  generalize hcb : (digCells ys).toArray = cb at *
  have HB := Lib.hid hb
  have HLE := Lib.hid hle
  clear hb hca hcb hle
  go_enter Try.func67, Try.ntmps67
  go_upto_region 2 with fail
  generalize hW : (((w.alloc _).alloc _).alloc _).alloc _ = w1
  obtain ⟨b1, b2, b3, b4, hf⟩ := HB.out w1 hW
  have hrel0 : MinusW w w.heap.size xs ys 0 0 w1 := ⟨zeroW, zeroW_len, Digs.zero _, b4, b3, b1, b2, by simp [toD], hf⟩
  generalize hbb : w.heap.size = B at *
  have HREL := Lib.hid hrel0
  have HBW : Hid (w.heap.size ≤ B) := by rw [← hbb]; exact Nat.le_refl _
  clear hrel0 b1 b2 b3 b4 hf hW HB hbb
  go_wp2
  go_loopw [6, 7] (fun c i wr => ∃ k n : Nat, k ≤ 140 ∧ n ≤ 1 ∧ c = .int .i64 (n : Int) ∧ i = .int .i64 (k : Int) ∧ MinusW w B xs ys k n wr) (fun _ i _ => 140 - (intOf i).toNat)
  case atStart => exact ⟨0, 0, by omega, by omega, rfl, rfl, HREL.out⟩
  case round =>
    clear HREL
    obtain ⟨k, n, hk, hn, rfl, rfl, hr⟩ := hrel
    by_cases hlt : k < 140
    · obtain ⟨x, hxk⟩ : ∃ x, xs[k]? = some x := ⟨xs[k]'(by omega), by simp⟩
      obtain ⟨y, hyk⟩ : ∃ y, ys[k]? = some y := ⟨ys[k]'(by omega), by simp⟩
      have hxl := hX.get hxk
      have hyl := hY.get hyk
      have hnew : ∀ s c', s + y + n = x + c' * 65536 → s < 65536 → ∀ m, MinusW w B xs ys (k + 1) c' ((wr.drewN m).setCell ⟨B + 1 + 1 + 1, k, none⟩ (.int .i64 (s : Int))) := fun s c' h1 h2 m => (hr.drewN m).step HBW.out hlt hxk hyk h1 h2
      obtain ⟨ds, h1, h2, h3, h4, h5, h6, h7, h8⟩ := hr
      obtain ⟨z, hz⟩ : ∃ z, ds[k]? = some z := ⟨ds[k]'(by omega), by simp⟩
      have d1 := h5.cell k (dig_cell hxk)
      have d2 := h6.cell k (dig_cell hyk)
      have d3 := h3.cell k (dig_cell hz)
      have d4 := h3.free k
      have hk2 : (k : Int) < 140 := by omega
      by_cases hneg : x < y + n
      · obtain ⟨s, hs⟩ : ∃ s, x + 65536 - y - n = s := ⟨_, rfl⟩
        have e1 : (x : Int) - y - n = (s : Int) - 65536 := by omega
        have hs2 : (s : Int) < 65536 := by omega
        have hs3 : decide ((s : Int) - 65536 < 0) = true := by simp; omega
        have HN := Lib.hid (hnew s 1 (by omega) (by omega))
        clear hnew hxk hyk hz h1 h2 h3 h4 h5 h6 h7 h8 hs hneg
        go_wp2
        go_quiet (fail)
        go_wp2
        go_roundw
        case rel => exact ⟨k + 1, 1, by omega, by omega, rfl, by go_num, HN.out _⟩
        case measure => simp [intOf]; omega
      · obtain ⟨s, hs⟩ : ∃ s, x - y - n = s := ⟨_, rfl⟩
        have e1 : (x : Int) - y - n = (s : Int) := by omega
        have hs2 : (s : Int) < 65536 := by omega
        have hs3 : decide ((s : Int) < 0) = false := by simp
        have HN := Lib.hid (hnew s 0 (by omega) (by omega))
        clear hnew hxk hyk hz h1 h2 h3 h4 h5 h6 h7 h8 hs hneg
        go_wp2
        go_quiet (fail)
        go_wp2
        go_roundw
        case rel => exact ⟨k + 1, 0, by omega, by omega, rfl, by go_num, HN.out _⟩
        case measure => simp [intOf]; omega
    · obtain rfl : k = 140 := by omega
      obtain ⟨ds, h1, h2, h3, h4, h5, h6, h7, h8⟩ := hr
      have HN : Hid (toD ds = toD xs - toD ys) := by
        rw [List.take_of_length_le (by omega), List.take_of_length_le (by omega), List.take_of_length_le (by omega)] at h7
        have h9 := toD_top h1 h2
        have h10 := HLE.out
        have h11 : toD ds + toD ys = toD xs + n * wTop := h7
        show toD ds = toD xs - toD ys
        rcases (show n = 0 ∨ n = 1 by omega) with rfl | rfl <;> omega
      have HI := Lib.hid (info_digs ds h1)
      have HS := Lib.hid (show (digCells zeroW).toArray.size = (digCells ds).toArray.size by rw [digs_size ds h1, digs_size zeroW zeroW_len])
      have HO := Lib.hid (digs_one ds)
      have HB5 := Lib.hid h3
      have HB4 := Lib.hid h4
      have HF : Hid (Fr (fun _ => False) w (wr.setRow (B + 1 + 1) (digCells ds).toArray)) := h8.setRow (B + 1 + 1) (.inr (by have := HBW.out; omega)) _
      have HD : Hid (ds.length = 140 ∧ Digs ds) := ⟨h1, h2⟩
      clear h1 h2 h3 h4 h5 h6 h7 h8 hlt hk hn
      go_wp2_with (first | refine wpList_load_row rfl 93 _ rfl (B + 1 + 1 + 1) rfl 93 (digCells ds).toArray (0, 0) _ HB5.out Try.underlying93 rfl HI.out ?_ | refine wpList_store_row rfl 93 _ _ rfl (B + 1 + 1) (digCells ds).toArray rfl rfl 93 (digCells zeroW).toArray HB4.out HI.out HS.out HO.out ?_)
      refine bodyPost_ret (results_cell_row (by rfl) _ _ (B + 1 + 1) 93 (digCells ds).toArray (0, 0) _ rfl (HB4.out.setRow (digCells ds)) Try.underlying93 rfl HI.out) rfl ?_
      exact ⟨ds, rfl, HD.out.1, HD.out.2, HN.out, HF.out⟩
end Go.Proofs.Ytmllbdiljjimmaa
