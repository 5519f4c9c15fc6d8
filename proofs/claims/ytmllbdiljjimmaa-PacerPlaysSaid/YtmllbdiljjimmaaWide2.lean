/- The walks of the reference's wide numbers: plus, minus. -/
import Derived.Test.YtmllbdiljjimmaaWide
namespace Go.Proofs.Ytmllbdiljjimmaa
open Go.RowKit

theorem zero_wide : Try.zeroCells93 = (digCells zeroW).toArray := by kernel_rfl
def wTop : Nat := 65536 ^ 140
theorem toD_top {ds : List Nat} (hn : ds.length = 140) (h : Digs ds) : toD ds < wTop := by
  have := toD_lt h
  rw [hn] at this
  exact this

/-- A wide number is returned. -/
def WidePost (w : World) (N : Nat) (e : Ending) (w' : World) : Prop := ∃ ds, e = .returned (digsV ds) ∧ ds.length = 140 ∧ Digs ds ∧ toD ds = N ∧ Fr (fun _ => False) w w'

/-- Two wide numbers by value, and two new ones. -/
theorem four_boxes (w : World) (xs ys : List Nat) : ∀ w1, (((w.alloc (.cells (digCells xs).toArray 93)).alloc (.cells (digCells ys).toArray 93)).alloc (.cells Try.zeroCells93 93)).alloc (.cells Try.zeroCells93 93) = w1 →
    WB w1 w.heap.size xs ∧ WB w1 (w.heap.size + 1) ys ∧ WB w1 (w.heap.size + 1 + 1) zeroW ∧ WB w1 (w.heap.size + 1 + 1 + 1) zeroW ∧ Fr (fun _ => False) w w1 := by
  rintro w1 rfl
  obtain ⟨h1, h2, h3⟩ := two_boxes w xs ys
  rw [zero_wide]
  refine ⟨(h1.alloc _).alloc _, (h2.alloc _).alloc _, ?_, ?_, (h3.alloc _).alloc _⟩
  · refine Blk.alloc ?_ _
    have := Blk.new ((w.alloc (.cells (digCells xs).toArray 93)).alloc (.cells (digCells ys).toArray 93)) (digCells zeroW) 93
    rwa [World.size_alloc, World.size_alloc] at this
  · have := Blk.new (((w.alloc (.cells (digCells xs).toArray 93)).alloc (.cells (digCells ys).toArray 93)).alloc (.cells (digCells zeroW).toArray 93)) (digCells zeroW) 93
    rwa [World.size_alloc, World.size_alloc, World.size_alloc] at this

/-- Where two wide numbers are put together. -/
def PlusW (w : World) (B : Nat) (xs ys : List Nat) (k c : Nat) (wr : World) : Prop :=
  ∃ ds, ds.length = 140 ∧ Digs ds ∧ WB wr (B + 1 + 1 + 1) ds ∧ WB wr (B + 1 + 1) zeroW ∧ WB wr B xs ∧ WB wr (B + 1) ys ∧ toD (ds.take k) + c * 65536 ^ k = toD (xs.take k) + toD (ys.take k) ∧ Fr (fun _ => False) w wr

theorem mod_top {t T c : Nat} (ht : t < wTop) (h : t + c * wTop = T) : t = T % wTop := by
  rw [← h, Nat.add_mul_mod_self_right, Nat.mod_eq_of_lt ht]

theorem PlusW.step {w : World} {B : Nat} {xs ys : List Nat} {k c x y s c' : Nat} {wr : World} (h : PlusW w B xs ys k c wr) (hB : w.heap.size ≤ B) (hk : k < 140) (hx : xs[k]? = some x) (hy : ys[k]? = some y) (hs : s + c' * 65536 = x + y + c) (hsl : s < 65536) :
    PlusW w B xs ys (k + 1) c' (wr.setCell ⟨B + 1 + 1 + 1, k, none⟩ (.int .i64 (s : Int))) := by
  obtain ⟨ds, h1, h2, h3, h4, h5, h6, h7, h8⟩ := h
  refine ⟨ds.set k s, by rw [List.length_set]; exact h1, h2.set k hsl, ?_, h4.setOther ⟨B + 1 + 1 + 1, k, none⟩ _ (by show B + 1 + 1 ≠ B + 1 + 1 + 1; omega), h5.setOther ⟨B + 1 + 1 + 1, k, none⟩ _ (by show B ≠ B + 1 + 1 + 1; omega), h6.setOther ⟨B + 1 + 1 + 1, k, none⟩ _ (by show B + 1 ≠ B + 1 + 1 + 1; omega), ?_, h8.setCell ⟨B + 1 + 1 + 1, k, none⟩ (.inr (by show w.heap.size ≤ B + 1 + 1 + 1; omega)) _⟩
  · show Blk _ _ (digCells (ds.set k s)) _
    rw [← digCells_set]; exact h3.set k _
  · have e1 : (ds.set k s)[k]? = some s := by rw [List.getElem?_set_self (by omega)]
    have e2 : (ds.set k s).take k = ds.take k := by rw [List.take_set, List.set_eq_of_length_le (by rw [List.length_take]; omega)]
    rw [toD_take e1, e2, toD_take hx, toD_take hy, Nat.pow_succ, plus_step h7 hs]
    omega
theorem PlusW.drewN {w : World} {B : Nat} {xs ys : List Nat} {k c : Nat} {wr : World} (h : PlusW w B xs ys k c wr) (n : Nat) : PlusW w B xs ys k c (wr.drewN n) := by
  obtain ⟨ds, h1, h2, h3, h4, h5, h6, h7, h8⟩ := h
  exact ⟨ds, h1, h2, h3.drewN n, h4.drewN n, h5.drewN n, h6.drewN n, h7, h8.drewN n⟩

set_option maxRecDepth 100000 in
set_option maxHeartbeats 1600000 in
theorem plus_any (xs ys : List Nat) (hx : xs.length = 140) (hy : ys.length = 140) (hX : Digs xs) (hY : Digs ys) (w : World) :
    Calls Try.prog 78 #[digsV xs, digsV ys] w (WidePost w ((toD xs + toD ys) % wTop)) := by
  unfold digsV
  have hb := four_boxes w xs ys
  generalize hca : (digCells xs).toArray = ca at *
  generalize hcb : (digCells ys).toArray = cb at *
  have HB := Lib.hid hb
  clear hb hca hcb
  go_enter Try.func78, Try.ntmps78
  go_upto_region 2 with fail
  generalize hW : (((w.alloc _).alloc _).alloc _).alloc _ = w1
  obtain ⟨b1, b2, b3, b4, hf⟩ := HB.out w1 hW
  have hrel0 : PlusW w w.heap.size xs ys 0 0 w1 := ⟨zeroW, zeroW_len, Digs.zero _, b4, b3, b1, b2, by simp [toD], hf⟩
  have HBB : Hid (w.heap.size ≤ w.heap.size) := Nat.le_refl _
  generalize hbb : w.heap.size = B at *
  have HREL := Lib.hid hrel0
  have HBW : Hid (w.heap.size ≤ B) := by rw [← hbb]; exact Nat.le_refl _
  clear hrel0 b1 b2 b3 b4 hf hW HB hbb HBB
  go_wp2
  go_loopw [6, 7] (fun c i wr => ∃ k n : Nat, k ≤ 140 ∧ n ≤ 1 ∧ c = .int .i64 (n : Int) ∧ i = .int .i64 (k : Int) ∧ PlusW w B xs ys k n wr) (fun _ i _ => 140 - (intOf i).toNat)
  case atStart => exact ⟨0, 0, by omega, by omega, rfl, rfl, HREL.out⟩
  case round =>
    clear HREL
    obtain ⟨k, n, hk, hn, rfl, rfl, hr⟩ := hrel
    by_cases hlt : k < 140
    · obtain ⟨x, hxk⟩ : ∃ x, xs[k]? = some x := ⟨xs[k]'(by omega), by simp⟩
      obtain ⟨y, hyk⟩ : ∃ y, ys[k]? = some y := ⟨ys[k]'(by omega), by simp⟩
      have hxl := hX.get hxk
      have hyl := hY.get hyk
      obtain ⟨s, hs⟩ : ∃ s, (x + y + n) % 65536 = s := ⟨_, rfl⟩
      obtain ⟨c', hc'⟩ : ∃ c', (x + y + n) / 65536 = c' := ⟨_, rfl⟩
      have hnew : ∀ m, PlusW w B xs ys (k + 1) c' ((wr.drewN m).setCell ⟨B + 1 + 1 + 1, k, none⟩ (.int .i64 (s : Int))) := fun m => (hr.drewN m).step HBW.out hlt hxk hyk (by omega) (by omega)
      obtain ⟨ds, h1, h2, h3, h4, h5, h6, h7, h8⟩ := hr
      obtain ⟨z, hz⟩ : ∃ z, ds[k]? = some z := ⟨ds[k]'(by omega), by simp⟩
      have d1 := h5.cell k (dig_cell hxk)
      have d2 := h6.cell k (dig_cell hyk)
      have d3 := h3.cell k (dig_cell hz)
      have d4 := h3.free k
      have hcl : c' ≤ 1 := by omega
      have e1 : ((x : Int) + y + n) % 65536 = (s : Int) := by omega
      have e2 : ((x : Int) + y + n) / 65536 = (c' : Int) := by omega
      have hk2 : (k : Int) < 140 := by omega
      have HN := Lib.hid hnew
      clear hnew hxk hyk hz h1 h2 h3 h4 h5 h6 h7 h8 hs hc'
      go_wp2
      go_quiet (fail)
      go_wp2
      go_roundw
      case rel => exact ⟨k + 1, c', by omega, hcl, by rw [e2], by go_num, HN.out _⟩
      case measure => simp [intOf]; omega
    · obtain rfl : k = 140 := by omega
      obtain ⟨ds, h1, h2, h3, h4, h5, h6, h7, h8⟩ := hr
      have HN : Hid (toD ds = (toD xs + toD ys) % wTop) := by
        rw [List.take_of_length_le (by omega), List.take_of_length_le (by omega), List.take_of_length_le (by omega)] at h7
        exact mod_top (toD_top h1 h2) h7
      have HI := Lib.hid (info_digs ds h1)
      have HS := Lib.hid (show (digCells zeroW).toArray.size = (digCells ds).toArray.size by rw [digs_size ds h1, digs_size zeroW zeroW_len])
      have HO := Lib.hid (digs_one ds)
      have HB5 := Lib.hid h3
      have HB4 := Lib.hid h4
      have HF : Hid (Fr (fun _ => False) w (wr.setRow (B + 1 + 1) (digCells ds).toArray)) := h8.setRow (B + 1 + 1) (.inr (by have := HBW.out; omega)) _
      have HD : Hid (ds.length = 140 ∧ Digs ds) := ⟨h1, h2⟩
      clear h1 h2 h3 h4 h5 h6 h7 h8 hlt hk hn
      go_wp2_with (first | refine wpList_load_row rfl 93 _ rfl (B + 1 + 1 + 1) rfl 93 (digCells ds).toArray (0, 0) _ HB5.out Try.underlying93 rfl HI.out ?_ | refine wpList_store_row rfl 93 _ _ rfl (B + 1 + 1) (digCells ds).toArray rfl rfl 93 (digCells zeroW).toArray HB4.out HI.out HS.out HO.out ?_)
      refine bodyPost_ret (results_cell_row (by rfl) _ _ (B + 1 + 1) 93 (digCells ds).toArray (0, 0) _ rfl (HB4.out.setRow (digCells ds)) Try.underlying93 rfl HI.out) rfl ?_
      exact ⟨ds, rfl, HD.out.1, HD.out.2, HN.out, HF.out⟩
end Go.Proofs.Ytmllbdiljjimmaa
