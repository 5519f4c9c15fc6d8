/- The walks of the reference's wide numbers: less, plus, minus. -/
import Derived.Test.YtmllbdiljjimmaaDigs
import Derived.Test.YtmllbdiljjimmaaRegion
import Derived.Laws.Rows
import Derived.Deep.DeepCutAuto
import Derived.Deep.MidRow
import Derived.IntWalk
namespace Go.Proofs.Ytmllbdiljjimmaa
open Go.RowKit

def digCells (ds : List Nat) : List Value := ds.map (fun n : Nat => Value.int .i64 (n : Int))
/-- The digits as one value. -/
def digsV (ds : List Nat) : Value := .agg (digCells ds).toArray
theorem dig_cell {ds : List Nat} {i x : Nat} (h : ds[i]? = some x) : (digCells ds)[i]? = some (.int .i64 (x : Int)) := by
  unfold digCells; rw [List.getElem?_map, h]; rfl
theorem digCells_set (ds : List Nat) (i y : Nat) : (digCells ds).set i (.int .i64 (y : Int)) = digCells (ds.set i y) := by
  unfold digCells; rw [List.map_set]
theorem digs_size (ds : List Nat) (hn : ds.length = 140) : (digCells ds).toArray.size = 140 := by unfold digCells; simp [hn]
theorem digs_one (ds : List Nat) : (digCells ds).toArray.all (·.oneCell') = true := Go.all_oneCell_toArray (fun v hv => by
  unfold digCells at hv; obtain ⟨x, _, rfl⟩ := List.mem_map.1 hv; rfl)
theorem info_wide : (Try.prog.info? 93).map (·.size) = some 140 := by kernel_rfl
theorem info_digs (ds : List Nat) (hn : ds.length = 140) : (Try.prog.info? 93).map (·.size) = some (digCells ds).toArray.size := by rw [digs_size ds hn]; exact info_wide
def zeroW : List Nat := List.replicate 140 0
theorem zeroW_len : zeroW.length = 140 := List.length_replicate

abbrev WB (w : World) (b : Nat) (ds : List Nat) : Prop := Blk w b (digCells ds) 93

def BoolPost (w : World) (v : Bool) (e : Ending) (w' : World) : Prop := e = .returned (.bool v) ∧ Fr (fun _ => False) w w'
theorem Fr.then {w0 w1 w2 : World} (h1 : Fr (fun _ => False) w0 w1) (h2 : Fr (fun _ => False) w1 w2) : Fr (fun _ => False) w0 w2 := h1.trans h2 (fun _ h => h.elim)

/-- Two wide numbers by value, boxed. -/
theorem two_boxes (w : World) (xs ys : List Nat) : WB ((w.alloc (.cells (digCells xs).toArray 93)).alloc (.cells (digCells ys).toArray 93)) w.heap.size xs ∧
    WB ((w.alloc (.cells (digCells xs).toArray 93)).alloc (.cells (digCells ys).toArray 93)) (w.heap.size + 1) ys ∧ Fr (fun _ => False) w ((w.alloc (.cells (digCells xs).toArray 93)).alloc (.cells (digCells ys).toArray 93)) := by
  refine ⟨Blk.alloc (Blk.new w (digCells xs) 93) _, ?_, ((Fr.refl _ w).alloc _).alloc _⟩
  have := Blk.new (w.alloc (.cells (digCells xs).toArray 93)) (digCells ys) 93
  rwa [World.size_alloc] at this

/-- Where a comparison stands. -/
def LessRel (w : World) (g1 g2 : Nat) (xs ys : List Nat) (k : Nat) (wr : World) : Prop := SameFrom xs ys k ∧ WB wr g1 xs ∧ WB wr g2 ys ∧ Fr (fun _ => False) w wr

set_option maxRecDepth 100000 in
set_option maxHeartbeats 800000 in
theorem less_any (xs ys : List Nat) (hx : xs.length = 140) (hy : ys.length = 140) (hX : Digs xs) (hY : Digs ys) (w : World) :
    Calls Try.prog 65 #[digsV xs, digsV ys] w (BoolPost w (decide (toD xs < toD ys))) := by
  unfold digsV
  obtain ⟨hb1, hb2, hf⟩ := two_boxes w xs ys
  generalize hca : (digCells xs).toArray = ca at *
  generalize hcb : (digCells ys).toArray = cb at *
  generalize hw1 : (w.alloc (.cells ca 93)).alloc (.cells cb 93) = w1 at *
  have HB1 := Lib.hid hb1
  have HB2 := Lib.hid hb2
  have HF := Lib.hid hf
  clear hb1 hb2 hf hca hcb
  go_enter Try.func65, Try.ntmps65
  go_wp2
  go_loopw [5] (fun i wr => ∃ k : Nat, k ≤ 140 ∧ i = .int .i64 ((k : Int) - 1) ∧ LessRel w w.heap.size (w.heap.size + 1) xs ys k wr) (fun i _ => (intOf i + 1).toNat)
  case atStart => exact ⟨140, Nat.le_refl _, rfl, fun j hj => by rw [List.getElem?_eq_none (by omega), List.getElem?_eq_none (by omega)], HB1.out, HB2.out, HF.out⟩
  case round =>
    clear HB1 HB2 HF
    obtain ⟨k, hk, rfl, hs, hb1, hb2, hf⟩ := hrel
    rcases Nat.eq_zero_or_pos k with rfl | hk0
    · have hfin : BoolPost w (decide (toD xs < toD ys)) (.returned (.bool false)) wr := ⟨by rw [less_none hs], hf⟩
      have HFin := Lib.hid hfin
      clear hfin hs hb1 hb2 hf hw1
      go_wp2
      go_ret
      exact HFin.out
    · obtain ⟨j, rfl⟩ : ∃ j, k = j + 1 := ⟨k - 1, by omega⟩
      rw [show ((j + 1 : Nat) : Int) - 1 = (j : Int) by omega]
      obtain ⟨x, hxj⟩ : ∃ x, xs[j]? = some x := ⟨xs[j]'(by omega), by simp⟩
      obtain ⟨y, hyj⟩ : ∃ y, ys[j]? = some y := ⟨ys[j]'(by omega), by simp⟩
      have c1 := hb1.cell j (dig_cell hxj)
      have c2 := hb2.cell j (dig_cell hyj)
      have hj : (j : Int) < 140 := by omega
      by_cases hxy : x = y
      · have hnew : ∀ n, LessRel w w.heap.size (w.heap.size + 1) xs ys j (wr.drewN n) := fun n => ⟨fun i hi => by
          rcases Nat.eq_or_lt_of_le hi with rfl | hi
          · rw [hxj, hyj, hxy]
          · exact hs i hi, hb1.drewN n, hb2.drewN n, hf.drewN n⟩
        have HN := Lib.hid hnew
        subst hxy
        clear hnew hs hb1 hb2 hf hw1 hxj hyj
        go_wp2
        go_quiet (fail)
        go_wp2
        go_roundw
        case rel => exact ⟨j, by omega, by go_num, HN.out _⟩
        case measure => simp [intOf]
      · have hl := less_at hX hY hs hxj hyj hxy
        have hfin : ∀ n m, BoolPost w (decide (toD xs < toD ys)) (.returned (.bool (decide (x < y)))) ((wr.drewN n).drewN m) := fun n m => ⟨by rw [hl], (hf.drewN n).drewN m⟩
        have HFin := Lib.hid hfin
        have hne : ((x : Int) != y) = true := by rw [bne_iff_ne]; omega
        clear hfin hs hb1 hb2 hf hw1 hxj hyj hl hxy
        go_wp2
        go_quiet (fail)
        go_wp2
        go_quiet (fail)
        go_wp2
        go_ret
        exact HFin.out _ _
end Go.Proofs.Ytmllbdiljjimmaa

/- The walks of the reference's wide numbers: plus, minus. -/
namespace Go.Proofs.Ytmllbdiljjimmaa
open Go.RowKit

theorem zero_wide : Try.zeroCells93 = (digCells zeroW).toArray := by kernel_rfl
def wTop : Nat := 65536 ^ 140
theorem toD_top {ds : List Nat} (hn : ds.length = 140) (h : Digs ds) : toD ds < wTop := by
  have := toD_lt h
  rw [hn] at this
  exact this

/-- A wide number is returned. -/
def WidePost (w : World) (N : Nat) (e : Ending) (w' : World) : Prop := ∃ ds, e = .returned (digsV ds) ∧ ds.length = 140 ∧ Digs ds ∧ toD ds = N ∧ Fr (fun _ => False) w w'

/-- Two wide numbers by value, and two new ones. -/
theorem four_boxes (w : World) (xs ys : List Nat) : ∀ w1, (((w.alloc (.cells (digCells xs).toArray 93)).alloc (.cells (digCells ys).toArray 93)).alloc (.cells Try.zeroCells93 93)).alloc (.cells Try.zeroCells93 93) = w1 →
    WB w1 w.heap.size xs ∧ WB w1 (w.heap.size + 1) ys ∧ WB w1 (w.heap.size + 1 + 1) zeroW ∧ WB w1 (w.heap.size + 1 + 1 + 1) zeroW ∧ Fr (fun _ => False) w w1 := by
  rintro w1 rfl
  obtain ⟨h1, h2, h3⟩ := two_boxes w xs ys
  rw [zero_wide]
  refine ⟨(h1.alloc _).alloc _, (h2.alloc _).alloc _, ?_, ?_, (h3.alloc _).alloc _⟩
  · refine Blk.alloc ?_ _
    have := Blk.new ((w.alloc (.cells (digCells xs).toArray 93)).alloc (.cells (digCells ys).toArray 93)) (digCells zeroW) 93
    rwa [World.size_alloc, World.size_alloc] at this
  · have := Blk.new (((w.alloc (.cells (digCells xs).toArray 93)).alloc (.cells (digCells ys).toArray 93)).alloc (.cells (digCells zeroW).toArray 93)) (digCells zeroW) 93
    rwa [World.size_alloc, World.size_alloc, World.size_alloc] at this

/-- Where two wide numbers are put together. -/
def PlusW (w : World) (B : Nat) (xs ys : List Nat) (k c : Nat) (wr : World) : Prop :=
  ∃ ds, ds.length = 140 ∧ Digs ds ∧ WB wr (B + 1 + 1 + 1) ds ∧ WB wr (B + 1 + 1) zeroW ∧ WB wr B xs ∧ WB wr (B + 1) ys ∧ toD (ds.take k) + c * 65536 ^ k = toD (xs.take k) + toD (ys.take k) ∧ Fr (fun _ => False) w wr

theorem mod_top {t T c : Nat} (ht : t < wTop) (h : t + c * wTop = T) : t = T % wTop := by
  rw [← h, Nat.add_mul_mod_self_right, Nat.mod_eq_of_lt ht]

theorem PlusW.step {w : World} {B : Nat} {xs ys : List Nat} {k c x y s c' : Nat} {wr : World} (h : PlusW w B xs ys k c wr) (hB : w.heap.size ≤ B) (hk : k < 140) (hx : xs[k]? = some x) (hy : ys[k]? = some y) (hs : s + c' * 65536 = x + y + c) (hsl : s < 65536) :
    PlusW w B xs ys (k + 1) c' (wr.setCell ⟨B + 1 + 1 + 1, k, none⟩ (.int .i64 (s : Int))) := by
  obtain ⟨ds, h1, h2, h3, h4, h5, h6, h7, h8⟩ := h
  refine ⟨ds.set k s, by rw [List.length_set]; exact h1, h2.set k hsl, ?_, h4.setOther ⟨B + 1 + 1 + 1, k, none⟩ _ (by show B + 1 + 1 ≠ B + 1 + 1 + 1; omega), h5.setOther ⟨B + 1 + 1 + 1, k, none⟩ _ (by show B ≠ B + 1 + 1 + 1; omega), h6.setOther ⟨B + 1 + 1 + 1, k, none⟩ _ (by show B + 1 ≠ B + 1 + 1 + 1; omega), ?_, h8.setCell ⟨B + 1 + 1 + 1, k, none⟩ (.inr (by show w.heap.size ≤ B + 1 + 1 + 1; omega)) _⟩
  · show Blk _ _ (digCells (ds.set k s)) _
    rw [← digCells_set]; exact h3.set k _
  · have e1 : (ds.set k s)[k]? = some s := by rw [List.getElem?_set_self (by omega)]
    have e2 : (ds.set k s).take k = ds.take k := by rw [List.take_set, List.set_eq_of_length_le (by rw [List.length_take]; omega)]
    rw [toD_take e1, e2, toD_take hx, toD_take hy, Nat.pow_succ, plus_step h7 hs]
    omega
theorem PlusW.drewN {w : World} {B : Nat} {xs ys : List Nat} {k c : Nat} {wr : World} (h : PlusW w B xs ys k c wr) (n : Nat) : PlusW w B xs ys k c (wr.drewN n) := by
  obtain ⟨ds, h1, h2, h3, h4, h5, h6, h7, h8⟩ := h
  exact ⟨ds, h1, h2, h3.drewN n, h4.drewN n, h5.drewN n, h6.drewN n, h7, h8.drewN n⟩

set_option maxRecDepth 100000 in
set_option maxHeartbeats 1600000 in
theorem plus_any (xs ys : List Nat) (hx : xs.length = 140) (hy : ys.length = 140) (hX : Digs xs) (hY : Digs ys) (w : World) :
    Calls Try.prog 78 #[digsV xs, digsV ys] w (WidePost w ((toD xs + toD ys) % wTop)) := by
  unfold digsV
  have hb := four_boxes w xs ys
  generalize hca : (digCells xs).toArray = ca at *
  generalize hcb : (digCells ys).toArray = cb at *
  have HB := Lib.hid hb
  clear hb hca hcb
  go_enter Try.func78, Try.ntmps78
  go_upto_region 2 with fail
  generalize hW : (((w.alloc _).alloc _).alloc _).alloc _ = w1
  obtain ⟨b1, b2, b3, b4, hf⟩ := HB.out w1 hW
  have hrel0 : PlusW w w.heap.size xs ys 0 0 w1 := ⟨zeroW, zeroW_len, Digs.zero _, b4, b3, b1, b2, by simp [toD], hf⟩
  have HBB : Hid (w.heap.size ≤ w.heap.size) := Nat.le_refl _
  generalize hbb : w.heap.size = B at *
  have HREL := Lib.hid hrel0
  have HBW : Hid (w.heap.size ≤ B) := by rw [← hbb]; exact Nat.le_refl _
  clear hrel0 b1 b2 b3 b4 hf hW HB hbb HBB
  go_wp2
  go_loopw [6, 7] (fun c i wr => ∃ k n : Nat, k ≤ 140 ∧ n ≤ 1 ∧ c = .int .i64 (n : Int) ∧ i = .int .i64 (k : Int) ∧ PlusW w B xs ys k n wr) (fun _ i _ => 140 - (intOf i).toNat)
  case atStart => exact ⟨0, 0, by omega, by omega, rfl, rfl, HREL.out⟩
  case round =>
    clear HREL
    obtain ⟨k, n, hk, hn, rfl, rfl, hr⟩ := hrel
    by_cases hlt : k < 140
    · obtain ⟨x, hxk⟩ : ∃ x, xs[k]? = some x := ⟨xs[k]'(by omega), by simp⟩
      obtain ⟨y, hyk⟩ : ∃ y, ys[k]? = some y := ⟨ys[k]'(by omega), by simp⟩
      have hxl := hX.get hxk
      have hyl := hY.get hyk
      obtain ⟨s, hs⟩ : ∃ s, (x + y + n) % 65536 = s := ⟨_, rfl⟩
      obtain ⟨c', hc'⟩ : ∃ c', (x + y + n) / 65536 = c' := ⟨_, rfl⟩
      have hnew : ∀ m, PlusW w B xs ys (k + 1) c' ((wr.drewN m).setCell ⟨B + 1 + 1 + 1, k, none⟩ (.int .i64 (s : Int))) := fun m => (hr.drewN m).step HBW.out hlt hxk hyk (by omega) (by omega)
      obtain ⟨ds, h1, h2, h3, h4, h5, h6, h7, h8⟩ := hr
      obtain ⟨z, hz⟩ : ∃ z, ds[k]? = some z := ⟨ds[k]'(by omega), by simp⟩
      have d1 := h5.cell k (dig_cell hxk)
      have d2 := h6.cell k (dig_cell hyk)
      have d3 := h3.cell k (dig_cell hz)
      have d4 := h3.free k
      have hcl : c' ≤ 1 := by omega
      have e1 : ((x : Int) + y + n) % 65536 = (s : Int) := by omega
      have e2 : ((x : Int) + y + n) / 65536 = (c' : Int) := by omega
      have hk2 : (k : Int) < 140 := by omega
      have HN := Lib.hid hnew
      clear hnew hxk hyk hz h1 h2 h3 h4 h5 h6 h7 h8 hs hc'
      go_wp2
      go_quiet (fail)
      go_wp2
      go_roundw
      case rel => exact ⟨k + 1, c', by omega, hcl, by rw [e2], by go_num, HN.out _⟩
      case measure => simp [intOf]; omega
    · obtain rfl : k = 140 := by omega
      obtain ⟨ds, h1, h2, h3, h4, h5, h6, h7, h8⟩ := hr
      have HN : Hid (toD ds = (toD xs + toD ys) % wTop) := by
        rw [List.take_of_length_le (by omega), List.take_of_length_le (by omega), List.take_of_length_le (by omega)] at h7
        exact mod_top (toD_top h1 h2) h7
      have HI := Lib.hid (info_digs ds h1)
      have HS := Lib.hid (show (digCells zeroW).toArray.size = (digCells ds).toArray.size by rw [digs_size ds h1, digs_size zeroW zeroW_len])
      have HO := Lib.hid (digs_one ds)
      have HB5 := Lib.hid h3
      have HB4 := Lib.hid h4
      have HF : Hid (Fr (fun _ => False) w (wr.setRow (B + 1 + 1) (digCells ds).toArray)) := h8.setRow (B + 1 + 1) (.inr (by have := HBW.out; omega)) _
      have HD : Hid (ds.length = 140 ∧ Digs ds) := ⟨h1, h2⟩
      clear h1 h2 h3 h4 h5 h6 h7 h8 hlt hk hn
      go_wp2_with (first | refine wpList_load_row rfl 93 _ rfl (B + 1 + 1 + 1) rfl 93 (digCells ds).toArray (0, 0) _ HB5.out Try.underlying93 rfl HI.out ?_ | refine wpList_store_row rfl 93 _ _ rfl (B + 1 + 1) (digCells ds).toArray rfl rfl 93 (digCells zeroW).toArray HB4.out HI.out HS.out HO.out ?_)
      refine bodyPost_ret (results_cell_row (by rfl) _ _ (B + 1 + 1) 93 (digCells ds).toArray (0, 0) _ rfl (HB4.out.setRow (digCells ds)) Try.underlying93 rfl HI.out) rfl ?_
      exact ⟨ds, rfl, HD.out.1, HD.out.2, HN.out, HF.out⟩
end Go.Proofs.Ytmllbdiljjimmaa

/- The walks of the reference's wide numbers: minus. -/
namespace Go.Proofs.Ytmllbdiljjimmaa
open Go.RowKit

/-- Where a wide number is taken from another one. -/
def MinusW (w : World) (B : Nat) (xs ys : List Nat) (k c : Nat) (wr : World) : Prop :=
  ∃ ds, ds.length = 140 ∧ Digs ds ∧ WB wr (B + 1 + 1 + 1) ds ∧ WB wr (B + 1 + 1) zeroW ∧ WB wr B xs ∧ WB wr (B + 1) ys ∧ toD (ds.take k) + toD (ys.take k) = toD (xs.take k) + c * 65536 ^ k ∧ Fr (fun _ => False) w wr

theorem MinusW.step {w : World} {B : Nat} {xs ys : List Nat} {k c x y s c' : Nat} {wr : World} (h : MinusW w B xs ys k c wr) (hB : w.heap.size ≤ B) (hk : k < 140) (hx : xs[k]? = some x) (hy : ys[k]? = some y) (hs : s + y + c = x + c' * 65536) (hsl : s < 65536) :
    MinusW w B xs ys (k + 1) c' (wr.setCell ⟨B + 1 + 1 + 1, k, none⟩ (.int .i64 (s : Int))) := by
  obtain ⟨ds, h1, h2, h3, h4, h5, h6, h7, h8⟩ := h
  refine ⟨ds.set k s, by rw [List.length_set]; exact h1, h2.set k hsl, ?_, h4.setOther ⟨B + 1 + 1 + 1, k, none⟩ _ (by show B + 1 + 1 ≠ B + 1 + 1 + 1; omega), h5.setOther ⟨B + 1 + 1 + 1, k, none⟩ _ (by show B ≠ B + 1 + 1 + 1; omega), h6.setOther ⟨B + 1 + 1 + 1, k, none⟩ _ (by show B + 1 ≠ B + 1 + 1 + 1; omega), ?_, h8.setCell ⟨B + 1 + 1 + 1, k, none⟩ (.inr (by show w.heap.size ≤ B + 1 + 1 + 1; omega)) _⟩
  · show Blk _ _ (digCells (ds.set k s)) _
    rw [← digCells_set]; exact h3.set k _
  · have e1 : (ds.set k s)[k]? = some s := by rw [List.getElem?_set_self (by omega)]
    have e2 : (ds.set k s).take k = ds.take k := by rw [List.take_set, List.set_eq_of_length_le (by rw [List.length_take]; omega)]
    rw [toD_take e1, e2, toD_take hx, toD_take hy, Nat.pow_succ, minus_step h7 hs]
theorem MinusW.drewN {w : World} {B : Nat} {xs ys : List Nat} {k c : Nat} {wr : World} (h : MinusW w B xs ys k c wr) (n : Nat) : MinusW w B xs ys k c (wr.drewN n) := by
  obtain ⟨ds, h1, h2, h3, h4, h5, h6, h7, h8⟩ := h
  exact ⟨ds, h1, h2, h3.drewN n, h4.drewN n, h5.drewN n, h6.drewN n, h7, h8.drewN n⟩

set_option maxRecDepth 100000 in
set_option maxHeartbeats 1600000 in
theorem minus_any (xs ys : List Nat) (hx : xs.length = 140) (hy : ys.length = 140) (hX : Digs xs) (hY : Digs ys) (hle : toD ys ≤ toD xs) (w : World) :
    Calls Try.prog 67 #[digsV xs, digsV ys] w (WidePost w (toD xs - toD ys)) := by
  unfold digsV
  have hb := four_boxes w xs ys
  generalize hca : (digCells xs).toArray = ca at *
  generalize hcb : (digCells ys).toArray = cb at *
  have HB := Lib.hid hb
  have HLE := Lib.hid hle
  clear hb hca hcb hle
  go_enter Try.func67, Try.ntmps67
  go_upto_region 2 with fail
  generalize hW : (((w.alloc _).alloc _).alloc _).alloc _ = w1
  obtain ⟨b1, b2, b3, b4, hf⟩ := HB.out w1 hW
  have hrel0 : MinusW w w.heap.size xs ys 0 0 w1 := ⟨zeroW, zeroW_len, Digs.zero _, b4, b3, b1, b2, by simp [toD], hf⟩
  generalize hbb : w.heap.size = B at *
  have HREL := Lib.hid hrel0
  have HBW : Hid (w.heap.size ≤ B) := by rw [← hbb]; exact Nat.le_refl _
  clear hrel0 b1 b2 b3 b4 hf hW HB hbb
  go_wp2
  go_loopw [6, 7] (fun c i wr => ∃ k n : Nat, k ≤ 140 ∧ n ≤ 1 ∧ c = .int .i64 (n : Int) ∧ i = .int .i64 (k : Int) ∧ MinusW w B xs ys k n wr) (fun _ i _ => 140 - (intOf i).toNat)
  case atStart => exact ⟨0, 0, by omega, by omega, rfl, rfl, HREL.out⟩
  case round =>
    clear HREL
    obtain ⟨k, n, hk, hn, rfl, rfl, hr⟩ := hrel
    by_cases hlt : k < 140
    · obtain ⟨x, hxk⟩ : ∃ x, xs[k]? = some x := ⟨xs[k]'(by omega), by simp⟩
      obtain ⟨y, hyk⟩ : ∃ y, ys[k]? = some y := ⟨ys[k]'(by omega), by simp⟩
      have hxl := hX.get hxk
      have hyl := hY.get hyk
      have hnew : ∀ s c', s + y + n = x + c' * 65536 → s < 65536 → ∀ m, MinusW w B xs ys (k + 1) c' ((wr.drewN m).setCell ⟨B + 1 + 1 + 1, k, none⟩ (.int .i64 (s : Int))) := fun s c' h1 h2 m => (hr.drewN m).step HBW.out hlt hxk hyk h1 h2
      obtain ⟨ds, h1, h2, h3, h4, h5, h6, h7, h8⟩ := hr
      obtain ⟨z, hz⟩ : ∃ z, ds[k]? = some z := ⟨ds[k]'(by omega), by simp⟩
      have d1 := h5.cell k (dig_cell hxk)
      have d2 := h6.cell k (dig_cell hyk)
      have d3 := h3.cell k (dig_cell hz)
      have d4 := h3.free k
      have hk2 : (k : Int) < 140 := by omega
      by_cases hneg : x < y + n
      · obtain ⟨s, hs⟩ : ∃ s, x + 65536 - y - n = s := ⟨_, rfl⟩
        have e1 : (x : Int) - y - n = (s : Int) - 65536 := by omega
        have hs2 : (s : Int) < 65536 := by omega
        have hs3 : decide ((s : Int) - 65536 < 0) = true := by simp; omega
        have HN := Lib.hid (hnew s 1 (by omega) (by omega))
        clear hnew hxk hyk hz h1 h2 h3 h4 h5 h6 h7 h8 hs hneg
        go_wp2
        go_quiet (fail)
        go_wp2
        go_roundw
        case rel => exact ⟨k + 1, 1, by omega, by omega, rfl, by go_num, HN.out _⟩
        case measure => simp [intOf]; omega
      · obtain ⟨s, hs⟩ : ∃ s, x - y - n = s := ⟨_, rfl⟩
        have e1 : (x : Int) - y - n = (s : Int) := by omega
        have hs2 : (s : Int) < 65536 := by omega
        have hs3 : decide ((s : Int) < 0) = false := by simp
        have HN := Lib.hid (hnew s 0 (by omega) (by omega))
        clear hnew hxk hyk hz h1 h2 h3 h4 h5 h6 h7 h8 hs hneg
        go_wp2
        go_quiet (fail)
        go_wp2
        go_roundw
        case rel => exact ⟨k + 1, 0, by omega, by omega, rfl, by go_num, HN.out _⟩
        case measure => simp [intOf]; omega
    · obtain rfl : k = 140 := by omega
      obtain ⟨ds, h1, h2, h3, h4, h5, h6, h7, h8⟩ := hr
      have HN : Hid (toD ds = toD xs - toD ys) := by
        rw [List.take_of_length_le (by omega), List.take_of_length_le (by omega), List.take_of_length_le (by omega)] at h7
        have h9 := toD_top h1 h2
        have h10 := HLE.out
        have h11 : toD ds + toD ys = toD xs + n * wTop := h7
        show toD ds = toD xs - toD ys
        rcases (show n = 0 ∨ n = 1 by omega) with rfl | rfl <;> omega
      have HI := Lib.hid (info_digs ds h1)
      have HS := Lib.hid (show (digCells zeroW).toArray.size = (digCells ds).toArray.size by rw [digs_size ds h1, digs_size zeroW zeroW_len])
      have HO := Lib.hid (digs_one ds)
      have HB5 := Lib.hid h3
      have HB4 := Lib.hid h4
      have HF : Hid (Fr (fun _ => False) w (wr.setRow (B + 1 + 1) (digCells ds).toArray)) := h8.setRow (B + 1 + 1) (.inr (by have := HBW.out; omega)) _
      have HD : Hid (ds.length = 140 ∧ Digs ds) := ⟨h1, h2⟩
      clear h1 h2 h3 h4 h5 h6 h7 h8 hlt hk hn
      go_wp2_with (first | refine wpList_load_row rfl 93 _ rfl (B + 1 + 1 + 1) rfl 93 (digCells ds).toArray (0, 0) _ HB5.out Try.underlying93 rfl HI.out ?_ | refine wpList_store_row rfl 93 _ _ rfl (B + 1 + 1) (digCells ds).toArray rfl rfl 93 (digCells zeroW).toArray HB4.out HI.out HS.out HO.out ?_)
      refine bodyPost_ret (results_cell_row (by rfl) _ _ (B + 1 + 1) 93 (digCells ds).toArray (0, 0) _ rfl (HB4.out.setRow (digCells ds)) Try.underlying93 rfl HI.out) rfl ?_
      exact ⟨ds, rfl, HD.out.1, HD.out.2, HN.out, HF.out⟩
end Go.Proofs.Ytmllbdiljjimmaa

/- The walks of the reference's wide numbers: digits. -/
namespace Go.Proofs.Ytmllbdiljjimmaa
open Go.RowKit

/-- Two new wide numbers. -/
theorem two_new (w : World) : ∀ w1, (w.alloc (.cells Try.zeroCells93 93)).alloc (.cells Try.zeroCells93 93) = w1 →
    WB w1 w.heap.size zeroW ∧ WB w1 (w.heap.size + 1) zeroW ∧ Fr (fun _ => False) w w1 := by
  rintro w1 rfl
  rw [zero_wide]
  exact two_boxes w zeroW zeroW

/-- A word's digits, as far as place k. -/
def DigW (w : World) (B m p k M : Nat) (wr : World) : Prop :=
  ∃ ds, ds.length = 140 ∧ Digs ds ∧ WB wr (B + 1) ds ∧ WB wr B zeroW ∧ (∀ j, p + k ≤ j → j < 140 → ds[j]? = some 0) ∧ toD ds + M * 65536 ^ (p + k) = m * 65536 ^ p ∧ Fr (fun _ => False) w wr

theorem DigW.step {w : World} {B m p k M : Nat} {wr : World} (h : DigW w B m p k M wr) (hB : w.heap.size ≤ B) (hk : p + k < 140) :
    DigW w B m p (k + 1) (M / 65536) (wr.setCell ⟨B + 1, p + k, none⟩ (.int .i64 ((M % 65536 : Nat) : Int))) := by
  obtain ⟨ds, h1, h2, h3, h4, h5, h6, h7⟩ := h
  refine ⟨ds.set (p + k) (M % 65536), by rw [List.length_set]; exact h1, h2.set _ (Nat.mod_lt _ (by decide)), ?_, h4.setOther ⟨B + 1, p + k, none⟩ _ (by show B ≠ B + 1; omega), fun j hj hl => ?_, ?_, h7.setCell ⟨B + 1, p + k, none⟩ (.inr (by show w.heap.size ≤ B + 1; omega)) _⟩
  · show Blk _ _ (digCells (ds.set (p + k) (M % 65536))) _
    rw [← digCells_set]; exact h3.set _ _
  · rw [List.getElem?_set_ne (by omega)]; exact h5 j (by omega) hl
  · have e1 := toD_set ds (p + k) 0 (M % 65536) (h5 (p + k) (Nat.le_refl _) hk)
    rw [Nat.zero_mul, Nat.add_zero] at e1
    rw [e1, ← h6, ← Nat.add_assoc, Nat.pow_succ]
    generalize 65536 ^ (p + k) = P at *
    have e2 : M * P = (M % 65536) * P + M / 65536 * (P * 65536) := by
      have e3 : M = M % 65536 + M / 65536 * 65536 := by omega
      have e4 : M * P = (M % 65536 + M / 65536 * 65536) * P := by rw [← e3]
      rw [e4, Nat.add_mul, Nat.mul_assoc (M / 65536), Nat.mul_comm 65536 P]
    rw [e2]
    omega

set_option maxRecDepth 100000 in
set_option maxHeartbeats 1600000 in
theorem digits_any (m p : Nat) (hm : m < 18446744073709551616) (hp : p ≤ 136) (w : World) :
    Calls Try.prog 103 #[.int .u64 (m : Int), .int .i64 (p : Int)] w (WidePost w (m * 65536 ^ p)) := by
  have HB := Lib.hid (two_new w)
  go_enter Try.func103, Try.ntmps103
  go_upto_region 2 with fail
  generalize hW : (w.alloc _).alloc _ = w1
  obtain ⟨b1, b2, hf⟩ := HB.out w1 hW
  have hrel0 : DigW w w.heap.size m p 0 m w1 := ⟨zeroW, zeroW_len, Digs.zero _, b2, b1, fun j _ hl => by unfold zeroW; rw [List.getElem?_replicate, if_pos hl], by unfold zeroW; rw [toD_zero, Nat.zero_add, Nat.add_zero], hf⟩
  generalize hbb : w.heap.size = B at *
  have HREL := Lib.hid hrel0
  have HBW : Hid (w.heap.size ≤ B) := by rw [← hbb]; exact Nat.le_refl _
  clear hrel0 b1 b2 hf hW HB hbb
  go_wp2
  go_loopw [0, 6] (fun c i wr => ∃ k M : Nat, k ≤ 4 ∧ M < 65536 ^ (4 - k) ∧ c = .int .u64 (M : Int) ∧ i = .int .i64 (k : Int) ∧ DigW w B m p k M wr) (fun _ i _ => 4 - (intOf i).toNat)
  case atStart => exact ⟨0, m, by omega, hm, rfl, rfl, HREL.out⟩
  case round =>
    clear HREL
    obtain ⟨k, M, hk, hM, rfl, rfl, hr⟩ := hrel
    by_cases hlt : k < 4
    · have hMl : M < 18446744073709551616 := Nat.lt_of_lt_of_le hM (show 65536 ^ (4 - k) ≤ 65536 ^ 4 from Nat.pow_le_pow_right (by decide) (by omega))
      have hM2 : M / 65536 < 65536 ^ (4 - (k + 1)) := by
        rw [Nat.div_lt_iff_lt_mul (by decide), ← Nat.pow_succ, show (4 - (k + 1)).succ = 4 - k by omega]; exact hM
      have hnew := hr.step HBW.out (by omega)
      obtain ⟨ds, h1, h2, h3, h4, h5, h6, h7⟩ := hr
      have d3 := h3.cell (p + k) (dig_cell (h5 (p + k) (Nat.le_refl _) (by omega)))
      have d4 := h3.free (p + k)
      have e1 : (M : Int) % 65536 = ((M % 65536 : Nat) : Int) := by omega
      have e2 : (M : Int) / 65536 = ((M / 65536 : Nat) : Int) := by omega
      have hd : M % 65536 < 65536 := Nat.mod_lt _ (by decide)
      generalize M % 65536 = d at *
      generalize M / 65536 = M' at *
      have hk2 : (k : Int) < 4 := by omega
      have hpk : (p : Int) + k < 140 := by omega
      have hpk2 : p + k < 140 := by omega
      have HN := Lib.hid hnew
      have HM2 := Lib.hid hM2
      clear hnew h1 h2 h3 h4 h5 h6 h7 hM hM2
      go_wp2
      go_roundw
      case rel => exact ⟨k + 1, M', by omega, HM2.out, rfl, by go_num, HN.out⟩
      case measure => simp [intOf]; omega
    · obtain rfl : k = 4 := by omega
      obtain ⟨ds, h1, h2, h3, h4, h5, h6, h7⟩ := hr
      have HN : Hid (toD ds = m * 65536 ^ p) := by
        rw [Nat.sub_self, Nat.pow_zero] at hM
        obtain rfl : M = 0 := by omega
        rw [Nat.zero_mul, Nat.add_zero] at h6
        exact h6
      have HI := Lib.hid (info_digs ds h1)
      have HS := Lib.hid (show (digCells zeroW).toArray.size = (digCells ds).toArray.size by rw [digs_size ds h1, digs_size zeroW zeroW_len])
      have HO := Lib.hid (digs_one ds)
      have HB5 := Lib.hid h3
      have HB4 := Lib.hid h4
      have HF : Hid (Fr (fun _ => False) w (wr.setRow B (digCells ds).toArray)) := h7.setRow B (.inr HBW.out) _
      have HD : Hid (ds.length = 140 ∧ Digs ds) := ⟨h1, h2⟩
      clear h1 h2 h3 h4 h5 h6 h7 hlt hk hM
      go_wp2_with (first | refine wpList_load_row rfl 93 _ rfl (B + 1) rfl 93 (digCells ds).toArray (0, 0) _ HB5.out Try.underlying93 rfl HI.out ?_ | refine wpList_store_row rfl 93 _ _ rfl B (digCells ds).toArray rfl rfl 93 (digCells zeroW).toArray HB4.out HI.out HS.out HO.out ?_)
      refine bodyPost_ret (results_cell_row (by rfl) _ _ B 93 (digCells ds).toArray (0, 0) _ rfl (HB4.out.setRow (digCells ds)) Try.underlying93 rfl HI.out) rfl ?_
      exact ⟨ds, rfl, HD.out.1, HD.out.2, HN.out, HF.out⟩
end Go.Proofs.Ytmllbdiljjimmaa
