/- The walks of the reference's wide numbers: less, plus, minus. -/
import Derived.Test.YtmllbdiljjimmaaDigs
import Derived.Test.YtmllbdiljjimmaaRegion
import Derived.Laws.Rows
import Derived.Deep.DeepCutAuto
import Derived.Deep.MidRow
import Derived.IntWalk
namespace Go.Proofs.Ytmllbdiljjimmaa
open Go.RowKit

def digCells (ds : List Nat) : List Value := ds.map (fun n : Nat => Value.int .i64 (n : Int))
/-- The digits as one value. -/
def digsV (ds : List Nat) : Value := .agg (digCells ds).toArray
theorem dig_cell {ds : List Nat} {i x : Nat} (h : ds[i]? = some x) : (digCells ds)[i]? = some (.int .i64 (x : Int)) := by
  unfold digCells; rw [List.getElem?_map, h]; rfl
theorem digCells_set (ds : List Nat) (i y : Nat) : (digCells ds).set i (.int .i64 (y : Int)) = digCells (ds.set i y) := by
  unfold digCells; rw [List.map_set]
theorem digs_size (ds : List Nat) (hn : ds.length = 140) : (digCells ds).toArray.size = 140 := by unfold digCells; simp [hn]
theorem digs_one (ds : List Nat) : (digCells ds).toArray.all (·.oneCell') = true := Go.all_oneCell_toArray (fun v hv => by
  unfold digCells at hv; obtain ⟨x, _, rfl⟩ := List.mem_map.1 hv; rfl)
theorem info_wide : (Try.prog.info? 93).map (·.size) = some 140 := by kernel_rfl
theorem info_digs (ds : List Nat) (hn : ds.length = 140) : (Try.prog.info? 93).map (·.size) = some (digCells ds).toArray.size := by rw [digs_size ds hn]; exact info_wide
def zeroW : List Nat := List.replicate 140 0
theorem zeroW_len : zeroW.length = 140 := List.length_replicate

abbrev WB (w : World) (b : Nat) (ds : List Nat) : Prop := Blk w b (digCells ds) 93

def BoolPost (w : World) (v : Bool) (e : Ending) (w' : World) : Prop := e = .returned (.bool v) ∧ Fr (fun _ => False) w w'
theorem Fr.then {w0 w1 w2 : World} (h1 : Fr (fun _ => False) w0 w1) (h2 : Fr (fun _ => False) w1 w2) : Fr (fun _ => False) w0 w2 := h1.trans h2 (fun _ h => h.elim)

/-- Two wide numbers by value, boxed. -/
theorem two_boxes (w : World) (xs ys : List Nat) : WB ((w.alloc (.cells (digCells xs).toArray 93)).alloc (.cells (digCells ys).toArray 93)) w.heap.size xs ∧
    WB ((w.alloc (.cells (digCells xs).toArray 93)).alloc (.cells (digCells ys).toArray 93)) (w.heap.size + 1) ys ∧ Fr (fun _ => False) w ((w.alloc (.cells (digCells xs).toArray 93)).alloc (.cells (digCells ys).toArray 93)) := by
  refine ⟨Blk.alloc (Blk.new w (digCells xs) 93) _, ?_, ((Fr.refl _ w).alloc _).alloc _⟩
  have := Blk.new (w.alloc (.cells (digCells xs).toArray 93)) (digCells ys) 93
  rwa [World.size_alloc] at this

/-- Where a comparison stands. -/
def LessRel (w : World) (g1 g2 : Nat) (xs ys : List Nat) (k : Nat) (wr : World) : Prop := SameFrom xs ys k ∧ WB wr g1 xs ∧ WB wr g2 ys ∧ Fr (fun _ => False) w wr

set_option maxRecDepth 100000 in
set_option maxHeartbeats 800000 in
theorem less_any (xs ys : List Nat) (hx : xs.length = 140) (hy : ys.length = 140) (hX : Digs xs) (hY : Digs ys) (w : World) :
    Calls Try.prog 65 #[digsV xs, digsV ys] w (BoolPost w (decide (toD xs < toD ys))) := by
  unfold digsV
  obtain ⟨hb1, hb2, hf⟩ := two_boxes w xs ys
  generalize hca : (digCells xs).toArray = ca at *
  generalize hcb : (digCells ys).toArray = cb at *
  generalize hw1 : (w.alloc (.cells ca 93)).alloc (.cells cb 93) = w1 at *
  have HB1 := Lib.hid hb1
  have HB2 := Lib.hid hb2
  have HF := Lib.hid hf
  clear hb1 hb2 hf hca hcb
  go_enter Try.func65, Try.ntmps65
  go_wp2
  go_loopw [5] (fun i wr => ∃ k : Nat, k ≤ 140 ∧ i = .int .i64 ((k : Int) - 1) ∧ LessRel w w.heap.size (w.heap.size + 1) xs ys k wr) (fun i _ => (intOf i + 1).toNat)
  case atStart => exact ⟨140, Nat.le_refl _, rfl, fun j hj => by rw [List.getElem?_eq_none (by omega), List.getElem?_eq_none (by omega)], HB1.out, HB2.out, HF.out⟩
  case round =>
    clear HB1 HB2 HF
    obtain ⟨k, hk, rfl, hs, hb1, hb2, hf⟩ := hrel
    rcases Nat.eq_zero_or_pos k with rfl | hk0
    · have hfin : BoolPost w (decide (toD xs < toD ys)) (.returned (.bool false)) wr := ⟨by rw [less_none hs], hf⟩
      have HFin := Lib.hid hfin
      clear hfin hs hb1 hb2 hf hw1
      go_wp2
      go_ret
      exact HFin.out
    · obtain ⟨j, rfl⟩ : ∃ j, k = j + 1 := ⟨k - 1, by omega⟩
      rw [show ((j + 1 : Nat) : Int) - 1 = (j : Int) by omega]
      obtain ⟨x, hxj⟩ : ∃ x, xs[j]? = some x := ⟨xs[j]'(by omega), by simp⟩
      obtain ⟨y, hyj⟩ : ∃ y, ys[j]? = some y := ⟨ys[j]'(by omega), by simp⟩
      have c1 := hb1.cell j (dig_cell hxj)
      have c2 := hb2.cell j (dig_cell hyj)
      have hj : (j : Int) < 140 := by omega
      by_cases hxy : x = y
      · have hnew : ∀ n, LessRel w w.heap.size (w.heap.size + 1) xs ys j (wr.drewN n) := fun n => ⟨fun i hi => by
          rcases Nat.eq_or_lt_of_le hi with rfl | hi
          · rw [hxj, hyj, hxy]
          · exact hs i hi, hb1.drewN n, hb2.drewN n, hf.drewN n⟩
        have HN := Lib.hid hnew
        subst hxy
        clear hnew hs hb1 hb2 hf hw1 hxj hyj
        go_wp2
        go_quiet (fail)
        go_wp2
        go_roundw
        case rel => exact ⟨j, by omega, by go_num, HN.out _⟩
        case measure => simp [intOf]
      · have hl := less_at hX hY hs hxj hyj hxy
        have hfin : ∀ n m, BoolPost w (decide (toD xs < toD ys)) (.returned (.bool (decide (x < y)))) ((wr.drewN n).drewN m) := fun n m => ⟨by rw [hl], (hf.drewN n).drewN m⟩
        have HFin := Lib.hid hfin
        have hne : ((x : Int) != y) = true := by rw [bne_iff_ne]; omega
        clear hfin hs hb1 hb2 hf hw1 hxj hyj hl hxy
        go_wp2
        go_quiet (fail)
        go_wp2
        go_quiet (fail)
        go_wp2
        go_ret
        exact HFin.out _ _
end Go.Proofs.Ytmllbdiljjimmaa
