/- The walks of the references: the whole of a row of floats. -/
import Derived.Test.YtmllbdiljjimmaaParts2
namespace Go.Proofs.Ytmllbdiljjimmaa
open Go.RowKit

/-- The document's whole: its bits. -/
noncomputable def Pt.whole (p : Pt) : Nat :=
  if (p.nan || (p.up && p.down)) = true then 9221120237041090560 else if p.up = true then 9218868437227405312 else if p.down = true then 18442240474082181120 else if p.all = true then 9223372036854775808
  else if p.a < p.b then rnd (p.b - p.a) + 9223372036854775808 else rnd (p.a - p.b)

/-- Two wide numbers that are stored into new blocks. -/
theorem two_stored (a b : Nat) : ∃ (ca cb : Array Value), wideV a = .agg ca ∧ wideV b = .agg cb ∧ (∀ w b', WB w b' (digN 140 a) → w.heap[b']? = some (.cells ca 93 (0, 0))) ∧ (∀ w b', WB w b' (digN 140 b) → w.heap[b']? = some (.cells cb 93 (0, 0))) ∧
    (Try.prog.info? 93).map (·.size) = some ca.size ∧ (Try.prog.info? 93).map (·.size) = some cb.size ∧ (digCells zeroW).toArray.size = ca.size ∧ (digCells zeroW).toArray.size = cb.size ∧ ca.all (·.oneCell') = true ∧ cb.all (·.oneCell') = true ∧
    (∀ w w1, (w.alloc (.cells Try.zeroCells93 93)).alloc (.cells Try.zeroCells93 93) = w1 → w1.heap[w.heap.size]? = some (.cells (digCells zeroW).toArray 93 (0, 0)) ∧ (w1.setRow w.heap.size ca).heap[w.heap.size + 1]? = some (.cells (digCells zeroW).toArray 93 (0, 0)) ∧
      WB ((w1.setRow w.heap.size ca).setRow (w.heap.size + 1) cb) w.heap.size (digN 140 a) ∧ WB ((w1.setRow w.heap.size ca).setRow (w.heap.size + 1) cb) (w.heap.size + 1) (digN 140 b) ∧ Fr (fun _ => False) w ((w1.setRow w.heap.size ca).setRow (w.heap.size + 1) cb)) := by
  refine ⟨(digCells (digN 140 a)).toArray, (digCells (digN 140 b)).toArray, rfl, rfl, fun _ _ h => h, fun _ _ h => h, info_digs _ (digN_len _ _), info_digs _ (digN_len _ _), ?_, ?_, digs_one _, digs_one _, ?_⟩
  · rw [digs_size _ (digN_len _ _), digs_size zeroW zeroW_len]
  · rw [digs_size _ (digN_len _ _), digs_size zeroW zeroW_len]
  · intro w w1 h
    obtain ⟨h1, h2, h3⟩ := two_new w w1 h
    refine ⟨h1, h2.setRowOther w.heap.size _ (by omega), ?_, ?_, ?_⟩
    · exact (Blk.setRow (c := digCells zeroW) h1 (digCells (digN 140 a))).setRowOther (w.heap.size + 1) _ (by omega)
    · exact Blk.setRow (c := digCells zeroW) (h2.setRowOther w.heap.size _ (by omega)) (digCells (digN 140 b))
    · exact (h3.setRow w.heap.size (.inr (Nat.le_refl _)) _).setRow (w.heap.size + 1) (.inr (by omega)) _

set_option maxRecDepth 100000 in
set_option maxHeartbeats 3200000 in
theorem rwhole_any (q : Option Addr) (len cap : Nat) (fs : List Nat) (w : World) (h : Words w q len fs) (hlen : len ≤ 1000000) :
    Calls Try.prog 23 #[.slice q len cap] w (NatPost w (Pt.of fs).whole) := by
  have hp := parts_any q len cap fs w h hlen
  have hlt : (Pt.of fs).a < wTop ∧ (Pt.of fs).b < wTop := by rw [← Pt.upto_all]; exact upto_lt fs _ (by have := h.len; omega)
  clear h
  generalize Pt.of fs = p at *
  obtain ⟨pa, pb, pn, pu, pd, pl⟩ := p
  obtain ⟨ca, cb, e1, e2, hR1, hR2, hI1, hI2, hS1, hS2, hO1, hO2, hN⟩ := two_stored pa pb
  unfold PartsPost at hp
  dsimp only at hp hlt
  rw [e1, e2] at hp
  have hl1 := less_fix pa pb hlt.1 hlt.2
  have hm1 : pa < pb → ∀ w, Calls Try.prog 67 #[wideV pb, wideV pa] w (WPost w (pb - pa)) := fun h => minus_fix pb pa hlt.2 hlt.1 (by omega)
  have hm2 : ¬ pa < pb → ∀ w, Calls Try.prog 67 #[wideV pa, wideV pb] w (WPost w (pa - pb)) := fun h => minus_fix pa pb hlt.1 hlt.2 (by omega)
  have hn1 := near_any (pb - pa) (by omega)
  have hn2 := near_any (pa - pb) (by omega)
  have hr1 := rnd_le (pb - pa)
  unfold WPost at hm1 hm2
  rw [e1, e2] at hl1 hm1 hm2
  generalize wideV (pb - pa) = z1 at *
  generalize wideV (pa - pb) = z2 at *
  obtain ⟨pq, hpq⟩ : ∃ pq, pq = (pn || (pu && pd)) := ⟨_, rfl⟩
  rw [← hpq] at hp
  have hwh : (Pt.mk pa pb pn pu pd pl).whole = if pq = true then 9221120237041090560 else if pu = true then 9218868437227405312 else if pd = true then 18442240474082181120 else if pl = true then 9223372036854775808
    else if pa < pb then rnd (pb - pa) + 9223372036854775808 else rnd (pa - pb) := by unfold Pt.whole; rw [hpq]
  generalize (Pt.mk pa pb pn pu pd pl).whole = V at *
  generalize rnd (pb - pa) = R1 at *
  generalize rnd (pa - pb) = R2 at *
  have HP := Lib.hid hp
  have HV := Lib.hid hwh
  have HL := Lib.hid hl1
  have HM1 := Lib.hid hm1
  have HM2 := Lib.hid hm2
  have HN1 := Lib.hid hn1
  have HN2 := Lib.hid hn2
  have HI1 := Lib.hid hI1
  have HI2 := Lib.hid hI2
  have HS1 := Lib.hid hS1
  have HS2 := Lib.hid hS2
  have HO1 := Lib.hid hO1
  have HO2 := Lib.hid hO2
  have HNW := Lib.hid hN
  have HR1 := Lib.hid hR1
  have HR2 := Lib.hid hR2
  have HRL := Lib.hid hr1
  clear hp hwh hl1 hm1 hm2 hn1 hn2 hI1 hI2 hS1 hS2 hO1 hO2 hN hR1 hR2 hpq e1 e2 hlt hlen hr1
  go_enter Try.func23, Try.ntmps23
  go_wp2_with fail
  refine (HP.out).mono ?_
  rintro e w1 ⟨rfl, hf1⟩
  obtain ⟨k1, k2, k3, k4, k5⟩ := HNW.out w1 _ rfl
  have HF := Lib.hid (hf1.then k5)
  have HK1 := Lib.hid k1
  have HK2 := Lib.hid k2
  have HK3 := Lib.hid (HR1.out _ _ k3)
  have HK4 := Lib.hid (HR2.out _ _ k4)
  clear k1 k2 k3 k4 k5 HR1 HR2 HNW hf1
  generalize hg : w1.heap.size = g at *
  generalize hw2 : (w1.alloc _).alloc _ = w2 at *
  go_upto_region 2 with (first | refine wpList_store_row rfl 93 _ _ rfl g ca rfl rfl 93 (digCells zeroW).toArray HK1.out HI1.out HS1.out HO1.out ?_ | refine wpList_store_row rfl 93 _ _ rfl (g + 1) cb rfl rfl 93 (digCells zeroW).toArray HK2.out HI2.out HS2.out HO2.out ?_)
  clear hg hw2
  generalize (w2.setRow g ca).setRow (g + 1) cb = w3 at *
  clear HK1 HK2 HS1 HS2 HO1 HO2 HP
  cases pq with
  | true =>
    obtain rfl : V = 9221120237041090560 := by rw [HV.out, if_pos rfl]
    clear HV
    go_wp2_with fail
    go_ret
    exact ⟨rfl, HF.out⟩
  | false =>
  cases pu with
  | true =>
    obtain rfl : V = 9218868437227405312 := by rw [HV.out, if_neg Bool.false_ne_true, if_pos rfl]
    clear HV
    go_wp2_with fail
    go_ret
    exact ⟨rfl, HF.out⟩
  | false =>
  cases pd with
  | true =>
    obtain rfl : V = 18442240474082181120 := by rw [HV.out, if_neg Bool.false_ne_true, if_neg Bool.false_ne_true, if_pos rfl]
    clear HV
    go_wp2_with fail
    go_ret
    exact ⟨rfl, HF.out⟩
  | false =>
  cases pl with
  | true =>
    obtain rfl : V = 9223372036854775808 := by rw [HV.out, if_neg Bool.false_ne_true, if_neg Bool.false_ne_true, if_neg Bool.false_ne_true, if_pos rfl]
    clear HV
    go_wp2_with fail
    go_ret
    exact ⟨rfl, HF.out⟩
  | false =>
  have hv2 := HV.out
  rw [if_neg Bool.false_ne_true, if_neg Bool.false_ne_true, if_neg Bool.false_ne_true, if_neg Bool.false_ne_true] at hv2
  have HV2 := Lib.hid hv2
  clear hv2 HV
  go_wp2_with (first | refine wpList_load_row rfl 93 _ rfl g rfl 93 ca (0, 0) _ HK3.out Try.underlying93 rfl HI1.out ?_ | refine wpList_load_row rfl 93 _ rfl (g + 1) rfl 93 cb (0, 0) _ HK4.out Try.underlying93 rfl HI2.out ?_)
  refine (HL.out w3).mono ?_
  rintro e w4 ⟨rfl, hf4⟩
  have HK5 : Hid (w4.heap[g]? = some (.cells ca 93 (0, 0))) := hf4.heap HK3.out (fun h => h)
  have HK6 : Hid (w4.heap[g + 1]? = some (.cells cb 93 (0, 0))) := hf4.heap HK4.out (fun h => h)
  have HF4 := Lib.hid (HF.out.then hf4)
  clear hf4 HF HK3 HK4 HL
  by_cases hlt : pa < pb
  · have hd : decide (pa < pb) = true := by simpa using hlt
    rw [hd]
    have hm := HM1.out hlt
    obtain rfl : V = R1 + 9223372036854775808 := by rw [HV2.out, if_pos hlt]
    have hwr : IntKind.u64.wrap ((R1 : Int) + 9223372036854775808) = (R1 : Int) + 9223372036854775808 := by have := HRL.out; rw [IntKind.wrap_u64]; omega
    have HM := Lib.hid hm
    have hfin : ∀ w5, Fr (fun _ => False) w w5 → NatPost w (R1 + 9223372036854775808) (.returned (.int .u64 ((R1 : Int) + 9223372036854775808))) w5 := fun w5 h => ⟨by rw [Int.natCast_add]; rfl, h⟩
    have HFIN := Lib.hid hfin
    clear hm hlt hd HV2 HM1 HM2 HRL hfin
    go_wp2_with (first | refine wpList_load_row rfl 93 _ rfl g rfl 93 ca (0, 0) _ HK5.out Try.underlying93 rfl HI1.out ?_ | refine wpList_load_row rfl 93 _ rfl (g + 1) rfl 93 cb (0, 0) _ HK6.out Try.underlying93 rfl HI2.out ?_)
    refine (HM.out w4).mono ?_
    rintro e w5 ⟨rfl, hf5⟩
    have HF5 := Lib.hid (HF4.out.then hf5)
    clear hf5
    go_wp2_with fail
    refine (HN1.out w5).mono ?_
    rintro e w6 ⟨rfl, hf6⟩
    have HF6 := Lib.hid (HF5.out.then hf6)
    clear hf6
    go_wp2_with fail
    go_ret
    exact HFIN.out _ HF6.out
  · have hd : decide (pa < pb) = false := by simpa using hlt
    rw [hd]
    have hm := HM2.out hlt
    obtain rfl : V = R2 := by rw [HV2.out, if_neg hlt]
    have HM := Lib.hid hm
    clear hm hlt hd HV2 HM1 HM2 HRL
    go_wp2_with (first | refine wpList_load_row rfl 93 _ rfl g rfl 93 ca (0, 0) _ HK5.out Try.underlying93 rfl HI1.out ?_ | refine wpList_load_row rfl 93 _ rfl (g + 1) rfl 93 cb (0, 0) _ HK6.out Try.underlying93 rfl HI2.out ?_)
    refine (HM.out w4).mono ?_
    rintro e w5 ⟨rfl, hf5⟩
    have HF5 := Lib.hid (HF4.out.then hf5)
    clear hf5
    go_wp2_with fail
    refine (HN2.out w5).mono ?_
    rintro e w6 ⟨rfl, hf6⟩
    have HF6 := Lib.hid (HF5.out.then hf6)
    clear hf6
    go_wp2_with fail
    go_ret
    exact ⟨rfl, HF6.out⟩
end Go.Proofs.Ytmllbdiljjimmaa
