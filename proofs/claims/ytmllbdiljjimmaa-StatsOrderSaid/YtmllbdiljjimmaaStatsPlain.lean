/- The walks of package stats: ranks, what is told of a row. -/
import Derived.Test.YtmllbdiljjimmaaStatsRow
namespace Go.Proofs.Ytmllbdiljjimmaa
open Go.RowKit

def IntP (w : World) (v : Nat) (e : Ending) (w' : World) : Prop := e = .returned (.int .i64 (v : Int)) ∧ Fr (fun _ => False) w w'
theorem getD_at {fs : List Nat} {i : Nat} (h : i < fs.length) : fs.getD i 0 = fs[i] := by simp [List.getD, h]

set_option maxRecDepth 100000 in
set_option maxHeartbeats 1600000 in
theorem upto_any {W w : World} {b : Nat} {v : Value} {fs : List Nat} (h : RowB W w b v fs) (hs : SortF fs) (hl : fs.length ≤ 100000) (f : Nat) (hf : f < 18446744073709551616) :
    Calls Try.prog 88 #[.pointer (some ⟨b, 0, none⟩), .float .f64 f] w (IntP w (rankU fs f)) := by
  have hw1 : Fr (fun _ => False) w ((w.alloc (.cells #[.pointer (some ⟨b, 0, none⟩)] 67)).alloc (.cells #[.float .f64 f] 26)) := ((Fr.refl _ w).alloc _).alloc _
  have hb1 : Blk ((w.alloc (.cells #[.pointer (some ⟨b, 0, none⟩)] 67)).alloc (.cells #[.float .f64 f] 26)) w.heap.size [.pointer (some ⟨b, 0, none⟩)] 67 := (Blk.new w [.pointer (some ⟨b, 0, none⟩)] 67).alloc _
  have hb2 : Blk ((w.alloc (.cells #[.pointer (some ⟨b, 0, none⟩)] 67)).alloc (.cells #[.float .f64 f] 26)) (w.heap.size + 1) [.float .f64 f] 26 := by
    simpa using Blk.new (w.alloc (.cells #[.pointer (some ⟨b, 0, none⟩)] 67)) [.float .f64 f] 26
  obtain ⟨q, qc, hv⟩ := h.row
  go_enter Try.func88, Try.ntmps88
  go_upto_region 1 with fail
  generalize hw : (w.alloc (.cells #[.pointer (some ⟨b, 0, none⟩)] 67)).alloc (.cells #[.float .f64 f] 26) = w1 at *
  have hr1 := h.keep hw1
  have c0 := hb1.cell 0 rfl
  have c1 := hr1.1.cell 0 rfl
  have hsr := search_up fs.length hl (w.heap.size + 1) w.heap.size (fun i => aheadF f (fs.getD i 0)) (fun i j hij hj hp => by
    rw [getD_at (by omega)] at hp
    rw [getD_at hj]
    have := sort_at hs hj hij
    unfold aheadF at *
    rw [decide_eq_true_eq] at *
    omega) w1 (fun i hi w' hf' => by
    have := upcl_any (hr1.keep hf') (w.heap.size + 1) w.heap.size f hf (hb2.frame hf' (fun h => h)) (hb1.frame hf' (fun h => h)) i hi hl
    rw [getD_at hi]
    exact this)
  have HSR := Lib.hid hsr
  have HW1 := Lib.hid hw1
  have hli : (fs.length : Int) ≤ 100000 := by omega
  rw [hv] at c1
  clear hsr hw1 hb1 hb2 hr1 h hw hv
  generalize w.heap.size = c at *
  go_wp2_with fail
  refine (HSR.out).mono ?_
  rintro e w2 ⟨k, rfl, hk, h1, h2, hf2⟩
  have HEND : Hid (IntP w (rankU fs f) (.returned (.int .i64 (k : Int))) w2) := by
    have : rankU fs f = k := cnt_split hk (fun i hi hik => by have := h1 i hik; dsimp only at this; rw [getD_at hi] at this; rw [this]; rfl) (fun i hi hik => by have := h2 i hik hi; dsimp only at this; rw [getD_at hi] at this; rw [this]; rfl)
    exact ⟨by rw [this], HW1.out.trans hf2 (fun _ h => h.elim)⟩
  clear h1 h2 hf2
  go_wp2
  go_ret
  exact HEND.out

set_option maxRecDepth 100000 in
set_option maxHeartbeats 1600000 in
theorem ahead_any {W w : World} {b : Nat} {v : Value} {fs : List Nat} (h : RowB W w b v fs) (hs : SortF fs) (hl : fs.length ≤ 100000) (f : Nat) (hf : f < 18446744073709551616) :
    Calls Try.prog 87 #[.pointer (some ⟨b, 0, none⟩), .float .f64 f] w (IntP w (rankA fs f)) := by
  have hw1 : Fr (fun _ => False) w ((w.alloc (.cells #[.pointer (some ⟨b, 0, none⟩)] 67)).alloc (.cells #[.float .f64 f] 26)) := ((Fr.refl _ w).alloc _).alloc _
  have hb1 : Blk ((w.alloc (.cells #[.pointer (some ⟨b, 0, none⟩)] 67)).alloc (.cells #[.float .f64 f] 26)) w.heap.size [.pointer (some ⟨b, 0, none⟩)] 67 := (Blk.new w [.pointer (some ⟨b, 0, none⟩)] 67).alloc _
  have hb2 : Blk ((w.alloc (.cells #[.pointer (some ⟨b, 0, none⟩)] 67)).alloc (.cells #[.float .f64 f] 26)) (w.heap.size + 1) [.float .f64 f] 26 := by
    simpa using Blk.new (w.alloc (.cells #[.pointer (some ⟨b, 0, none⟩)] 67)) [.float .f64 f] 26
  obtain ⟨q, qc, hv⟩ := h.row
  go_enter Try.func87, Try.ntmps87
  go_upto_region 1 with fail
  generalize hw : (w.alloc (.cells #[.pointer (some ⟨b, 0, none⟩)] 67)).alloc (.cells #[.float .f64 f] 26) = w1 at *
  have hr1 := h.keep hw1
  have c0 := hb1.cell 0 rfl
  have c1 := hr1.1.cell 0 rfl
  have hsr := search_ah fs.length hl w.heap.size (w.heap.size + 1) (fun i => !aheadF (fs.getD i 0) f) (fun i j hij hj hp => by
    rw [getD_at (by omega)] at hp
    rw [getD_at hj]
    have := sort_at hs hj hij
    unfold aheadF at *
    rw [Bool.not_eq_true', decide_eq_false_iff_not] at *
    omega) w1 (fun i hi w' hf' => by
    have := ahcl_any (hr1.keep hf') (w.heap.size + 1) w.heap.size f hf (hb2.frame hf' (fun h => h)) (hb1.frame hf' (fun h => h)) i hi hl
    rw [getD_at hi]
    exact this)
  have HSR := Lib.hid hsr
  have HW1 := Lib.hid hw1
  have hli : (fs.length : Int) ≤ 100000 := by omega
  rw [hv] at c1
  clear hsr hw1 hb1 hb2 hr1 h hw hv
  generalize w.heap.size = c at *
  go_wp2_with fail
  refine (HSR.out).mono ?_
  rintro e w2 ⟨k, rfl, hk, h1, h2, hf2⟩
  have HEND : Hid (IntP w (rankA fs f) (.returned (.int .i64 (k : Int))) w2) := by
    have : rankA fs f = k := cnt_split hk (fun i hi hik => by have := h1 i hik; dsimp only at this; rw [getD_at hi] at this; simpa using this) (fun i hi hik => by have := h2 i hik hi; dsimp only at this; rw [getD_at hi] at this; simpa using this)
    exact ⟨by rw [this], HW1.out.trans hf2 (fun _ h => h.elim)⟩
  clear h1 h2 hf2
  go_wp2
  go_ret
  exact HEND.out

/-! ### What is told of a row -/
set_option maxRecDepth 100000 in
set_option maxHeartbeats 400000 in
theorem rlen_any {W w : World} {b : Nat} {v : Value} {fs : List Nat} (h : RowB W w b v fs) : Calls Try.prog 51 #[.pointer (some ⟨b, 0, none⟩)] w (OneInt2 w fs.length) := by
  obtain ⟨q, qc, rfl⟩ := h.row
  have c := h.1.cell 0 rfl
  clear h
  go_enter Try.func51, Try.ntmps51
  go_wp2
  go_ret
  exact ⟨rfl, rfl⟩
set_option maxRecDepth 100000 in
theorem rlen_nil (w : World) : Calls Try.prog 51 #[.pointer none] w (OneInt2 w 0) := by
  go_enter Try.func51, Try.ntmps51
  go_wp2
  go_ret
  exact ⟨rfl, rfl⟩
def OneVal (w : World) (v : Value) (e : Ending) (w' : World) : Prop := e = .returned v ∧ w = w'
set_option maxRecDepth 100000 in
set_option maxHeartbeats 400000 in
theorem all_any {W w : World} {b : Nat} {v : Value} {fs : List Nat} (h : RowB W w b v fs) : Calls Try.prog 86 #[.pointer (some ⟨b, 0, none⟩)] w (OneVal w v) := by
  have c := h.1.cell 0 rfl
  obtain ⟨q, qc, rfl⟩ := h.row
  clear h
  go_enter Try.func86, Try.ntmps86
  go_wp2
  go_ret
  exact ⟨rfl, rfl⟩
set_option maxRecDepth 100000 in
theorem all_nil (w : World) : Calls Try.prog 86 #[.pointer none] w (OneVal w (.slice none 0 0)) := by
  go_enter Try.func86, Try.ntmps86
  go_wp2
  go_ret
  exact ⟨rfl, rfl⟩

theorem mean_nil : meanF [] = 9221120237041090560 := by
  unfold meanF
  rw [(show (Got.of []).whole = 0 from ex_none)]
  decide +kernel
set_option maxRecDepth 100000 in
set_option maxHeartbeats 800000 in
theorem rsum_of (r v : Value) (p : Option Addr) (n c : Nat) (fs : List Nat) (w : World) (ha : Calls Try.prog 86 #[r] w (OneVal w v)) (hv : v = .slice p n c) (hf : Flts w p n fs) (hl : n ≤ 100000) :
    Calls Try.prog 46 #[r] w (FPost w (Got.of fs).whole) := by
  subst hv
  have HA := Lib.hid ha
  have HO := Lib.hid (ofs_any p n c fs w hf (by omega))
  generalize (Got.of fs).whole = V at *
  clear ha hf
  go_enter Try.func46, Try.ntmps46
  go_wp2_with fail
  refine (HA.out).mono ?_
  rintro e w' ⟨rfl, rfl⟩
  go_wp2_with fail
  refine (HO.out).mono ?_
  rintro e w1 ⟨rfl, hf1⟩
  have HF := Lib.hid hf1
  clear hf1
  go_wp2
  go_ret
  exact ⟨rfl, HF.out⟩
theorem mean0_any (p : Option Addr) (c : Nat) (w : World) : Calls Try.prog 28 #[.slice p 0 c] w (FPost w 9221120237041090560) := by
  have HOF := Lib.hid (of_any 9221120237041090560 w)
  go_enter Try.func28, Try.ntmps28
  go_wp2_with fail
  refine (HOF.out).mono ?_
  rintro e w' ⟨rfl, rfl⟩
  go_wp2
  go_ret
  exact ⟨rfl, Fr.refl _ _⟩
set_option maxRecDepth 100000 in
set_option maxHeartbeats 800000 in
theorem rmean_of (r v : Value) (p : Option Addr) (n c : Nat) (fs : List Nat) (w : World) (ha : Calls Try.prog 86 #[r] w (OneVal w v)) (hv : v = .slice p n c) (hf : Flts w p n fs) (hl : n ≤ 100000) :
    Calls Try.prog 47 #[r] w (FPost w (meanF fs)) := by
  subst hv
  have HA := Lib.hid ha
  have HO : Hid (Calls Try.prog 28 #[.slice p n c] w (FPost w (meanF fs))) := by
    rcases Nat.eq_zero_or_pos n with h0 | h0
    · subst h0
      rw [List.eq_nil_of_length_eq_zero hf.1, mean_nil]
      exact mean0_any p c w
    · exact mean_any p n c fs w hf h0 (by omega)
  generalize meanF fs = V at *
  clear ha hf
  go_enter Try.func47, Try.ntmps47
  go_wp2_with fail
  refine (HA.out).mono ?_
  rintro e w' ⟨rfl, rfl⟩
  go_wp2_with fail
  refine (HO.out).mono ?_
  rintro e w1 ⟨rfl, hf1⟩
  have HF := Lib.hid hf1
  clear hf1
  go_wp2
  go_ret
  exact ⟨rfl, HF.out⟩
theorem rsum_any {W w : World} {b : Nat} {v : Value} {fs : List Nat} (h : RowB W w b v fs) (hl : fs.length ≤ 100000) : Calls Try.prog 46 #[.pointer (some ⟨b, 0, none⟩)] w (FPost w (Got.of fs).whole) := by
  obtain ⟨p, c, hv, hf, _⟩ := flts_of_row h.2.1
  exact rsum_of _ v p _ c fs w (all_any h) hv hf hl
theorem rmean_any {W w : World} {b : Nat} {v : Value} {fs : List Nat} (h : RowB W w b v fs) (hl : fs.length ≤ 100000) : Calls Try.prog 47 #[.pointer (some ⟨b, 0, none⟩)] w (FPost w (meanF fs)) := by
  obtain ⟨p, c, hv, hf, _⟩ := flts_of_row h.2.1
  exact rmean_of _ v p _ c fs w (all_any h) hv hf hl

/-- The float with its place, or none. -/
def pickV (fs : List Nat) (k : Int) : Value := if 0 ≤ k ∧ k < fs.length then .tuple #[.float .f64 (fs.getD k.toNat 0), .int .i64 0] else .tuple #[.float .f64 0, .int .i64 6]
set_option maxRecDepth 100000 in
set_option maxHeartbeats 800000 in
theorem rpick_any {W w : World} {b : Nat} {v : Value} {fs : List Nat} (h : RowB W w b v fs) (hl : fs.length ≤ 100000) (k : Int) :
    Calls Try.prog 49 #[.pointer (some ⟨b, 0, none⟩), .int .i64 k] w (OneVal w (pickV fs k)) := by
  have HL := Lib.hid (rlen_any h)
  have hi : (fs.length : Int) ≤ 100000 := by omega
  by_cases h0 : k < 0
  · rw [show pickV fs k = .tuple #[.float .f64 0, .int .i64 6] by unfold pickV; rw [if_neg (by omega)]]
    clear h
    go_enter Try.func49, Try.ntmps49
    go_wp2
    go_ret2
    exact ⟨rfl, rfl⟩
  · by_cases h1 : k < fs.length
    · obtain ⟨j, rfl⟩ : ∃ j : Nat, k = (j : Int) := ⟨k.toNat, by omega⟩
      have hj : j < fs.length := by omega
      rw [show pickV fs (j : Int) = .tuple #[.float .f64 fs[j], .int .i64 0] by unfold pickV; rw [if_pos (by omega), Int.toNat_natCast, getD_at hj]]
      obtain ⟨g, qc, rfl, hc, _⟩ := h.at hj
      have c0 := h.1.cell 0 rfl
      have d1 : decide ((fs.length : Int) ≤ (j : Int)) = false := by rw [decide_eq_false_iff_not]; omega
      have d2 : decide (fs.length ≤ j) = false := by rw [decide_eq_false_iff_not]; omega
      generalize fs[j] = x at *
      clear h h1
      go_enter Try.func49, Try.ntmps49
      go_wp2_with fail
      refine (HL.out).mono ?_
      rintro e w' ⟨rfl, rfl⟩
      go_wp2
      go_ret2
      exact ⟨rfl, rfl⟩
    · rw [show pickV fs k = .tuple #[.float .f64 0, .int .i64 6] by unfold pickV; rw [if_neg (by omega)]]
      have h2 : (fs.length : Int) ≤ k := by omega
      clear h h1
      go_enter Try.func49, Try.ntmps49
      go_wp2_with fail
      refine (HL.out).mono ?_
      rintro e w' ⟨rfl, rfl⟩
      go_wp2
      go_ret2
      exact ⟨rfl, rfl⟩
set_option maxRecDepth 100000 in
set_option maxHeartbeats 800000 in
theorem rpick_nil (k : Int) (w : World) : Calls Try.prog 49 #[.pointer none, .int .i64 k] w (OneVal w (.tuple #[.float .f64 0, .int .i64 6])) := by
  have HL := Lib.hid (rlen_nil w)
  by_cases h0 : k < 0
  · go_enter Try.func49, Try.ntmps49
    go_wp2
    go_ret2
    exact ⟨rfl, rfl⟩
  · have h1 : (0 : Int) ≤ k := by omega
    go_enter Try.func49, Try.ntmps49
    go_wp2_with fail
    refine (HL.out).mono ?_
    rintro e w' ⟨rfl, rfl⟩
    go_wp2
    go_ret2
    exact ⟨rfl, rfl⟩
set_option maxRecDepth 100000 in
set_option maxHeartbeats 800000 in
theorem rmid_nil (w : World) : Calls Try.prog 54 #[.pointer none] w (OneVal w (.tuple #[.float .f64 0, .int .i64 6])) := by
  have HL := Lib.hid (rlen_nil w)
  go_enter Try.func54, Try.ntmps54
  go_wp2_with fail
  refine (HL.out).mono ?_
  rintro e w' ⟨rfl, rfl⟩
  go_wp2
  go_ret2
  exact ⟨rfl, rfl⟩
set_option maxRecDepth 100000 in
set_option maxHeartbeats 800000 in
theorem rmid_any {W w : World} {b : Nat} {v : Value} {fs : List Nat} (h : RowB W w b v fs) (hl : fs.length ≤ 100000) :
    Calls Try.prog 54 #[.pointer (some ⟨b, 0, none⟩)] w (OneVal w (pickV fs (((fs.length - 1) / 2 : Nat) : Int))) := by
  have HL := Lib.hid (rlen_any h)
  have hi : (fs.length : Int) ≤ 100000 := by omega
  rcases Nat.eq_zero_or_pos fs.length with h0 | h0
  · rw [show pickV fs (((fs.length - 1) / 2 : Nat) : Int) = .tuple #[.float .f64 0, .int .i64 6] by unfold pickV; rw [if_neg (by omega)]]
    rw [h0] at HL
    clear h
    go_enter Try.func54, Try.ntmps54
    go_wp2_with fail
    refine (HL.out).mono ?_
    rintro e w' ⟨rfl, rfl⟩
    go_wp2
    go_ret2
    exact ⟨rfl, rfl⟩
  · have HP := Lib.hid (rpick_any h hl (((fs.length - 1) / 2 : Nat) : Int))
    have hpv : ∃ x, pickV fs (((fs.length - 1) / 2 : Nat) : Int) = .tuple #[.float .f64 x, .int .i64 0] := by unfold pickV; rw [if_pos (by omega)]; exact ⟨_, rfl⟩
    obtain ⟨x, hx⟩ := hpv
    rw [hx] at HP ⊢
    have e1 : ((fs.length : Int) - 1) / 2 = (((fs.length - 1) / 2 : Nat) : Int) := by omega
    have q0 : ((fs.length : Int) == 0) = false := by rw [beq_eq_false_iff_ne]; omega
    generalize (fs.length - 1) / 2 = m at *
    have hp1 : (1 : Int) ≤ (fs.length : Int) := by omega
    generalize fs.length = n at *
    clear h hx
    go_enter Try.func54, Try.ntmps54
    go_wp2_with fail
    refine (HL.out).mono ?_
    rintro e w' ⟨rfl, rfl⟩
    go_wp2_with fail
    refine (HL.out).mono ?_
    rintro e w' ⟨rfl, rfl⟩
    go_wp2_with fail
    refine (HP.out).mono ?_
    rintro e w' ⟨rfl, rfl⟩
    go_wp2
    go_ret2
    exact ⟨rfl, rfl⟩

def TwoP (w : World) (a c : Nat) (e : Ending) (w' : World) : Prop := e = .returned (.tuple #[.int .i64 (a : Int), .int .i64 (c : Int)]) ∧ Fr (fun _ => False) w w'
set_option maxRecDepth 100000 in
set_option maxHeartbeats 800000 in
theorem ranks_any {W w : World} {b : Nat} {v : Value} {fs : List Nat} (h : RowB W w b v fs) (hs : SortF fs) (hl : fs.length ≤ 100000) (f : Nat) (hf : f < 18446744073709551616) :
    Calls Try.prog 50 #[.pointer (some ⟨b, 0, none⟩), .float .f64 f] w (TwoP w (rankA fs f) (rankU fs f)) := by
  have HA := Lib.hid (ahead_any h hs hl f hf)
  have HU : Hid (∀ w', Fr (fun _ => False) w w' → Calls Try.prog 88 #[.pointer (some ⟨b, 0, none⟩), .float .f64 f] w' (IntP w' (rankU fs f))) := fun w' hf' => upto_any (h.keep hf') hs hl f hf
  generalize rankA fs f = x at *
  generalize rankU fs f = y at *
  clear h
  go_enter Try.func50, Try.ntmps50
  go_wp2_with fail
  refine (HA.out).mono ?_
  rintro e w1 ⟨rfl, hf1⟩
  have HF1 := Lib.hid hf1
  clear hf1
  go_wp2_with fail
  refine (HU.out w1 HF1.out).mono ?_
  rintro e w2 ⟨rfl, hf2⟩
  have HF2 := Lib.hid (HF1.out.then hf2)
  clear hf2
  go_wp2
  go_ret2
  exact ⟨rfl, HF2.out⟩
set_option maxRecDepth 100000 in
theorem ranks_nil (f : Nat) (w : World) : Calls Try.prog 50 #[.pointer none, .float .f64 f] w (TwoP w 0 0) := by
  go_enter Try.func50, Try.ntmps50
  go_wp2
  go_ret2
  exact ⟨rfl, Fr.refl _ _⟩
set_option maxRecDepth 100000 in
set_option maxHeartbeats 800000 in
theorem rbetw_of (r : Value) (lo up a1 u1 a2 u2 : Nat) (hu2 : u2 ≤ 100000) (ha1 : a1 ≤ 100000) (w : World) (h1 : Calls Try.prog 50 #[r, .float .f64 lo] w (TwoP w a1 u1)) (h2 : ∀ w', Fr (fun _ => False) w w' → Calls Try.prog 50 #[r, .float .f64 up] w' (TwoP w' a2 u2)) :
    Calls Try.prog 58 #[r, .float .f64 lo, .float .f64 up] w (IntP w (u2 - a1)) := by
  have H1 := Lib.hid h1
  have H2 := Lib.hid h2
  have hm : max ((u2 : Int) - (a1 : Int)) 0 = ((u2 - a1 : Nat) : Int) := by omega
  have hu : (u2 : Int) ≤ 100000 := by omega
  have ha : (a1 : Int) ≤ 100000 := by omega
  generalize u2 - a1 = R at *
  clear h1 h2
  go_enter Try.func58, Try.ntmps58
  go_wp2_with fail
  refine (H1.out).mono ?_
  rintro e w1 ⟨rfl, hf1⟩
  have HF1 := Lib.hid hf1
  clear hf1
  go_wp2_with fail
  refine (H2.out w1 HF1.out).mono ?_
  rintro e w2 ⟨rfl, hf2⟩
  have HF2 := Lib.hid (HF1.out.then hf2)
  clear hf2
  go_wp2
  go_ret
  exact ⟨rfl, HF2.out⟩
end Go.Proofs.Ytmllbdiljjimmaa

/- Plain laws on rows of floats in order. -/
namespace Go.Proofs.Ytmllbdiljjimmaa
open Go.RowKit

/-- A row with one more float, in its place. -/
def insF (fs : List Nat) (f : Nat) : List Nat := fs.take (rankU fs f) ++ f :: fs.drop (rankU fs f)
def isort (l : List Nat) : List Nat := l.foldl insF []
def Low (fs : List Nat) : Prop := ∀ f ∈ fs, f < 18446744073709551616

theorem mono_split (p : Nat → Bool) (n : Nat) (hm : ∀ i j, i ≤ j → j < n → p i = true → p j = true) : ∃ k, k ≤ n ∧ (∀ i, i < k → p i = false) ∧ ∀ i, k ≤ i → i < n → p i = true := by
  induction n with
  | zero => exact ⟨0, Nat.le_refl _, fun i h => absurd h (by omega), fun i _ h => absurd h (by omega)⟩
  | succ n ih =>
    obtain ⟨k, hk, h1, h2⟩ := ih (fun i j hij hj => hm i j hij (by omega))
    cases hp : p n with
    | true =>
      refine ⟨k, by omega, h1, fun i hki hi => ?_⟩
      by_cases e : i = n
      · rw [e]; exact hp
      · exact h2 i hki (by omega)
    | false =>
      refine ⟨n + 1, Nat.le_refl _, fun i hi => ?_, fun i h1 h2 => absurd h2 (by omega)⟩
      cases hq : p i with
      | false => rfl
      | true => rw [hm i n (by omega) (by omega) hq] at hp; cases hp

/-- In a row in order: which ones do not stand behind a float. -/
theorem rankU_split {fs : List Nat} (hs : SortF fs) (f : Nat) : rankU fs f ≤ fs.length ∧ (∀ i (h : i < fs.length), i < rankU fs f → keyN fs[i] ≤ keyN f) ∧ ∀ i (h : i < fs.length), rankU fs f ≤ i → keyN f < keyN fs[i] := by
  obtain ⟨k, hk, h1, h2⟩ := mono_split (fun i => aheadF f (fs.getD i 0)) fs.length (fun i j hij hj hp => by
    rw [getD_at (by omega)] at hp
    rw [getD_at hj]
    have := sort_at hs hj hij
    unfold aheadF at *
    rw [decide_eq_true_eq] at *
    omega)
  have e : rankU fs f = k := cnt_split hk (fun i hi hik => by have := h1 i hik; rw [getD_at hi] at this; rw [this]; rfl) (fun i hi hik => by have := h2 i hik hi; rw [getD_at hi] at this; rw [this]; rfl)
  rw [e]
  refine ⟨hk, fun i hi hik => ?_, fun i hi hik => ?_⟩
  · have := h1 i hik
    rw [getD_at hi] at this
    unfold aheadF at this
    rw [decide_eq_false_iff_not] at this
    omega
  · have := h2 i hik hi
    rw [getD_at hi] at this
    unfold aheadF at this
    rwa [decide_eq_true_eq] at this
/-- .. and which ones stand ahead of it. -/
theorem rankA_split {fs : List Nat} (hs : SortF fs) (f : Nat) : rankA fs f ≤ fs.length ∧ (∀ i (h : i < fs.length), i < rankA fs f → keyN fs[i] < keyN f) ∧ ∀ i (h : i < fs.length), rankA fs f ≤ i → keyN f ≤ keyN fs[i] := by
  obtain ⟨k, hk, h1, h2⟩ := mono_split (fun i => !aheadF (fs.getD i 0) f) fs.length (fun i j hij hj hp => by
    rw [getD_at (by omega)] at hp
    rw [getD_at hj]
    have := sort_at hs hj hij
    unfold aheadF at *
    rw [Bool.not_eq_true', decide_eq_false_iff_not] at *
    omega)
  have e : rankA fs f = k := cnt_split hk (fun i hi hik => by have := h1 i hik; rw [getD_at hi] at this; simpa using this) (fun i hi hik => by have := h2 i hik hi; rw [getD_at hi] at this; simpa using this)
  rw [e]
  refine ⟨hk, fun i hi hik => ?_, fun i hi hik => ?_⟩
  · have := h1 i hik
    rw [getD_at hi, Bool.not_eq_false'] at this
    unfold aheadF at this
    rwa [decide_eq_true_eq] at this
  · have := h2 i hik hi
    rw [getD_at hi, Bool.not_eq_true'] at this
    unfold aheadF at this
    rw [decide_eq_false_iff_not] at this
    omega

theorem ins_sort {fs : List Nat} (hs : SortF fs) (f : Nat) : SortF (insF fs f) := by
  obtain ⟨hk, h1, h2⟩ := rankU_split hs f
  unfold insF
  generalize rankU fs f = k at *
  unfold SortF at *
  rw [List.pairwise_append]
  refine ⟨hs.sublist (List.take_sublist _ _), ?_, ?_⟩
  · rw [List.pairwise_cons]
    refine ⟨fun y hy => ?_, hs.sublist (List.drop_sublist _ _)⟩
    obtain ⟨i, hi, rfl⟩ := List.getElem_of_mem hy
    rw [List.getElem_drop]
    rw [List.length_drop] at hi
    exact Nat.le_of_lt (h2 (k + i) (by omega) (by omega))
  · intro x hx y hy
    obtain ⟨i, hi, rfl⟩ := List.getElem_of_mem hx
    rw [List.getElem_take]
    rw [List.length_take] at hi
    have hxf := h1 i (by omega) (by omega)
    rcases List.mem_cons.1 hy with rfl | hy
    · exact hxf
    · obtain ⟨j, hj, rfl⟩ := List.getElem_of_mem hy
      rw [List.getElem_drop]
      rw [List.length_drop] at hj
      have := h2 (k + j) (by omega) (by omega)
      omega
theorem ins_perm (fs : List Nat) (f : Nat) : (insF fs f).Perm (f :: fs) := by
  unfold insF
  have h := List.perm_middle (a := f) (l₁ := fs.take (rankU fs f)) (l₂ := fs.drop (rankU fs f))
  rwa [List.take_append_drop] at h
theorem isort_snoc (l : List Nat) (x : Nat) : isort (l ++ [x]) = insF (isort l) x := by unfold isort; rw [List.foldl_append]; rfl
theorem fold_ins : ∀ (l fs : List Nat), SortF fs → SortF (l.foldl insF fs) ∧ (l.foldl insF fs).Perm (fs ++ l)
  | [], fs, h => ⟨h, by rw [List.append_nil]; exact List.Perm.refl _⟩
  | x :: l, fs, h => by
    obtain ⟨h1, h2⟩ := fold_ins l (insF fs x) (ins_sort h x)
    refine ⟨h1, h2.trans ?_⟩
    have h3 := (ins_perm fs x).append_right l
    refine h3.trans ?_
    have := List.perm_middle (a := x) (l₁ := fs) (l₂ := l)
    exact this.symm
theorem isort_sort (l : List Nat) : SortF (isort l) := (fold_ins l [] List.Pairwise.nil).1
theorem isort_perm (l : List Nat) : (isort l).Perm l := (fold_ins l [] List.Pairwise.nil).2
theorem isort_len (l : List Nat) : (isort l).length = l.length := (isort_perm l).length_eq
theorem isort_low {l : List Nat} (h : Low l) : Low (isort l) := fun f hf => h f ((isort_perm l).mem_iff.1 hf)
theorem isort_take {l : List Nat} {k x : Nat} (h : l[k]? = some x) : isort (l.take (k + 1)) = insF (isort (l.take k)) x := by
  rw [List.take_add_one, h, Option.toList_some, isort_snoc]

theorem key_inj2 {a b : Nat} (ha : a < 18446744073709551616) (hb : b < 18446744073709551616) (h : keyN a = keyN b) : a = b := by
  unfold keyN at h
  (repeat' split at h) <;> omega
theorem filter_le (l : List Nat) {p q : Nat → Bool} (h : ∀ x, p x = true → q x = true) : (l.filter p).length ≤ (l.filter q).length := by
  induction l with
  | nil => exact Nat.le_refl _
  | cons y l ih =>
    rw [List.filter_cons, List.filter_cons]
    cases h1 : p y
    · cases q y <;> simp <;> omega
    · rw [h y h1]; simp; omega
/-- Rows in order of the same floats are the same. -/
theorem sort_eq : ∀ (l m : List Nat), SortF l → SortF m → Low l → l.Perm m → l = m
  | [], m, _, _, _, h => by rw [List.nil_perm.1 h]
  | x :: l, [], _, _, _, h => by have := h.length_eq; simp at this
  | x :: l, y :: m, hl, hm, lo, h => by
    have hx : x ∈ y :: m := h.mem_iff.1 (by simp)
    have hy : y ∈ x :: l := h.mem_iff.2 (by simp)
    unfold SortF at hl hm
    rw [List.pairwise_cons] at hl hm
    have k1 : keyN x ≤ keyN y := by
      rcases List.mem_cons.1 hy with e | e
      · rw [e]; exact Nat.le_refl _
      · exact hl.1 y e
    have k2 : keyN y ≤ keyN x := by
      rcases List.mem_cons.1 hx with e | e
      · rw [e]; exact Nat.le_refl _
      · exact hm.1 x e
    have e : x = y := key_inj2 (lo x (by simp)) (lo y hy) (by omega)
    subst e
    rw [sort_eq l m hl.2 hm.2 (fun f hf => lo f (by simp [hf])) (List.perm_cons x |>.1 h)]
theorem isort_eq {l m : List Nat} (h : l.Perm m) (lo : Low l) : isort l = isort m :=
  sort_eq _ _ (isort_sort l) (isort_sort m) (isort_low lo) ((isort_perm l).trans (h.trans (isort_perm m).symm))

theorem cnt_two (l : List Nat) (lo : Low l) (x : Nat) (hx : x < 18446744073709551616) : cnt (fun y => !aheadF x y) l = cnt (fun y => aheadF y x) l + cnt (fun y => y == x) l := by
  induction l with
  | nil => rfl
  | cons y l ih =>
    have ih := ih (fun f hf => lo f (by simp [hf]))
    have hy := lo y (by simp)
    unfold cnt at *
    rw [List.filter_cons, List.filter_cons, List.filter_cons]
    have e : (!aheadF x y) = (aheadF y x || y == x) := by
      unfold aheadF
      rw [Bool.eq_iff_iff, Bool.not_eq_true', decide_eq_false_iff_not, Bool.or_eq_true, decide_eq_true_eq, beq_iff_eq]
      constructor
      · intro h
        rcases Nat.lt_or_ge (keyN y) (keyN x) with h1 | h1
        · exact .inl h1
        · exact .inr (key_inj2 hy hx (by omega))
      · rintro (h | h)
        · omega
        · rw [h]; omega
    have e2 : (aheadF y x && y == x) = false := by
      unfold aheadF
      rw [Bool.and_eq_false_iff]
      by_cases h : y = x
      · left; rw [h, decide_eq_false_iff_not]; omega
      · right; rw [beq_eq_false_iff_ne]; exact h
    rw [e]
    cases h1 : aheadF y x <;> cases h2 : (y == x)
    · simp; omega
    · simp; omega
    · simp; omega
    · rw [h1, h2] at e2; cases e2
theorem rank_two {fs : List Nat} (lo : Low fs) (x : Nat) (hx : x < 18446744073709551616) : rankU fs x = rankA fs x + cnt (fun y => y == x) fs := cnt_two fs lo x hx

/-- The place of a float in a row in order. -/
theorem place_iff {fs : List Nat} (hs : SortF fs) (lo : Low fs) {k : Nat} (hk : k < fs.length) {x : Nat} (hx : x < 18446744073709551616) : (rankA fs x ≤ k ∧ k < rankU fs x) ↔ fs[k] = x := by
  obtain ⟨_, a1, a2⟩ := rankA_split hs x
  obtain ⟨_, u1, u2⟩ := rankU_split hs x
  constructor
  · rintro ⟨h1, h2⟩
    have := a2 k hk h1
    have := u1 k hk h2
    exact key_inj2 (lo _ (List.getElem_mem hk)) hx (by omega)
  · intro e
    constructor
    · rcases Nat.lt_or_ge k (rankA fs x) with h | h
      · have := a1 k hk h; rw [e] at this; omega
      · exact h
    · rcases Nat.lt_or_ge k (rankU fs x) with h | h
      · exact h
      · have := u2 k hk h; rw [e] at this; omega
theorem pick_law {l : List Nat} (lo : Low l) (k : Int) : pickR l k = if 0 ≤ k ∧ k < l.length then some ((isort l).getD k.toNat 0) else none := by
  have hs := isort_sort l
  have hlo := isort_low lo
  have hp := isort_perm l
  have hq : ∀ x ∈ l, (decide ((cnt (fun y => aheadF y x) l : Int) ≤ k) && decide (k < (cnt (fun y => aheadF y x) l : Int) + (cnt (fun y => y == x) l : Int))) = true ↔ ∃ h : k.toNat < (isort l).length, 0 ≤ k ∧ (isort l)[k.toNat] = x := by
    intro x hx
    have e1 : cnt (fun y => aheadF y x) l = rankA (isort l) x := (cnt_perm _ hp).symm
    have e2 : cnt (fun y => y == x) l = cnt (fun y => y == x) (isort l) := (cnt_perm _ hp).symm
    have e3 := rank_two hlo x (lo x hx)
    have hU := (rankU_split hs x).1
    rw [e1, e2, Bool.and_eq_true, decide_eq_true_eq, decide_eq_true_eq]
    constructor
    · rintro ⟨h1, h2⟩
      have hk : k.toNat < (isort l).length := by omega
      exact ⟨hk, by omega, (place_iff hs hlo hk (lo x hx)).1 ⟨by omega, by omega⟩⟩
    · rintro ⟨hk, h0, e⟩
      have := (place_iff hs hlo hk (lo x hx)).2 e
      omega
  unfold pickR
  by_cases hk : 0 ≤ k ∧ k < l.length
  · rw [if_pos hk]
    have hkt : k.toNat < (isort l).length := by rw [isort_len]; omega
    have hmem : (isort l)[k.toNat] ∈ l := hp.mem_iff.1 (List.getElem_mem hkt)
    rw [getD_at hkt]
    cases hf : l.find? (fun x => decide ((cnt (fun y => aheadF y x) l : Int) ≤ k) && decide (k < (cnt (fun y => aheadF y x) l : Int) + (cnt (fun y => y == x) l : Int))) with
    | none =>
      have := List.find?_eq_none.1 hf _ hmem
      exact absurd ((hq _ hmem).2 ⟨hkt, hk.1, rfl⟩) this
    | some x =>
      have h1 := List.find?_some hf
      have h2 := List.mem_of_find?_eq_some hf
      obtain ⟨_, _, e⟩ := (hq x h2).1 h1
      rw [e]
  · rw [if_neg hk]
    rw [List.find?_eq_none]
    intro x hx h
    obtain ⟨h1, h2, _⟩ := (hq x hx).1 h
    rw [isort_len] at h1
    exact hk ⟨h2, by omega⟩

theorem betw_law (l : List Nat) (lo up : Nat) : cnt (fun y => !aheadF y lo && !aheadF up y) l = cnt (fun x => !aheadF up x) l - cnt (fun x => aheadF x lo) l := by
  rcases Nat.lt_or_ge (keyN up) (keyN lo) with h | h
  · have h1 : cnt (fun y => !aheadF y lo && !aheadF up y) l = 0 := by
      unfold cnt
      rw [List.length_eq_zero_iff, List.filter_eq_nil_iff]
      intro x _
      unfold aheadF
      rw [Bool.and_eq_true, Bool.not_eq_true', Bool.not_eq_true', decide_eq_false_iff_not, decide_eq_false_iff_not]
      omega
    have h2 : cnt (fun x => !aheadF up x) l ≤ cnt (fun x => aheadF x lo) l := by
      unfold cnt
      refine filter_le l ?_
      intro x hx
      unfold aheadF at *
      rw [Bool.not_eq_true', decide_eq_false_iff_not] at hx
      rw [decide_eq_true_eq]
      omega
    omega
  · have h1 : cnt (fun x => !aheadF up x) l = cnt (fun x => aheadF x lo) l + cnt (fun y => !aheadF y lo && !aheadF up y) l := by
      induction l with
      | nil => rfl
      | cons y l ih =>
        unfold cnt at *
        rw [List.filter_cons, List.filter_cons, List.filter_cons]
        have e : aheadF y lo = true → aheadF up y = false := by
          unfold aheadF
          rw [decide_eq_true_eq, decide_eq_false_iff_not]
          omega
        cases h1 : aheadF y lo
        · cases h2 : aheadF up y
          · simp; omega
          · simp; omega
        · rw [e h1]
          simp; omega
    omega
end Go.Proofs.Ytmllbdiljjimmaa
