/- The walks of package pacer. -/
import Derived.Test.YtmllbdiljjimmaaKey
namespace Go.Proofs.Ytmllbdiljjimmaa
open Go.RowKit

/-! ### Numbers as floats -/
theorem floatOf_eq (n : Int) (k : Nat) (hk : k = 1074) : floatOfInt .f64 n = packF (decide (n < 0)) (n.natAbs * 2 ^ k) := by
  have h := nearest_rnd (decide (n < 0)) n.natAbs k
  rw [show (-1074 + (k : Int)) = 0 by omega] at h
  exact h
theorem floatOf_lt (n : Int) : floatOfInt .f64 n < 18446744073709551616 := by
  rw [floatOf_eq n _ rfl]; exact (pack_lt _ _).1
theorem floatOf_num (n : Int) : kindF (floatOfInt .f64 n) ≠ 4 := by
  rw [floatOf_eq n _ rfl]; exact (pack_lt _ _).2

/-- Small numbers are floats, and numbers. -/
theorem small_num (n : Nat) (h : n ≤ 1099511627776) : ∃ r, floatOfInt .f64 (n : Int) = r ∧ r < 9218868437227405312 ∧ (n ≠ 0 → 0 < r) := by
  refine ⟨_, rfl, ?_⟩
  obtain ⟨k, hk⟩ : ∃ k, k = 1074 := ⟨_, rfl⟩
  rw [floatOf_eq _ k hk, show decide ((n : Int) < 0) = false by rw [decide_eq_false_iff_not]; omega, Int.natAbs_natCast]
  unfold packF
  rw [if_neg Bool.false_ne_true]
  by_cases h0 : n = 0
  · subst h0
    rw [Nat.zero_mul, rnd_zero]
    exact ⟨by decide, fun h => absurd rfl h⟩
  · have hL := log_len (k := k) h0
    rw [← rnd_of hL]
    have hlog : n.log2 < 41 := by
      rw [Nat.log2_lt h0]
      exact Nat.lt_of_le_of_lt h (by decide)
    unfold roundN roundAt
    obtain ⟨a, ha⟩ : ∃ a, n.log2 + 1 + k - 53 = a := ⟨_, rfl⟩
    rw [ha]
    have hm := Nat.mod_lt (n * 2 ^ k / 2 ^ a) (show 0 < 9007199254740992 by decide)
    generalize n * 2 ^ k / 2 ^ a % 9007199254740992 = q at *
    have hb : a ≤ 1062 := by omega
    have hc : 1 ≤ a := by omega
    constructor
    · refine Nat.lt_of_le_of_lt (Nat.min_le_left _ _) ?_
      split <;> omega
    · intro _
      rw [Nat.lt_min]
      constructor
      · split <;> omega
      · decide

theorem quo_some (m n : Nat) (hm : m ≤ 1099511627776) (hn : n ≤ 1099511627776) (h0 : n ≠ 0) : ∃ r, floatBits .quo .f64 (floatOfInt .f64 (m : Int)) (floatOfInt .f64 (n : Int)) = some r ∧ r < 18446744073709551616 := by
  obtain ⟨x, hx, hx1, _⟩ := small_num m hm
  obtain ⟨y, hy, hy1, hy2⟩ := small_num n hn
  rw [hx, hy]
  have hy2 := hy2 h0
  have kx : kindF x < 3 := (kind_num x).2 (by unfold rungF; omega)
  have ky : kindF y < 3 := (kind_num y).2 (by unfold rungF; omega)
  obtain ⟨mx, ex, rx, _⟩ := read_num (b := x) (by omega) kx
  obtain ⟨my, ey, ry, vy⟩ := read_num (b := y) (by omega) ky
  have hmy : my ≠ 0 := by
    rintro rfl
    rw [Nat.zero_mul] at vy
    have := mag_zero vy
    unfold rungF at this
    omega
  cases h : floatBits .quo .f64 x y with
  | some r =>
    have hw := floatBits_wf h
    simp only [Lit.wf, decide_eq_true_eq] at hw
    exact ⟨r, rfl, hw⟩
  | none =>
    exfalso
    have h' : dbl.div x y = none := h
    unfold Ieee.Format.div at h'
    rw [rx, ry] at h'
    unfold Ieee.Datum.quotient at h'
    dsimp only at h'
    rw [if_neg hmy] at h'
    cases h'
/-- The share that was left. -/
def ratioF (live words : Nat) : Nat := (floatBits .quo .f64 (floatOfInt .f64 (live : Int)) (floatOfInt .f64 (words : Int))).getD 0
theorem ratio_run (m n : Nat) (hm : m ≤ 1099511627776) (hn : n ≤ 1099511627776) (h0 : n ≠ 0) : floatBits .quo .f64 (floatOfInt .f64 (m : Int)) (floatOfInt .f64 (n : Int)) = some (ratioF m n) ∧ ratioF m n < 18446744073709551616 := by
  obtain ⟨r, h1, h2⟩ := quo_some m n hm hn h0
  unfold ratioF
  rw [h1]
  exact ⟨rfl, h2⟩

/-- A pacer, in block b; its ratios in the row v. -/
def PacB (W w : World) (b g l m : Nat) (v : Value) (rs : List Nat) : Prop :=
  Blk w b [.float .f64 g, .float .f64 l, .float .f64 m, v, .bool true] 110 ∧ FRow W v rs w ∧ v.ownBlock ≠ some b ∧ W.heap.size ≤ b
theorem PacB.frame {S : Nat → Prop} {W w w' : World} {b g l m : Nat} {v : Value} {rs : List Nat} (h : PacB W w b g l m v rs) (hf : Fr S w w') (hb : ¬ S b) (hv : ∀ i, v.ownBlock = some i → ¬ S i) (hs : ∀ i, S i → W.heap.size ≤ i) : PacB W w' b g l m v rs :=
  ⟨h.1.frame hf hb, h.2.1.frame hf hv hs, h.2.2⟩

def OneBool (w : World) (v : Bool) (e : Ending) (w' : World) : Prop := e = .returned (.bool v) ∧ w = w'
set_option maxRecDepth 100000 in
set_option maxHeartbeats 400000 in
theorem none_nil (w : World) : Calls Try.prog 81 #[.pointer none] w (OneBool w true) := by
  go_enter Try.func81, Try.ntmps81
  go_wp2
  go_ret
  exact ⟨rfl, rfl⟩
set_option maxRecDepth 100000 in
set_option maxHeartbeats 400000 in
theorem none_any (b : Nat) (cs : List Value) (w : World) (h : Blk w b cs 110) (h4 : cs[4]? = some (.bool true)) : Calls Try.prog 81 #[.pointer (some ⟨b, 0, none⟩)] w (OneBool w false) := by
  have c := h.cell 4 h4
  clear h h4
  go_enter Try.func81, Try.ntmps81
  go_wp2
  go_ret
  exact ⟨rfl, rfl⟩

/-- May a pacer be made? -/
def mayF (g l m : Nat) : Bool := !(kindF g == 4) && (!(kindF l == 4) && (!(kindF m == 4) && !aheadF m l))
def NewPost (w : World) (g l m : Nat) (e : Ending) (w' : World) : Prop :=
  (mayF g l m = true → e = .returned (.tuple #[.pointer (some ⟨w.heap.size, 0, none⟩), .int .i64 0]) ∧ Blk w' w.heap.size [.float .f64 g, .float .f64 l, .float .f64 m, .slice none 0 0, .bool true] 110 ∧ Fr (fun _ => False) w w' ∧ w.heap.size < w'.heap.size) ∧
  (mayF g l m = false → e = .returned (.tuple #[.pointer none, .int .i64 5]) ∧ w = w')
theorem nan_ne {b : Nat} (hb : b < 18446744073709551616) : (FloatKind.f64.format.order b b != some .eq) = (kindF b == 4) := by
  have := order_self hb
  rw [bne, this, Bool.not_not]

set_option maxRecDepth 100000 in
set_option maxHeartbeats 800000 in
theorem new_any (g l m : Nat) (hg : g < 18446744073709551616) (hl : l < 18446744073709551616) (hm : m < 18446744073709551616) (w : World) :
    Calls Try.prog 33 #[.float .f64 g, .float .f64 l, .float .f64 m] w (NewPost w g l m) := by
  have n1 := nan_ne hg
  have n2 := nan_ne hl
  have n3 := nan_ne hm
  have HB := Lib.hid (before_any m l hm hl)
  unfold NewPost mayF
  generalize (kindF g == 4) = k1 at *
  generalize (kindF l == 4) = k2 at *
  generalize (kindF m == 4) = k3 at *
  generalize aheadF m l = k4 at *
  cases k1
  · cases k2
    · cases k3
      · cases k4
        · go_enter Try.func33, Try.ntmps33
          go_wp2_with fail
          refine (HB.out w).mono ?_
          rintro e w' ⟨rfl, rfl⟩
          go_wp2
          go_ret2
          refine ⟨fun _ => ⟨rfl, Blk.new w [.float .f64 g, .float .f64 l, .float .f64 m, .slice none 0 0, .bool true] 110, (Fr.refl _ w).alloc _, by simp⟩, fun h => by cases h⟩
        · go_enter Try.func33, Try.ntmps33
          go_wp2_with fail
          refine (HB.out w).mono ?_
          rintro e w' ⟨rfl, rfl⟩
          go_wp2
          go_ret2
          exact ⟨fun h => (by cases h), fun _ => ⟨rfl, rfl⟩⟩
      · go_enter Try.func33, Try.ntmps33
        go_wp2
        go_ret2
        exact ⟨fun h => (by cases h), fun _ => ⟨rfl, rfl⟩⟩
    · go_enter Try.func33, Try.ntmps33
      go_wp2
      go_ret2
      exact ⟨fun h => (by cases h), fun _ => ⟨rfl, rfl⟩⟩
  · go_enter Try.func33, Try.ntmps33
    go_wp2
    go_ret2
    exact ⟨fun h => (by cases h), fun _ => ⟨rfl, rfl⟩⟩
end Go.Proofs.Ytmllbdiljjimmaa

/- The walks of package pacer: Note, Noted. -/
namespace Go.Proofs.Ytmllbdiljjimmaa
open Go.RowKit

def OneInt (w : World) (v : Int) (e : Ending) (w' : World) : Prop := e = .returned (.int .i64 v) ∧ w = w'

set_option maxRecDepth 100000 in
set_option maxHeartbeats 400000 in
theorem noted_nil (w : World) : Calls Try.prog 39 #[.pointer none] w (OneInt w 0) := by
  have HN := Lib.hid (none_nil w)
  go_enter Try.func39, Try.ntmps39
  go_wp2_with fail
  refine (HN.out).mono ?_
  rintro e w' ⟨rfl, rfl⟩
  go_wp2
  go_ret
  exact ⟨rfl, rfl⟩
theorem PacB.isNone {W w : World} {b g l m : Nat} {v : Value} {rs : List Nat} (h : PacB W w b g l m v rs) : Calls Try.prog 81 #[.pointer (some ⟨b, 0, none⟩)] w (OneBool w false) :=
  none_any b _ w h.1 rfl
theorem PacB.row {W w : World} {b g l m : Nat} {v : Value} {rs : List Nat} (h : PacB W w b g l m v rs) : ∃ q qc, v = .slice q rs.length qc := ownsRow_shape h.2.1.1

set_option maxRecDepth 100000 in
set_option maxHeartbeats 400000 in
theorem noted_any {W w : World} {b g l m : Nat} {v : Value} {rs : List Nat} (h : PacB W w b g l m v rs) : Calls Try.prog 39 #[.pointer (some ⟨b, 0, none⟩)] w (OneInt w rs.length) := by
  have HN := Lib.hid h.isNone
  obtain ⟨q, qc, rfl⟩ := h.row
  have c3 := h.1.cell 3 rfl
  clear h
  go_enter Try.func39, Try.ntmps39
  go_wp2_with fail
  refine (HN.out).mono ?_
  rintro e w' ⟨rfl, rfl⟩
  go_wp2
  go_ret
  exact ⟨rfl, rfl⟩

set_option maxRecDepth 100000 in
set_option maxHeartbeats 400000 in
theorem note_nil (live words : Int) (w : World) : Calls Try.prog 36 #[.pointer none, .int .i64 live, .int .i64 words] w (OneInt w 9) := by
  have HN := Lib.hid (none_nil w)
  go_enter Try.func36, Try.ntmps36
  go_wp2_with fail
  refine (HN.out).mono ?_
  rintro e w' ⟨rfl, rfl⟩
  go_wp2
  go_ret
  exact ⟨rfl, rfl⟩

/-- May a share be noted? -/
def fitsI (live words : Int) : Bool := decide (0 ≤ live ∧ 1 ≤ words ∧ live ≤ 1099511627776 ∧ words ≤ 1099511627776)

set_option maxRecDepth 100000 in
set_option maxHeartbeats 800000 in
theorem note_no {W w : World} {b g l m : Nat} {v : Value} {rs : List Nat} (h : PacB W w b g l m v rs) (live words : Int) (hn : fitsI live words = false) :
    Calls Try.prog 36 #[.pointer (some ⟨b, 0, none⟩), .int .i64 live, .int .i64 words] w (OneInt w 5) := by
  have HN := Lib.hid h.isNone
  clear h
  unfold fitsI at hn
  rw [decide_eq_false_iff_not] at hn
  by_cases c1 : live < 0
  · have d1 : decide (live < 0) = true := by rw [decide_eq_true_eq]; exact c1
    clear hn
    go_enter Try.func36, Try.ntmps36
    go_wp2_with fail
    refine (HN.out).mono ?_
    rintro e w' ⟨rfl, rfl⟩
    go_wp2
    go_ret
    exact ⟨rfl, rfl⟩
  have d1 : decide (live < 0) = false := by rw [decide_eq_false_iff_not]; exact c1
  by_cases c2 : words < 1
  · have d2 : decide (words < 1) = true := by rw [decide_eq_true_eq]; exact c2
    clear hn
    go_enter Try.func36, Try.ntmps36
    go_wp2_with fail
    refine (HN.out).mono ?_
    rintro e w' ⟨rfl, rfl⟩
    go_wp2
    go_ret
    exact ⟨rfl, rfl⟩
  have d2 : decide (words < 1) = false := by rw [decide_eq_false_iff_not]; exact c2
  by_cases c3 : 1099511627776 < live
  · have d3 : decide (1099511627776 < live) = true := by rw [decide_eq_true_eq]; exact c3
    clear hn
    go_enter Try.func36, Try.ntmps36
    go_wp2_with fail
    refine (HN.out).mono ?_
    rintro e w' ⟨rfl, rfl⟩
    go_wp2
    go_ret
    exact ⟨rfl, rfl⟩
  have d3 : decide (1099511627776 < live) = false := by rw [decide_eq_false_iff_not]; exact c3
  have d4 : decide (1099511627776 < words) = true := by rw [decide_eq_true_eq]; omega
  clear hn c1 c2 c3
  go_enter Try.func36, Try.ntmps36
  go_wp2_with fail
  refine (HN.out).mono ?_
  rintro e w' ⟨rfl, rfl⟩
  go_wp2
  go_ret
  exact ⟨rfl, rfl⟩

/-- Behind a share that was noted. -/
def NotePost (W w : World) (b g l m : Nat) (v : Value) (rs : List Nat) (e : Ending) (w' : World) : Prop :=
  e = .returned (.int .i64 0) ∧ ∃ v', PacB W w' b g l m v' rs ∧ Fr (fun k => k = b ∨ v.ownBlock = some k) w w' ∧ (∀ k, v'.ownBlock = some k → v.ownBlock = some k ∨ w.heap.size ≤ k)

set_option maxRecDepth 100000 in
set_option maxHeartbeats 1600000 in
theorem note_room {W w : World} {b g l m : Nat} {v : Value} {rs : List Nat} (h : PacB W w b g l m v rs) (hl : rs.length < 8) (live words : Nat) (h1 : live ≤ 1099511627776) (h2 : words ≤ 1099511627776) (h3 : words ≠ 0) :
    Calls Try.prog 36 #[.pointer (some ⟨b, 0, none⟩), .int .i64 (live : Int), .int .i64 (words : Int)] w (NotePost W w b g l m v (rs ++ [ratioF live words])) := by
  have HN := Lib.hid h.isNone
  have HP := Lib.hid h
  obtain ⟨q, qc, rfl⟩ := h.row
  obtain ⟨i0, hi, hz0, hz1, hz2⟩ := info_parts info_float
  have c3 := h.1.cell 3 rfl
  obtain ⟨r1, r2⟩ := ratio_run live words h1 h2 h3
  have hq := fun w => run_float_arith (P := Try.prog) w .quo 26 .f64 _ _ _ r1
  generalize ratioF live words = R at *
  have hR := Lib.hid r2
  have hi1 : (live : Int) ≤ 1099511627776 := by omega
  have hi2 : (words : Int) ≤ 1099511627776 := by omega
  have hi3 : (1 : Int) ≤ words := by omega
  have hi4 : ((rs.length : Int) == 8) = false := by rw [beq_eq_false_iff_ne]; omega
  have ho := h.2.1.1
  clear h r1 r2 h1 h2 h3
  go_enter Try.func36, Try.ntmps36
  go_wp2_with fail
  refine (HN.out).mono ?_
  rintro e w' ⟨rfl, rfl⟩
  go_wp2_with (at_builtin; refine Hid.out ?_)
  unfold Hid
  have hf0 : Fr (fun _ => False) w (w.alloc (.cells #[.float .f64 R] 26)) := (Fr.refl (fun _ => False) w).alloc _
  refine wpList_append_one rfl _ _ 24 rfl 26 i0 (.float .f64 0) 8 Try.underlying24 hi hz0 hz1 hz2 rfl (.slice q rs.length qc) rs.length (fvals rs) rfl (ownsRow_frame ho hf0 (fun _ _ h => h)) ⟨w.heap.size, 0, none⟩ _ (.float .f64 R) rfl ((Blk.new w [.float .f64 R] 26).cell 0 rfl) rfl (by unfold maxLen; omega) (by omega) ?_
  intro g1 cap' w1 ho1 hf1 hg1
  have hb0 := HP.out.1.frame hf0 (fun h => h)
  have hb1 := hb0.frame hf1 HP.out.2.2.1
  have fz := hb1.free 3
  have hc3 := hb1.cell 3 rfl
  have hr1 : FRow W (.slice (some ⟨g1, 0, none⟩) (rs.length + 1) cap') (rs ++ [R]) w1 :=
    (HP.out.2.1.frame hf0 (fun _ _ h => h) (fun _ h => h.elim)).push hf1 ho1 (fun g' e => by simp only [Value.ownBlock, Option.some.injEq] at e; subst e; exact hg1) (fun y hy => by rw [List.mem_singleton] at hy; rw [hy]; exact hR.out)
  have hne : g1 ≠ b := by
    rcases hg1 with h | h
    · intro e; exact HP.out.2.2.1 (by rw [h, e])
    · have := HP.out.1.lt
      have := hf0.size
      omega
  have hfin : NotePost W w b g l m (.slice q rs.length qc) (rs ++ [R]) (.returned (.int .i64 0)) (w1.setCell ⟨b, 3, none⟩ (.slice (some ⟨g1, 0, none⟩) (rs.length + 1) cap')) := by
    refine ⟨rfl, _, ⟨hb1.set 3 _, hr1.frame (S := fun k => k = b) ((Fr.refl (fun k => k = b) w1).setCell ⟨b, 3, none⟩ (.inl rfl) _) (fun i hi e => ?_) (fun i hi => ?_), ?_, HP.out.2.2.2⟩, ?_, ?_⟩
    · simp only [Value.ownBlock, Option.some.injEq] at hi; omega
    · rw [hi]; exact HP.out.2.2.2
    · simp only [Value.ownBlock, ne_eq, Option.some.injEq]; exact hne
    · exact (hf0.mono (S' := fun k => k = b ∨ (Value.slice q rs.length qc).ownBlock = some k) (fun _ h => h.elim)).trans (hf1.mono (S' := fun k => k = b ∨ (Value.slice q rs.length qc).ownBlock = some k) (fun i hi => .inl (.inr hi))) (fun i hi => .inl hi) |>.setCell ⟨b, 3, none⟩ (.inl (.inl rfl)) _
    · intro k hk
      simp only [Value.ownBlock, Option.some.injEq] at hk
      subst hk
      rcases hg1 with h | h
      · exact .inl h
      · have := hf0.size
        exact .inr (by omega)
  have HFIN := Lib.hid hfin
  clear hfin hr1 hb0 hb1 ho1 hf1 hg1 hf0 ho HP HN hq
  go_wp2
  go_ret
  exact HFIN.out

/-- The row of a pacer, put anew. -/
theorem PacB.put {W w : World} {b g l m : Nat} {v v' : Value} {rs rs' : List Nat} (h : PacB W w b g l m v rs) {w1 : World} (hf : Fr (fun k => k ≠ b ∧ W.heap.size ≤ k) w w1) (hr : FRow W v' rs' w1) (hv : v'.ownBlock ≠ some b) : PacB W (w1.setCell ⟨b, 3, none⟩ v') b g l m v' rs' := by
  have hb := h.1.frame hf (fun h => h.1 rfl)
  refine ⟨hb.set 3 _, hr.frame (S := fun k => k = b) ((Fr.refl (fun k => k = b) w1).setCell ⟨b, 3, none⟩ (.inl rfl) _) (fun i hi e => ?_) (fun i hi => ?_), hv, h.2.2.2⟩
  · rw [e] at hi; exact hv hi
  · rw [hi]; exact h.2.2.2

set_option maxRecDepth 100000 in
set_option maxHeartbeats 1600000 in
theorem note_full {W w : World} {b g l m : Nat} {v : Value} {rs : List Nat} (h : PacB W w b g l m v rs) (hl : rs.length = 8) (live words : Nat) (h1 : live ≤ 1099511627776) (h2 : words ≤ 1099511627776) (h3 : words ≠ 0) :
    Calls Try.prog 36 #[.pointer (some ⟨b, 0, none⟩), .int .i64 (live : Int), .int .i64 (words : Int)] w (NotePost W w b g l m v (rs.drop 1 ++ [ratioF live words])) := by
  have HN := Lib.hid h.isNone
  have HP := Lib.hid h
  obtain ⟨g0, qc, rfl, hqc, hg0, hg0l⟩ := frow_shape h.2.1 (by omega)
  have hne0 : g0 ≠ b := fun e => h.2.2.1 (by rw [e]; rfl)
  rw [hl] at hqc
  obtain ⟨i0, hi, hz0, hz1, hz2⟩ := info_parts info_float
  have c3 := h.1.cell 3 rfl
  rw [hl] at c3
  obtain ⟨r1, r2⟩ := ratio_run live words h1 h2 h3
  have hq := fun w => run_float_arith (P := Try.prog) w .quo 26 .f64 _ _ _ r1
  generalize ratioF live words = R at *
  have hR := Lib.hid r2
  have hi1 : (live : Int) ≤ 1099511627776 := by omega
  have hi2 : (words : Int) ≤ 1099511627776 := by omega
  have hi3 : (1 : Int) ≤ words := by omega
  have hi5 : ¬ qc = 1 := by omega
  have hfl := frow_flts h.2.1
  have HFL := Lib.hid hfl
  have hlb := h.1.lt
  have HLB := Lib.hid hlb
  have HG0 := Lib.hid hg0
  have HG0L := Lib.hid hg0l
  have HNE0 := Lib.hid hne0
  have hWb := Lib.hid h.2.2.2
  have hld : (rs.drop 1).length = 7 := by rw [List.length_drop, hl]
  have hnews : ∀ w', Flts w' (some ⟨g0, 0, none⟩) rs.length rs → ∀ j u, (fvals (rs.drop 1))[j]? = some u → w'.cell? ((⟨g0, 1, none⟩ : Addr).add j) = some u := fun w' hx => flts_news hx 1
  have hsub : ∀ f ∈ rs.drop 1, f < 18446744073709551616 := fun f hf => h.2.1.2.2.1 f (List.mem_of_mem_drop hf)
  generalize rs.drop 1 = rs2 at *
  have HNEWS := Lib.hid hnews
  have HSUB := Lib.hid hsub
  have HWS := Lib.hid h.2.1.2.2.2.size
  have c4 := (h.1.frame ((Fr.refl (fun _ => False) w).alloc (.cells #[] 26)) (fun h => h)).cell 3 rfl
  rw [hl] at c4
  clear hnews hsub h r1 r2 h1 h2 h3 hfl hlb hg0 hg0l hne0
  go_enter Try.func36, Try.ntmps36
  go_wp2_with fail
  refine (HN.out).mono ?_
  rintro e w' ⟨rfl, rfl⟩
  go_wp2_with (at_builtin; refine Hid.out ?_)
  unfold Hid
  have hf0 : Fr (fun _ => False) w (w.alloc (.cells #[] 26)) := (Fr.refl (fun _ => False) w).alloc _
  refine wpList_append_some rfl _ _ 24 rfl 26 i0 (.float .f64 0) 8 Try.underlying24 hi hz0 hz1 hz2 rfl (.slice (some ⟨w.heap.size, 0, none⟩) 0 0) 0 [] rfl (own_empty w) ⟨g0, 1, none⟩ 7 (qc - 1) (fvals rs2) rfl (by unfold fvals; rw [List.length_map]; exact hld) (HNEWS.out _ (HFL.out.frame hf0 (fun _ _ _ h => h))) (fvals_cells _) (.inl (by decide)) (by unfold maxLen; omega) (by omega) ?_
  intro g1 cap1 w1 ho1 hf1 hg1
  have hblk : ∀ k, (Value.slice (some ⟨w.heap.size, 0, none⟩) 0 0).ownBlock = some k → k = w.heap.size := fun k hk => by simp only [Value.ownBlock, Option.some.injEq] at hk; exact hk.symm
  have hgw : w.heap.size ≤ g1 := by
    rcases hg1 with h | h
    · have := hblk _ h; omega
    · have := hf0.size; omega
  have hf01 : Fr (fun _ => False) w w1 := hf0.trans hf1 (fun i hi => .inr (by have := hblk _ hi; omega))
  have hr1 : FRow W (.slice (some ⟨g1, 0, none⟩) 7 cap1) rs2 w1 := by
    refine ⟨?_, fun i hi => ?_, HSUB.out, HP.out.2.1.2.2.2.then hf01⟩
    · rw [hld]; exact ho1
    · simp only [Value.ownBlock, Option.some.injEq] at hi
      have := HWS.out
      omega
  have hne1 : (Value.slice (some ⟨g1, 0, none⟩) 7 cap1).ownBlock ≠ some b := by
    simp only [Value.ownBlock, ne_eq, Option.some.injEq]
    have := HLB.out
    omega
  have hP1 := HP.out.put (hf01.mono (S' := fun k => k ≠ b ∧ W.heap.size ≤ k) (fun _ h => h.elim)) hr1 hne1
  have hb1 := HP.out.1.frame hf01 (fun h => h)
  have fz := hb1.free 3
  have HF01 : Hid (Fr (fun k => k = b) w (w1.setCell ⟨b, 3, none⟩ (.slice (some ⟨g1, 0, none⟩) 7 cap1))) := (hf01.mono (S' := fun k => k = b) (fun _ h => h.elim)).setCell ⟨b, 3, none⟩ (.inl rfl) _
  have HP1 := Lib.hid hP1
  have HGW := Lib.hid hgw
  have hc3 := hb1.cell 3 rfl
  clear hf0 hf1 hg1 hblk hr1 hP1 hb1 ho1 hf01 hgw hne1
  rw [Nat.zero_add]
  go_upto_region 7 with fail
  clear hc3 fz c3 c4 HP HN HNEWS HFL
  generalize w1.setCell _ _ = w2 at *
  have c3 := HP1.out.1.cell 3 rfl
  have ho := HP1.out.2.1.1
  rw [hld] at ho
  go_wp2_with (at_builtin; refine Hid.out ?_)
  unfold Hid
  have hf0 : Fr (fun _ => False) w2 (w2.alloc (.cells #[.float .f64 R] 26)) := (Fr.refl (fun _ => False) w2).alloc _
  refine wpList_append_one rfl _ _ 24 rfl 26 i0 (.float .f64 0) 8 Try.underlying24 hi hz0 hz1 hz2 rfl (.slice (some ⟨g1, 0, none⟩) 7 cap1) 7 (fvals rs2) rfl (ownsRow_frame ho hf0 (fun _ _ h => h)) ⟨w2.heap.size, 0, none⟩ _ (.float .f64 R) rfl ((Blk.new w2 [.float .f64 R] 26).cell 0 rfl) rfl (by unfold maxLen; omega) (by omega) ?_
  intro g2 cap2 w3 ho1 hf1 hg1
  have hb0 := HP1.out.1.frame hf0 (fun h => h)
  have hb1 := hb0.frame hf1 HP1.out.2.2.1
  have fz := hb1.free 3
  have hc3 := hb1.cell 3 rfl
  have hr1 : FRow W (.slice (some ⟨g2, 0, none⟩) 8 cap2) (rs2 ++ [R]) w3 :=
    (HP1.out.2.1.frame hf0 (fun _ _ h => h) (fun _ h => h.elim)).push hf1 (by rw [hld]; exact ho1) (fun g' e => by simp only [Value.ownBlock, Option.some.injEq] at e; subst e; exact hg1) (fun y hy => by rw [List.mem_singleton] at hy; rw [hy]; exact hR.out)
  have hw2 := HF01.out.size
  have hg2 : w.heap.size ≤ g2 := by
    rcases hg1 with h | h
    · simp only [Value.ownBlock, Option.some.injEq] at h; have := HGW.out; omega
    · have := hf0.size; omega
  have hne : g2 ≠ b := by have := HLB.out; omega
  have hf2 : Fr (fun k => (Value.slice (some ⟨g1, 0, none⟩) 7 cap1).ownBlock = some k) w2 w3 := (hf0.mono (S' := fun k => (Value.slice (some ⟨g1, 0, none⟩) 7 cap1).ownBlock = some k) (fun _ h => h.elim)).trans hf1 (fun i hi => .inl hi)
  have hf3 : Fr (fun k => k = b) w w3 := HF01.out.trans hf2 (fun i hi => .inr (by simp only [Value.ownBlock, Option.some.injEq] at hi; have := HGW.out; omega))
  have hfin : NotePost W w b g l m (.slice (some ⟨g0, 0, none⟩) 8 qc) (rs2 ++ [R]) (.returned (.int .i64 0)) (w3.setCell ⟨b, 3, none⟩ (.slice (some ⟨g2, 0, none⟩) 8 cap2)) := by
    refine ⟨rfl, _, ⟨hb1.set 3 _, hr1.frame (S := fun k => k = b) ((Fr.refl (fun k => k = b) w3).setCell ⟨b, 3, none⟩ (.inl rfl) _) (fun i hi e => ?_) (fun i hi => ?_), ?_, HP1.out.2.2.2⟩, ?_, ?_⟩
    · simp only [Value.ownBlock, Option.some.injEq] at hi; omega
    · rw [hi]; exact HP1.out.2.2.2
    · simp only [Value.ownBlock, ne_eq, Option.some.injEq]; exact hne
    · exact (hf3.setCell ⟨b, 3, none⟩ (.inl rfl) _).mono (fun i hi => .inl (.inl hi))
    · intro k hk
      simp only [Value.ownBlock, Option.some.injEq] at hk
      exact .inr (by omega)
  have HFIN := Lib.hid hfin
  clear hfin hr1 hb0 hb1 ho1 hf1 hg1 hf0 ho HP1 hq
  go_wp2
  go_ret
  exact HFIN.out
end Go.Proofs.Ytmllbdiljjimmaa
