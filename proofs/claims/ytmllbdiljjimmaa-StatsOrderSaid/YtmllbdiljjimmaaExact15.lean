/- The walks of the laws of package exact: the whole of floats; the examples. -/
import Derived.Test.YtmllbdiljjimmaaRWhole
namespace Go.Proofs.Ytmllbdiljjimmaa
open Go.RowKit

set_option maxRecDepth 100000 in
set_option maxHeartbeats 400000 in
theorem ofs_any (p : Option Addr) (len cap : Nat) (fs : List Nat) (w : World) (h : Flts w p len fs) (hlen : len < 4611686018427387904) :
    Calls Try.prog 17 #[.slice p len cap] w (FPost w (Got.of fs).whole) := by
  have HO := Lib.hid (of_sum p len cap fs w h hlen)
  have hc := (zeroes_le fs).2
  rw [h.1] at hc
  have HC := Lib.hid hc
  clear h hc
  go_enter Try.func17, Try.ntmps17
  go_wp2_with fail
  refine (HO.out).mono ?_
  rintro e w1 ⟨b, rfl, hb, hg, hf⟩
  have HW := Lib.hid (whole_got b (Got.of fs) w1 hg (Got.ok_of fs) (by rw [HC.out]; exact hlen))
  have HF := Lib.hid hf
  clear hg hf hb
  go_wp2_with fail
  refine (HW.out).mono ?_
  rintro e w2 ⟨rfl, hf2⟩
  have HF2 := Lib.hid (HF.out.none_trans hf2)
  clear hf2
  go_wp2
  go_ret
  exact ⟨rfl, HF2.out⟩

set_option maxRecDepth 100000 in
set_option maxHeartbeats 400000 in
theorem same_any (a b : Nat) (w : World) :
    Calls Try.prog 19 #[.float .f64 a, .float .f64 b] w fun e w' => e = .returned (.bool (a == b)) ∧ w = w' := by
  have H1 := Lib.hid (bits_any a w)
  have H2 := Lib.hid (bits_any b w)
  have hq : ((a : Int) == (b : Int)) = (a == b) := by rw [Bool.eq_iff_iff, beq_iff_eq, beq_iff_eq]; omega
  generalize hr : (a == b) = r at *
  have HQ := Lib.hid hq
  have HR := Lib.hid hr
  clear hr hq
  go_enter Try.func19, Try.ntmps19
  go_wp2_with fail
  refine (H1.out).mono ?_
  rintro e w' ⟨rfl, rfl⟩
  go_wp2_with fail
  refine (H2.out).mono ?_
  rintro e w' ⟨rfl, rfl⟩
  go_wp2
  go_ret
  exact ⟨by first | exact congrArg (fun b => Ending.returned (.bool b)) HQ.out | exact congrArg (fun b => Ending.returned (.bool b)) HR.out, rfl⟩

/-! ### The examples -/
theorem rnd_zero : rnd 0 = 0 := by
  have h : IsLen 0 0 := ⟨by decide, fun h => absurd h (by decide)⟩
  rw [← rnd_of h]; decide +kernel
def farB : Nat := 9110782046170513408
def oneB : Nat := 4607182418800017408
def farN : Nat := 18334154083025289216
def oneU (k : Nat) : Nat := 2 ^ k
theorem ex_total : (Got.of [farB, oneB, farN]).total = (oneU 1074 : Int) := by decide +kernel
theorem ex_len : IsLen (oneU 1074) 1075 := by
  unfold IsLen
  decide +kernel
theorem ex_round : roundN (oneU 1074) 1075 = oneB := by decide +kernel
theorem ex_flags : (Got.of [farB, oneB, farN]).nan = false ∧ (Got.of [farB, oneB, farN]).plus = false ∧ (Got.of [farB, oneB, farN]).minus = false ∧ (Got.of [farB, oneB, farN]).zeroes = 0 ∧ (Got.of [farB, oneB, farN]).count = 3 := by decide +kernel
theorem ex_whole : (Got.of [farB, oneB, farN]).whole = oneB := by
  obtain ⟨h1, h2, h3, h4, h5⟩ := ex_flags
  unfold Got.whole
  rw [h1, h2, h3, h4, h5, ex_total]
  have hn : ¬ ((oneU 1074 : Int) < 0 ∨ (0 < 3 ∧ 0 = 3)) := by omega
  rw [if_neg (by decide), if_neg (by decide), if_neg (by decide), if_neg hn, Int.natAbs_natCast, ← rnd_of ex_len, ex_round]
def minusZero : Nat := 9223372036854775808
theorem ex_zeroes : (Got.of [minusZero, minusZero]).whole = minusZero := by
  have h : (Got.of [minusZero, minusZero]).nan = false ∧ (Got.of [minusZero, minusZero]).plus = false ∧ (Got.of [minusZero, minusZero]).minus = false ∧ (Got.of [minusZero, minusZero]).zeroes = 2 ∧ (Got.of [minusZero, minusZero]).count = 2 ∧ (Got.of [minusZero, minusZero]).total = 0 := by decide +kernel
  obtain ⟨h1, h2, h3, h4, h5, h6⟩ := h
  unfold Got.whole
  rw [h1, h2, h3, h4, h5, h6, if_neg (by decide), if_neg (by decide), if_neg (by decide), if_pos (.inr ⟨by decide, rfl⟩), Int.natAbs_zero, rnd_zero]
  rfl
theorem ex_none : (Got.of []).whole = 0 := by
  have h : (Got.of []).nan = false ∧ (Got.of []).plus = false ∧ (Got.of []).minus = false ∧ (Got.of []).zeroes = 0 ∧ (Got.of []).count = 0 ∧ (Got.of []).total = 0 := by decide +kernel
  obtain ⟨h1, h2, h3, h4, h5, h6⟩ := h
  unfold Got.whole
  rw [h1, h2, h3, h4, h5, h6]
  have hn : ¬ ((0 : Int) < 0 ∨ (0 < 0 ∧ 0 = 0)) := by omega
  rw [if_neg (by decide), if_neg (by decide), if_neg (by decide), if_neg hn, Int.natAbs_zero, rnd_zero]

/-- Floats that lie in a block of their own. -/
theorem flts_blk {w : World} {b : Nat} {fs : List Nat} {t : TypeId} (h : Blk w b (fvals fs) t) (hl : ∀ f ∈ fs, f < 18446744073709551616) : Flts w (some ⟨b, 0, none⟩) fs.length fs :=
  ⟨rfl, fun i hi => ⟨b, 0, fs[i], rfl, by simp [hi], hl _ (List.getElem_mem hi), by
    have := h.cell i (v := .float .f64 fs[i]) (by unfold fvals; simp [hi])
    rw [Nat.zero_add]; exact this⟩⟩

theorem eq_one : (FloatKind.f64.format.order oneB 4607182418800017408 == some Ordering.eq) = true := by kernel_rfl

set_option maxRecDepth 100000 in
set_option maxHeartbeats 1600000 in
theorem lives_any (w : World) : Calls Try.prog 15 #[] w fun e w' => e = .returned (.bool true) ∧ Fr (fun _ => False) w w' := by
  have H1 := Lib.hid (of_any farB)
  have H2 := Lib.hid (of_any minusZero)
  have hng := fun w => run_neg_float (P := Try.prog) farB w
  have e1 : flipF farB = farN := by decide +kernel
  rw [e1] at hng
  have HL1 : Hid (∀ w b t, Blk w b (fvals [farB, oneB, farN]) t → Calls Try.prog 17 #[.slice (some ⟨b, 0, none⟩) 3 3] w (FPost w oneB)) := fun w b t h => by
    have := ofs_any (some ⟨b, 0, none⟩) 3 3 [farB, oneB, farN] w (flts_blk h (by decide)) (by decide)
    rwa [ex_whole] at this
  have HL2 : Hid (∀ w b t, Blk w b (fvals [minusZero, minusZero]) t → Calls Try.prog 17 #[.slice (some ⟨b, 0, none⟩) 2 2] w (FPost w minusZero)) := fun w b t h => by
    have := ofs_any (some ⟨b, 0, none⟩) 2 2 [minusZero, minusZero] w (flts_blk h (by decide)) (by decide)
    rwa [ex_zeroes] at this
  have HL3 : Hid (∀ w, Calls Try.prog 17 #[.slice none 0 0] w (FPost w 0)) := fun w => by
    have := ofs_any none 0 0 [] w ⟨rfl, fun i hi => absurd hi (by omega)⟩ (by decide)
    rwa [ex_none] at this
  clear e1
  go_enter Try.func15, Try.ntmps15
  go_wp2_with fail
  refine (H1.out _).mono ?_
  rintro e w1 ⟨rfl, rfl⟩
  go_wp2_with fail
  refine (H2.out _).mono ?_
  rintro e w1 ⟨rfl, rfl⟩
  have HB1 : Hid (∀ w : World, Blk (w.alloc (.cells #[.float .f64 farB, .float .f64 4607182418800017408, .float .f64 farN] 26)) w.heap.size (fvals [farB, oneB, farN]) 26) := fun w => Blk.new w (fvals [farB, oneB, farN]) 26
  have HB2 : Hid (∀ w : World, Blk (w.alloc (.cells #[.float .f64 minusZero, .float .f64 minusZero] 26)) w.heap.size (fvals [minusZero, minusZero]) 26) := fun w => Blk.new w (fvals [minusZero, minusZero]) 26
  have HF1 : Hid (∀ o, Fr (fun _ => False) w (w.alloc o)) := fun o => (Fr.refl _ w).alloc o
  have hq1 := eq_one
  have HS1 := Lib.hid (same_any minusZero minusZero)
  have HS2 := Lib.hid (same_any 0 0)
  go_wp2_with fail
  refine (HL1.out _ _ _ (HB1.out w)).mono ?_
  rintro e w2 ⟨rfl, hf2⟩
  have HF2 := Lib.hid ((HF1.out _).then hf2)
  clear hf2
  go_wp2_with fail
  have hf3 := (HF2.out.alloc (.cells #[.float .f64 minusZero, .float .f64 minusZero] 26))
  have HF3 := Lib.hid hf3
  clear hf3
  refine (HL2.out _ _ _ (HB2.out w2)).mono ?_
  rintro e w3 ⟨rfl, hf4⟩
  have HF4 := Lib.hid (HF3.out.then hf4)
  clear hf4
  go_wp2_with fail
  refine (HS1.out w3).mono ?_
  rintro e w4 ⟨rfl, rfl⟩
  rw [show (minusZero == minusZero) = true by rfl]
  go_wp2_with fail
  refine (HL3.out _).mono ?_
  rintro e w5 ⟨rfl, hf5⟩
  have HF5 := Lib.hid (HF4.out.then hf5)
  clear hf5
  go_wp2_with fail
  refine (HS2.out w5).mono ?_
  rintro e w6 ⟨rfl, rfl⟩
  go_wp2
  go_ret
  exact ⟨rfl, HF5.out⟩

/-! ### The two answers -/
theorem inf_iff {f : Nat} (hf : f < 18446744073709551616) : (kindF f == 3 && !negF f) = (f == 9218868437227405312) ∧ (kindF f == 3 && negF f) = (f == 18442240474082181120) := by
  by_cases h : kindF f = 3
  · rcases inf_bits hf h with ⟨rfl, h2⟩ | ⟨rfl, h2⟩
    · rw [h, h2]; exact ⟨by decide, by decide⟩
    · rw [h, h2]; exact ⟨by decide, by decide⟩
  · have e : (kindF f == 3) = false := by rw [beq_eq_false_iff_ne]; exact h
    rw [e, Bool.false_and, Bool.false_and]
    refine ⟨?_, ?_⟩
    · symm; rw [beq_eq_false_iff_ne]; rintro rfl; exact h (by decide)
    · symm; rw [beq_eq_false_iff_ne]; rintro rfl; exact h (by decide)
theorem zero_iff {f : Nat} (hf : f < 18446744073709551616) : (kindF f == 0 && negF f) = (f == 9223372036854775808) := by
  rw [Bool.eq_iff_iff, Bool.and_eq_true, beq_iff_eq, beq_iff_eq]
  unfold negF
  rw [decide_eq_true_eq]
  have hk := kind_ref f hf
  constructor
  · rintro ⟨h1, h2⟩
    rw [hk] at h1
    have : f % 9223372036854775808 = 0 := by
      generalize f % 9223372036854775808 = x at *
      split at h1
      · omega
      · split at h1
        · omega
        · split at h1
          · omega
          · split at h1 <;> omega
    omega
  · rintro rfl; exact ⟨by decide, by decide⟩
theorem contrib_split {f : Nat} (hf : f < 18446744073709551616) : contrib f = ((if kindF f < 3 ∧ f < 9223372036854775808 then magF f else 0 : Nat) : Int) - ((if kindF f < 3 ∧ 9223372036854775808 ≤ f then magF (f - 9223372036854775808) else 0 : Nat) : Int) := by
  unfold contrib svalF
  by_cases hk : kindF f < 3
  · rw [if_pos hk]
    by_cases hn : 9223372036854775808 ≤ f
    · have e1 : negF f = true := by unfold negF; simpa using hn
      have e2 : magF (f - 9223372036854775808) = magF f := by
        unfold magF expo frac
        rw [show (f - 9223372036854775808) / 4503599627370496 % 2048 = f / 4503599627370496 % 2048 by omega, show (f - 9223372036854775808) % 4503599627370496 = f % 4503599627370496 by omega]
      rw [e1, if_pos rfl, if_neg (by omega), if_pos ⟨hk, hn⟩, e2]; omega
    · have e1 : negF f = false := by unfold negF; simpa using hn
      rw [e1, if_neg Bool.false_ne_true, if_pos ⟨hk, by omega⟩, if_neg (by omega)]; omega
  · rw [if_neg hk, if_neg (by omega), if_neg (by omega)]; rfl

/-- What both hold of a row. -/
def Alike (g : Got) (p : Pt) (n : Nat) : Prop := g.total = (p.a : Int) - (p.b : Int) ∧ g.nan = p.nan ∧ g.plus = p.up ∧ g.minus = p.down ∧ g.count = n ∧ g.zeroes ≤ n ∧ (g.zeroes = n → g.total = 0)
theorem alike_of (l : List Nat) (hl : ∀ f ∈ l, f < 18446744073709551616) : Alike (Got.of l) (Pt.of l) l.length ∧ (Pt.of l).all = decide (0 < l.length ∧ (Got.of l).zeroes = l.length) := by
  have key : ∀ (l : List Nat) (g : Got) (p : Pt) (n : Nat) (a0 : Bool), (∀ f ∈ l, f < 18446744073709551616) → Alike g p n → p.all = (a0 && decide (g.zeroes = n)) →
      Alike (l.foldl Got.add g) (l.foldl Pt.add p) (n + l.length) ∧ (l.foldl Pt.add p).all = (a0 && decide ((l.foldl Got.add g).zeroes = n + l.length)) := by
    intro l
    induction l with
    | nil => intro g p n a0 _ h1 h2; exact ⟨h1, h2⟩
    | cons f l ih =>
      intro g p n a0 hl h1 h2
      have hf := hl f List.mem_cons_self
      obtain ⟨i1, i2⟩ := inf_iff hf
      have i3 := zero_iff hf
      have i4 := contrib_split hf
      have := ih (g.add f) (p.add f) (n + 1) a0 (fun x hx => hl x (List.mem_cons_of_mem _ hx)) ?_ ?_
      · rw [List.foldl_cons, List.foldl_cons, List.length_cons, show n + (l.length + 1) = n + 1 + l.length by omega]
        exact this
      · obtain ⟨j1, j2, j3, j4, j5, j6, j7⟩ := h1
        unfold Alike Got.add Pt.add
        dsimp only
        refine ⟨by rw [j1, i4]; omega, by rw [j2], by rw [j3, i1], by rw [j4, i2], by rw [j5], by rw [i3]; split <;> omega, fun h => ?_⟩
        rw [i3] at h
        have hz : (f == 9223372036854775808) = true := by
          by_cases hb : (f == 9223372036854775808) = true
          · exact hb
          · rw [if_neg hb] at h; omega
        rw [if_pos hz] at h
        rw [j7 (by omega)]
        rw [beq_iff_eq] at hz
        subst hz
        decide +kernel
      · unfold Got.add Pt.add
        dsimp only
        rw [h2, i3]
        have j6 := h1.2.2.2.2.2.1
        by_cases hb : (f == 9223372036854775808) = true
        · rw [if_pos hb, hb, Bool.and_true]
          congr 1
          rw [decide_eq_decide]; omega
        · rw [if_neg hb]
          rw [Bool.not_eq_true] at hb
          rw [hb, Bool.and_false]
          have : ¬ (g.zeroes + 0 = n + 1) := by omega
          rw [decide_eq_false this, Bool.and_false]
  have h := key l Got.none ⟨0, 0, false, false, false, decide (0 < l.length)⟩ 0 (decide (0 < l.length)) hl ⟨by unfold Got.none; simp, rfl, rfl, rfl, rfl, Nat.le_refl _, fun _ => rfl⟩ (by unfold Got.none; simp)
  rw [Nat.zero_add] at h
  refine ⟨h.1, h.2.trans ?_⟩
  rw [← Bool.decide_and]; rfl

theorem whole_same (l : List Nat) (hl : ∀ f ∈ l, f < 18446744073709551616) : (Got.of l).whole = (Pt.of l).whole := by
  obtain ⟨⟨h1, h2, h3, h4, h5, h6, h7⟩, h8⟩ := alike_of l hl
  generalize Got.of l = g at *
  generalize Pt.of l = p at *
  unfold Got.whole Pt.whole
  rw [h2, h3, h4, h8, h5, h1]
  by_cases c1 : (p.nan || (p.up && p.down)) = true
  · rw [if_pos c1, if_pos c1]
  · rw [if_neg c1, if_neg c1]
    by_cases c2 : p.up = true
    · rw [if_pos c2, if_pos c2]
    · rw [if_neg c2, if_neg c2]
      by_cases c3 : p.down = true
      · rw [if_pos c3, if_pos c3]
      · rw [if_neg c3, if_neg c3]
        by_cases c4 : 0 < l.length ∧ g.zeroes = l.length
        · have h9 := h7 c4.2
          rw [if_pos (.inr c4), if_pos (by simpa using c4)]
          rw [h1] at h9
          rw [h9, Int.natAbs_zero, rnd_zero]
        · have c4' : ¬ (decide (0 < l.length ∧ g.zeroes = l.length) = true) := by rw [decide_eq_true_eq]; exact c4
          rw [if_neg c4']
          by_cases c5 : p.a < p.b
          · rw [if_pos (.inl (by omega)), if_pos c5, show ((p.a : Int) - p.b).natAbs = p.b - p.a by omega]
          · rw [if_neg (by omega), if_neg c5, show ((p.a : Int) - p.b).natAbs = p.a - p.b by omega]
end Go.Proofs.Ytmllbdiljjimmaa
