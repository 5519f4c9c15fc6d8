/- The walks of package exact: Add, New, Count. -/
import Derived.Test.YtmllbdiljjimmaaExact2
namespace Go.Proofs.Ytmllbdiljjimmaa
open Go.RowKit

section
variable {w : World} {b : Nat} {made : Bool} {ns : List Nat} {nan plus minus : Bool} {count zeroes : Int}
theorem sumCells_at (hl : ns.length = 35) (i : Nat) (v : Value) (hv : [Value.bool nan, .bool plus, .bool minus, .int .i64 count, .int .i64 zeroes][i]? = some v) : (sumCells made ns nan plus minus count zeroes)[36 + i]? = some v := by
  unfold sumCells
  rw [show 36 + i = (35 + i) + 1 by omega, List.getElem?_cons_succ, List.getElem?_append_right (by simp [hl]), List.length_map, hl, show 35 + i - 35 = i by omega]; exact hv
theorem sumCells_put (hl : ns.length = 35) (i : Nat) (v : Value) :
    (sumCells made ns nan plus minus count zeroes).set (36 + i) v = .bool made :: (ns.map (fun n : Nat => Value.int .u64 (n : Int)) ++ [Value.bool nan, .bool plus, .bool minus, .int .i64 count, .int .i64 zeroes].set i v) := by
  unfold sumCells
  rw [show 36 + i = (35 + i) + 1 by omega, List.set_cons_succ, List.set_append_right _ _ (by simp [hl]), List.length_map, hl, show 35 + i - 35 = i by omega]
theorem SumB.c0 (h : SumB w b made ns nan plus minus count zeroes) : w.cell? ⟨b, 0, none⟩ = some (.bool made) := h.1.cell 0 rfl
theorem SumB.cNan (h : SumB w b made ns nan plus minus count zeroes) : w.cell? ⟨b, 36, none⟩ = some (.bool nan) := h.1.cell 36 (sumCells_at h.2.1 0 _ rfl)
theorem SumB.cPlus (h : SumB w b made ns nan plus minus count zeroes) : w.cell? ⟨b, 37, none⟩ = some (.bool plus) := h.1.cell 37 (sumCells_at h.2.1 1 _ rfl)
theorem SumB.cMinus (h : SumB w b made ns nan plus minus count zeroes) : w.cell? ⟨b, 38, none⟩ = some (.bool minus) := h.1.cell 38 (sumCells_at h.2.1 2 _ rfl)
theorem SumB.cCount (h : SumB w b made ns nan plus minus count zeroes) : w.cell? ⟨b, 39, none⟩ = some (.int .i64 count) := h.1.cell 39 (sumCells_at h.2.1 3 _ rfl)
theorem SumB.cZeroes (h : SumB w b made ns nan plus minus count zeroes) : w.cell? ⟨b, 40, none⟩ = some (.int .i64 zeroes) := h.1.cell 40 (sumCells_at h.2.1 4 _ rfl)
theorem SumB.setNan (h : SumB w b made ns nan plus minus count zeroes) (v : Bool) : SumB (w.setCell ⟨b, 36, none⟩ (.bool v)) b made ns v plus minus count zeroes :=
  ⟨by have := h.1.set 36 (.bool v); rw [sumCells_put h.2.1 0] at this; exact this, h.2⟩
theorem SumB.setPlus (h : SumB w b made ns nan plus minus count zeroes) (v : Bool) : SumB (w.setCell ⟨b, 37, none⟩ (.bool v)) b made ns nan v minus count zeroes :=
  ⟨by have := h.1.set 37 (.bool v); rw [sumCells_put h.2.1 1] at this; exact this, h.2⟩
theorem SumB.setMinus (h : SumB w b made ns nan plus minus count zeroes) (v : Bool) : SumB (w.setCell ⟨b, 38, none⟩ (.bool v)) b made ns nan plus v count zeroes :=
  ⟨by have := h.1.set 38 (.bool v); rw [sumCells_put h.2.1 2] at this; exact this, h.2⟩
theorem SumB.setCount (h : SumB w b made ns nan plus minus count zeroes) (v : Int) : SumB (w.setCell ⟨b, 39, none⟩ (.int .i64 v)) b made ns nan plus minus v zeroes :=
  ⟨by have := h.1.set 39 (.int .i64 v); rw [sumCells_put h.2.1 3] at this; exact this, h.2⟩
theorem SumB.setZeroes (h : SumB w b made ns nan plus minus count zeroes) (v : Int) : SumB (w.setCell ⟨b, 40, none⟩ (.int .i64 v)) b made ns nan plus minus count v :=
  ⟨by have := h.1.set 40 (.int .i64 v); rw [sumCells_put h.2.1 4] at this; exact this, h.2⟩
end

/-- What a float adds to a sum. -/
def contrib (f : Nat) : Int := if kindF f < 3 then svalF f else 0

/-- Behind a float that came. -/
def AddPost (w : World) (b : Nat) (ns : List Nat) (nan plus minus : Bool) (count zeroes : Int) (f : Nat) (w' : World) : Prop :=
  ∃ ns', SumB w' b true ns' (nan || kindF f == 4) (plus || (kindF f == 3 && !negF f)) (minus || (kindF f == 3 && negF f)) (count + 1) (zeroes + if kindF f == 0 && negF f then 1 else 0) ∧
    (toN ns' : Int) = ((toN ns : Int) + contrib f) % (M35 : Int) ∧ Fr (fun k => k = b) w w'

theorem toN_mod {ns : List Nat} (h : Limbs ns) (hl : ns.length = 35) : (toN ns : Int) = ((toN ns : Int) + 0) % (M35 : Int) := by
  have := toN_lt h
  rw [hl] at this
  rw [Int.add_zero, Int.emod_eq_of_lt (Int.natCast_nonneg _) (Int.ofNat_lt.2 this)]

theorem inf_bits {f : Nat} (hf : f < 18446744073709551616) (h : kindF f = 3) : (f = 9218868437227405312 ∧ negF f = false) ∨ (f = 18442240474082181120 ∧ negF f = true) := by
  unfold kindF at h
  have h1 : expo f = 2047 ∧ frac f = 0 := by
    split at h
    · rename_i h1
      split at h
      · rename_i h2; exact ⟨h1, h2⟩
      · omega
    · split at h
      · split at h <;> omega
      · omega
  unfold expo frac at h1
  unfold negF
  have : f = 9218868437227405312 ∨ f = 18442240474082181120 := by omega
  rcases this with h | h
  · exact .inl ⟨h, by subst h; decide⟩
  · exact .inr ⟨h, by subst h; decide⟩

set_option maxRecDepth 100000 in
set_option maxHeartbeats 1600000 in
theorem add_nan (b : Nat) (ns : List Nat) (nan plus minus : Bool) (count zeroes : Int) (f : Nat) (hk : Hid (kindF f = 4)) (hf : f < 18446744073709551616) (w : World) (h : SumB w b true ns nan plus minus count zeroes) (h0 : 0 ≤ count) (h1 : count < 4611686018427387904) :
    Calls Try.prog 21 #[.pointer (some ⟨b, 0, none⟩), .float .f64 f] w fun e w' => e = .returned (.tuple #[]) ∧ AddPost w b ns nan plus minus count zeroes f w' := by
  have c0 := h.c0
  have c5 := h.cCount
  have f5 := h.1.free 39
  have s1 := h.setCount (count + 1)
  have hf1 : Fr (fun k => k = b) w (w.setCell ⟨b, 39, none⟩ (.int .i64 (count + 1))) := (Fr.refl (fun k => k = b) w).setCell ⟨b, 39, none⟩ (.inl rfl) _
  have hkk := kind_any f hf (w.setCell ⟨b, 39, none⟩ (.int .i64 (count + 1)))
  generalize hw1 : w.setCell ⟨b, 39, none⟩ (.int .i64 (count + 1)) = w1 at *
  rw [hk.out] at hkk
  have HK := Lib.hid hkk
  have d36 := s1.cNan
  have e36 := s1.1.free 36
  have s2 := s1.setNan true
  have hf2 : Fr (fun k => k = b) w (w1.setCell ⟨b, 36, none⟩ (.bool true)) := hf1.setCell ⟨b, 36, none⟩ (.inl rfl) _
  have hfin : AddPost w b ns nan plus minus count zeroes f (w1.setCell ⟨b, 36, none⟩ (.bool true)) := ⟨ns, by simpa [hk.out] using s2, by
    have : contrib f = 0 := by unfold contrib; rw [hk.out]; rfl
    rw [this]; exact toN_mod h.2.2 h.2.1, hf2⟩
  have HF := Lib.hid hfin
  clear hkk hfin s2 hf2 hf1
  go_enter Try.func21, Try.ntmps21
  go_wp2_with fail
  refine (HK.out).mono ?_
  rintro x w2 ⟨rfl, hw2⟩
  subst hw2
  go_wp2
  go_end0
  exact ⟨rfl, HF.out⟩

set_option maxRecDepth 100000 in
set_option maxHeartbeats 1600000 in
theorem add_zero (b : Nat) (ns : List Nat) (nan plus minus : Bool) (count zeroes : Int) (f : Nat) (N : Bool) (hn : Hid (negF f = N)) (hk : Hid (kindF f = 0)) (hf : f < 18446744073709551616) (w : World) (h : SumB w b true ns nan plus minus count zeroes) (h0 : 0 ≤ count) (h1 : count < 4611686018427387904) (h2 : 0 ≤ zeroes) (h3 : zeroes ≤ count) :
    Calls Try.prog 21 #[.pointer (some ⟨b, 0, none⟩), .float .f64 f] w fun e w' => e = .returned (.tuple #[]) ∧ AddPost w b ns nan plus minus count zeroes f w' := by
  have c0 := h.c0
  have c5 := h.cCount
  have f5 := h.1.free 39
  have s1 := h.setCount (count + 1)
  have hf1 : Fr (fun k => k = b) w (w.setCell ⟨b, 39, none⟩ (.int .i64 (count + 1))) := (Fr.refl (fun k => k = b) w).setCell ⟨b, 39, none⟩ (.inl rfl) _
  have hkk := kind_any f hf (w.setCell ⟨b, 39, none⟩ (.int .i64 (count + 1)))
  generalize hw1 : w.setCell ⟨b, 39, none⟩ (.int .i64 (count + 1)) = w1 at *
  rw [hk.out] at hkk
  have HK := Lib.hid hkk
  have hs := sign_any f hf w1
  rw [hn.out] at hs
  have HS := Lib.hid hs
  have hc0 : contrib f = 0 := by
    have h1 := hk.out
    unfold kindF at h1
    have : frac f = 0 ∧ expo f = 0 := by
      split at h1
      · split at h1 <;> omega
      · split at h1
        · split at h1
          · exact ⟨‹_›, ‹_›⟩
          · omega
        · omega
    unfold contrib svalF magF
    rw [hk.out, this.1, this.2]
    cases negF f <;> rfl
  have d40 := s1.cZeroes
  have e40 := s1.1.free 40
  have s2 := s1.setZeroes (zeroes + 1)
  have hf2 : Fr (fun k => k = b) w (w1.setCell ⟨b, 40, none⟩ (.int .i64 (zeroes + 1))) := hf1.setCell ⟨b, 40, none⟩ (.inl rfl) _
  have hz : 0 ≤ zeroes ∧ zeroes < 4611686018427387904 := by omega
  obtain ⟨hz1, hz2⟩ := hz
  cases N with
  | true =>
    have hfin : AddPost w b ns nan plus minus count zeroes f (w1.setCell ⟨b, 40, none⟩ (.int .i64 (zeroes + 1))) := ⟨ns, by simpa [hk.out, hn.out] using s2, by rw [hc0]; exact toN_mod h.2.2 h.2.1, hf2⟩
    have HF := Lib.hid hfin
    clear hkk hs hfin s2 hf2 hf1
    go_enter Try.func21, Try.ntmps21
    go_wp2_with fail
    refine (HK.out).mono ?_
    rintro x w2 ⟨rfl, hw2⟩
    subst hw2
    go_wp2_with (go_at_call 62; refine (HS.out).mono ?_; rintro x w2 ⟨rfl, rfl⟩)
    go_end0
    exact ⟨rfl, HF.out⟩
  | false =>
    have hfin : AddPost w b ns nan plus minus count zeroes f w1 := ⟨ns, by simpa [hk.out, hn.out] using s1, by rw [hc0]; exact toN_mod h.2.2 h.2.1, hf1⟩
    have HF := Lib.hid hfin
    clear hkk hs hfin s2 hf2 hf1
    go_enter Try.func21, Try.ntmps21
    go_wp2_with fail
    refine (HK.out).mono ?_
    rintro x w2 ⟨rfl, hw2⟩
    subst hw2
    go_wp2_with (go_at_call 62; refine (HS.out).mono ?_; rintro x w2 ⟨rfl, rfl⟩)
    go_end0
    exact ⟨rfl, HF.out⟩

set_option maxRecDepth 100000 in
set_option maxHeartbeats 1600000 in
theorem add_number (b : Nat) (ns : List Nat) (nan plus minus : Bool) (count zeroes : Int) (f : Nat) (K : Nat) (hK : K = 1 ∨ K = 2) (hk : Hid (kindF f = K)) (hf : f < 18446744073709551616) (w : World) (h : SumB w b true ns nan plus minus count zeroes) (h0 : 0 ≤ count) (h1 : count < 4611686018427387904) :
    Calls Try.prog 21 #[.pointer (some ⟨b, 0, none⟩), .float .f64 f] w fun e w' => e = .returned (.tuple #[]) ∧ AddPost w b ns nan plus minus count zeroes f w' := by
  have c0 := h.c0
  have c5 := h.cCount
  have f5 := h.1.free 39
  have s1 := h.setCount (count + 1)
  have hf1 : Fr (fun k => k = b) w (w.setCell ⟨b, 39, none⟩ (.int .i64 (count + 1))) := (Fr.refl (fun k => k = b) w).setCell ⟨b, 39, none⟩ (.inl rfl) _
  have hkk := kind_any f hf (w.setCell ⟨b, 39, none⟩ (.int .i64 (count + 1)))
  generalize hw1 : w.setCell ⟨b, 39, none⟩ (.int .i64 (count + 1)) = w1 at *
  rw [hk.out] at hkk
  have HK := Lib.hid hkk
  have hnum := number_any b true ns nan plus minus (count + 1) zeroes f hf w1 s1
  have HN := Lib.hid hnum
  have HF : Hid (∀ w', NumPost w1 b true ns nan plus minus (count + 1) zeroes (svalF f) w' → AddPost w b ns nan plus minus count zeroes f w') := by
    rintro w' ⟨ns', a1, a2, a3⟩
    have hc : contrib f = svalF f := by unfold contrib; rw [hk.out, if_pos (by omega)]
    refine ⟨ns', ?_, by rw [hc]; exact a2, hf1.trans a3 (fun i hi => .inl hi)⟩
    rcases hK with rfl | rfl <;> simpa [hk.out] using a1
  clear hkk hnum hf1
  rcases hK with rfl | rfl
  all_goals
    go_enter Try.func21, Try.ntmps21
    go_wp2_with fail
    refine (HK.out).mono ?_
    rintro x w2 ⟨rfl, hw2⟩
    subst hw2
    go_wp2_with fail
    refine (HN.out).mono ?_
    rintro x w3 ⟨rfl, hp⟩
    go_wp2
    go_end0
    exact ⟨rfl, HF.out _ hp⟩

theorem ord_pi0 : (FloatKind.f64.format.order 9218868437227405312 0 == some Ordering.gt) = true := by kernel_rfl
theorem ord_pi1 : (FloatKind.f64.format.order 9218868437227405312 0 == some Ordering.lt) = false := by kernel_rfl
theorem ord_mi0 : (FloatKind.f64.format.order 18442240474082181120 0 == some Ordering.gt) = false := by kernel_rfl
theorem ord_mi1 : (FloatKind.f64.format.order 18442240474082181120 0 == some Ordering.lt) = true := by kernel_rfl
set_option maxRecDepth 100000 in
set_option maxHeartbeats 1600000 in
theorem add_inf (b : Nat) (ns : List Nat) (nan plus minus : Bool) (count zeroes : Int) (f : Nat) (hk : Hid (kindF f = 3)) (hf : f < 18446744073709551616) (w : World) (h : SumB w b true ns nan plus minus count zeroes) (h0 : 0 ≤ count) (h1 : count < 4611686018427387904) :
    Calls Try.prog 21 #[.pointer (some ⟨b, 0, none⟩), .float .f64 f] w fun e w' => e = .returned (.tuple #[]) ∧ AddPost w b ns nan plus minus count zeroes f w' := by
  have c0 := h.c0
  have c5 := h.cCount
  have f5 := h.1.free 39
  have s1 := h.setCount (count + 1)
  have hf1 : Fr (fun k => k = b) w (w.setCell ⟨b, 39, none⟩ (.int .i64 (count + 1))) := (Fr.refl (fun k => k = b) w).setCell ⟨b, 39, none⟩ (.inl rfl) _
  have hkk := kind_any f hf (w.setCell ⟨b, 39, none⟩ (.int .i64 (count + 1)))
  generalize hw1 : w.setCell ⟨b, 39, none⟩ (.int .i64 (count + 1)) = w1 at *
  rw [hk.out] at hkk
  have HK := Lib.hid hkk
  have d37 := s1.cPlus
  have e37 := s1.1.free 37
  have d38 := s1.cMinus
  have e38 := s1.1.free 38
  have hc0 : contrib f = 0 := by unfold contrib; rw [hk.out]; rfl
  rcases inf_bits hf hk.out with ⟨rfl, hn⟩ | ⟨rfl, hn⟩
  · have o1 := ord_pi0
    have o2 := ord_pi1
    have s2 := (s1.setPlus true).setMinus minus
    clear hkk
    go_enter Try.func21, Try.ntmps21
    go_wp2_with fail
    refine (HK.out).mono ?_
    rintro x w2 ⟨rfl, hw2⟩
    subst hw2
    cases plus <;> cases minus
    all_goals
      go_wp2
      go_end0
      exact ⟨rfl, ns, by simpa [hk.out, hn] using s2, by rw [hc0]; exact toN_mod h.2.2 h.2.1, (hf1.setCell ⟨b, 37, none⟩ (.inl rfl) _).setCell ⟨b, 38, none⟩ (.inl rfl) _⟩
  · have o1 := ord_mi0
    have o2 := ord_mi1
    have s2 := (s1.setPlus plus).setMinus true
    clear hkk
    go_enter Try.func21, Try.ntmps21
    go_wp2_with fail
    refine (HK.out).mono ?_
    rintro x w2 ⟨rfl, hw2⟩
    subst hw2
    cases plus <;> cases minus
    all_goals
      go_wp2
      go_end0
      exact ⟨rfl, ns, by simpa [hk.out, hn] using s2, by rw [hc0]; exact toN_mod h.2.2 h.2.1, (hf1.setCell ⟨b, 37, none⟩ (.inl rfl) _).setCell ⟨b, 38, none⟩ (.inl rfl) _⟩

theorem kind_le (f : Nat) : kindF f ≤ 4 := by unfold kindF; (repeat' split) <;> omega

theorem add_any (b : Nat) (ns : List Nat) (nan plus minus : Bool) (count zeroes : Int) (f : Nat) (hf : f < 18446744073709551616) (w : World) (h : SumB w b true ns nan plus minus count zeroes) (h0 : 0 ≤ count) (h1 : count < 4611686018427387904) (h2 : 0 ≤ zeroes) (h3 : zeroes ≤ count) :
    Calls Try.prog 21 #[.pointer (some ⟨b, 0, none⟩), .float .f64 f] w fun e w' => e = .returned (.tuple #[]) ∧ AddPost w b ns nan plus minus count zeroes f w' := by
  have hk := kind_le f
  have : kindF f = 0 ∨ kindF f = 1 ∨ kindF f = 2 ∨ kindF f = 3 ∨ kindF f = 4 := by omega
  rcases this with hk | hk | hk | hk | hk
  · exact add_zero b ns nan plus minus count zeroes f _ rfl hk hf w h h0 h1 h2 h3
  · exact add_number b ns nan plus minus count zeroes f 1 (.inl rfl) hk hf w h h0 h1
  · exact add_number b ns nan plus minus count zeroes f 2 (.inr rfl) hk hf w h h0 h1
  · exact add_inf b ns nan plus minus count zeroes f hk hf w h h0 h1
  · exact add_nan b ns nan plus minus count zeroes f hk hf w h h0 h1

set_option maxHeartbeats 400000 in
set_option maxRecDepth 100000 in
theorem new_sum (w : World) :
    Calls Try.prog 20 #[] w fun e w' => e = .returned (.pointer (some ⟨w.heap.size, 0, none⟩)) ∧ SumB w' w.heap.size true (List.replicate 35 0) false false false 0 0 ∧ Fr (fun _ => False) w w' ∧ w.heap.size < w'.heap.size := by
  go_enter Try.func20, Try.ntmps20
  go_wp2
  go_ret
  exact ⟨rfl, ⟨Blk.new w (sumCells true (List.replicate 35 0) false false false 0 0) 90, by decide, by intro x hx; rw [List.eq_of_mem_replicate hx]; decide⟩, (Fr.refl _ w).alloc _, by simp⟩

theorem toN_zero : ∀ n, toN (List.replicate n 0) = 0
  | 0 => rfl
  | n + 1 => by rw [List.replicate_succ, toN, toN_zero n]

/-! ### A sum of floats, told plainly -/
/-- What has come to a sum. -/
structure Got where
  total : Int
  nan : Bool
  plus : Bool
  minus : Bool
  count : Nat
  zeroes : Nat
def Got.none : Got := ⟨0, false, false, false, 0, 0⟩
def Got.add (g : Got) (f : Nat) : Got :=
  ⟨g.total + contrib f, g.nan || kindF f == 4, g.plus || (kindF f == 3 && !negF f), g.minus || (kindF f == 3 && negF f), g.count + 1, g.zeroes + if kindF f == 0 && negF f then 1 else 0⟩
def Got.of (l : List Nat) : Got := l.foldl Got.add Got.none

/-- The sum in block b is what has come. -/
def SumG (w : World) (b : Nat) (g : Got) : Prop :=
  ∃ ns, SumB w b true ns g.nan g.plus g.minus (g.count : Int) (g.zeroes : Int) ∧ (toN ns : Int) = g.total % (M35 : Int)

theorem SumG.frame {S : Nat → Prop} {w w' : World} {b : Nat} {g : Got} (h : SumG w b g) (hf : Fr S w w') (hb : ¬ S b) : SumG w' b g := by
  obtain ⟨ns, ⟨h1, h2⟩, h3⟩ := h
  exact ⟨ns, ⟨h1.frame hf hb, h2⟩, h3⟩
theorem SumG.lt {w : World} {b : Nat} {g : Got} (h : SumG w b g) : b < w.heap.size := by obtain ⟨ns, ⟨h1, _⟩, _⟩ := h; exact h1.lt

theorem zeroes_le (l : List Nat) : (Got.of l).zeroes ≤ (Got.of l).count ∧ (Got.of l).count = l.length := by
  unfold Got.of
  have : ∀ (l : List Nat) (g : Got), g.zeroes ≤ g.count → (l.foldl Got.add g).zeroes ≤ (l.foldl Got.add g).count ∧ (l.foldl Got.add g).count = g.count + l.length := by
    intro l
    induction l with
    | nil => intro g hg; exact ⟨hg, rfl⟩
    | cons f l ih =>
      intro g hg
      have := ih (g.add f) (by unfold Got.add; dsimp only; split <;> omega)
      refine ⟨this.1, ?_⟩
      rw [List.foldl_cons, this.2, List.length_cons]
      unfold Got.add; dsimp only; omega
  have h := this l Got.none (Nat.le_refl _)
  exact ⟨h.1, by rw [h.2]; unfold Got.none; simp⟩

theorem new_got (w : World) :
    Calls Try.prog 20 #[] w fun e w' => e = .returned (.pointer (some ⟨w.heap.size, 0, none⟩)) ∧ SumG w' w.heap.size Got.none ∧ Fr (fun _ => False) w w' ∧ w.heap.size < w'.heap.size :=
  (new_sum w).mono fun e w' ⟨he, h1, h2, h3⟩ => ⟨he, ⟨_, h1, by rw [toN_zero]; rfl⟩, h2, h3⟩

theorem add_got (b : Nat) (g : Got) (f : Nat) (hf : f < 18446744073709551616) (w : World) (h : SumG w b g) (h1 : g.count < 4611686018427387904) (h2 : g.zeroes ≤ g.count) :
    Calls Try.prog 21 #[.pointer (some ⟨b, 0, none⟩), .float .f64 f] w fun e w' => e = .returned (.tuple #[]) ∧ SumG w' b (g.add f) ∧ Fr (fun k => k = b) w w' := by
  obtain ⟨ns, hs, ht⟩ := h
  refine (add_any b ns g.nan g.plus g.minus g.count g.zeroes f hf w hs (by omega) (by omega) (by omega) (by omega)).mono ?_
  rintro e w' ⟨he, ns', a1, a2, a3⟩
  refine ⟨he, ⟨ns', ?_, ?_⟩, a3⟩
  · unfold Got.add
    dsimp only
    rw [show ((g.count + 1 : Nat) : Int) = (g.count : Int) + 1 by omega, show ((g.zeroes + (if (kindF f == 0 && negF f) = true then 1 else 0) : Nat) : Int) = (g.zeroes : Int) + (if (kindF f == 0 && negF f) = true then 1 else 0) by split <;> omega]
    exact a1
  · rw [a2, ht]
    unfold Got.add
    dsimp only
    rw [Int.emod_add_emod]
end Go.Proofs.Ytmllbdiljjimmaa
