/- The walks of package exact: how words are added and taken away. -/
import Derived.Test.YtmllbdiljjimmaaBase
import Derived.Test.YtmllbdiljjimmaaLimbs
namespace Go.Proofs.Ytmllbdiljjimmaa
open Go.RowKit

theorem call_add64 (x y c : Nat) (x' y' c' : Int) (hx : x' = x) (hy : y' = y) (hc' : c' = c) (hc : c ≤ 1) (w : World) : (callFunc 73 #[.int .u64 x', .int .u64 y', .int .u64 c']).run Try.prog w =
    .ok (.value (.tuple #[.int .u64 (((x + y + c) % 18446744073709551616 : Nat) : Int), .int .u64 (((x + y + c) / 18446744073709551616 : Nat) : Int)])) w := by
  subst hx; subst hy; subst hc'
  rcases (show c = 0 ∨ c = 1 by omega) with rfl | rfl <;> kernel_rfl

/-- A sum's cells. -/
def sumCells (made : Bool) (ns : List Nat) (nan plus minus : Bool) (count zeroes : Int) : List Value :=
  .bool made :: (ns.map (fun n : Nat => Value.int .u64 (n : Int)) ++ [.bool nan, .bool plus, .bool minus, .int .i64 count, .int .i64 zeroes])

theorem sumCells_limb {made : Bool} {ns : List Nat} {nan plus minus : Bool} {count zeroes : Int} {i x : Nat} (h : ns[i]? = some x) : (sumCells made ns nan plus minus count zeroes)[1 + i]? = some (.int .u64 (x : Int)) := by
  unfold sumCells
  have hi : i < ns.length := (List.getElem?_eq_some_iff.1 h).1
  rw [Nat.add_comm, List.getElem?_cons_succ, List.getElem?_append_left (by simpa using hi), List.getElem?_map, h]; rfl
theorem sumCells_set {made : Bool} {ns : List Nat} {nan plus minus : Bool} {count zeroes : Int} {i : Nat} (hi : i < ns.length) (y : Nat) :
    (sumCells made ns nan plus minus count zeroes).set (1 + i) (.int .u64 (y : Int)) = sumCells made (ns.set i y) nan plus minus count zeroes := by
  unfold sumCells
  rw [Nat.add_comm, List.set_cons_succ, List.set_append_left _ _ (by simpa using hi), List.map_set]

def SumB (w : World) (b : Nat) (made : Bool) (ns : List Nat) (nan plus minus : Bool) (count zeroes : Int) : Prop :=
  Blk w b (sumCells made ns nan plus minus count zeroes) 90 ∧ ns.length = 35 ∧ Limbs ns

theorem SumB.limb {w : World} {b : Nat} {made : Bool} {ns : List Nat} {nan plus minus : Bool} {count zeroes : Int} (h : SumB w b made ns nan plus minus count zeroes) {i x : Nat} (hx : ns[i]? = some x) :
    w.cell? ⟨b, 1 + i, none⟩ = some (.int .u64 (x : Int)) := h.1.cell _ (sumCells_limb hx)
theorem SumB.set {w : World} {b : Nat} {made : Bool} {ns : List Nat} {nan plus minus : Bool} {count zeroes : Int} (h : SumB w b made ns nan plus minus count zeroes) {i y : Nat} (hi : i < 35) (hy : y < 18446744073709551616) :
    SumB (w.setCell ⟨b, 1 + i, none⟩ (.int .u64 (y : Int))) b made (ns.set i y) nan plus minus count zeroes := by
  refine ⟨?_, by rw [List.length_set]; exact h.2.1, h.2.2.set i hy⟩
  rw [← sumCells_set (by rw [h.2.1]; exact hi)]
  exact h.1.set _ _
theorem SumB.drew {w : World} {b : Nat} {made : Bool} {ns : List Nat} {nan plus minus : Bool} {count zeroes : Int} (h : SumB w b made ns nan plus minus count zeroes) : SumB w.drew b made ns nan plus minus count zeroes := h

/-- The carry at place i, on its way. -/
def PlusRel (w0 : World) (b : Nat) (made : Bool) (nan plus minus : Bool) (count zeroes : Int) (T i c : Nat) (w : World) : Prop :=
  ∃ ms, SumB w b made ms nan plus minus count zeroes ∧ Fr (fun k => k = b) w0 w ∧ toN ms + c * 18446744073709551616 ^ i = T

theorem PlusRel.done {w0 : World} {b : Nat} {made nan plus minus : Bool} {count zeroes : Int} {T i c : Nat} {w : World} (h : PlusRel w0 b made nan plus minus count zeroes T i c w) (hd : i = 35 ∨ c = 0) :
    ∃ ns', SumB w b made ns' nan plus minus count zeroes ∧ toN ns' = T % 18446744073709551616 ^ 35 ∧ Fr (fun k => k = b) w0 w := by
  obtain ⟨ms, h1, h2, h3⟩ := h
  have hl := toN_lt h1.2.2
  rw [h1.2.1] at hl
  refine ⟨ms, h1, ?_, h2⟩
  rcases hd with rfl | rfl
  · exact mod_of_carry hl h3
  · exact mod_of_carry (c := 0) hl (by simpa using h3)

set_option maxRecDepth 100000 in
set_option maxHeartbeats 800000 in
theorem plusAt_any (b : Nat) (made : Bool) (ns : List Nat) (nan plus minus : Bool) (count zeroes : Int) (p low high : Nat) (w : World) (h : SumB w b made ns nan plus minus count zeroes) (hp : p < 34) (hl : low < 18446744073709551616) (hh : high < 18446744073709551616) :
    Calls Try.prog 76 #[.pointer (some ⟨b, 0, none⟩), .int .i64 (p : Int), .int .u64 (low : Int), .int .u64 (high : Int)] w fun e w' => e = .returned (.tuple #[]) ∧ ∃ ns', SumB w' b made ns' nan plus minus count zeroes ∧
      toN ns' = (toN ns + (low + high * 18446744073709551616) * 18446744073709551616 ^ p) % 18446744073709551616 ^ 35 ∧ Fr (fun k => k = b) w w' := by
  have hlen := h.2.1
  obtain ⟨x, hx⟩ : ∃ x, ns[p]? = some x := ⟨ns[p]'(by omega), by simp⟩
  have c1 := h.limb hx
  have hp' : (p : Int) < 35 := by omega
  have f1 := h.1.free (1 + p)
  have a1 := call_add64 x low 0 _ _ 0 rfl rfl rfl (by omega)
  have hxl := h.2.2.get hx
  generalize hs : (x + low + 0) % 18446744073709551616 = s at a1
  generalize hc : (x + low + 0) / 18446744073709551616 = c at a1
  have hsl : s < 18446744073709551616 := by omega
  have hcl : c ≤ 1 := by omega
  have Hs := Lib.hid hs
  have Hc := Lib.hid hc
  have Hx := Lib.hid hx
  clear hs hc hx
  go_enter Try.func76, Try.ntmps76
  go_wp2
  go_region
  have h1 : SumB ((w.setCell ⟨b, 1 + p, none⟩ (.int .u64 (s : Int))).drew) b made (ns.set p s) nan plus minus count zeroes := (h.set (by omega) hsl).drew
  have hf1 : Fr (fun k => k = b) w ((w.setCell ⟨b, 1 + p, none⟩ (.int .u64 (s : Int))).drew) := ((Fr.refl (fun k => k = b) w).setCell ⟨b, 1 + p, none⟩ (.inl rfl) _).drew
  generalize (w.setCell ⟨b, 1 + p, none⟩ (.int .u64 (s : Int))).drew = w1 at h1 hf1 ⊢
  clear c1 f1 a1
  obtain ⟨y, hy⟩ : ∃ y, ns[p + 1]? = some y := ⟨ns[p + 1]'(by omega), by simp⟩
  have hy1 : (ns.set p s)[p + 1]? = some y := by rw [List.getElem?_set_ne (by omega)]; exact hy
  have c1 := h1.limb hy1
  have f1 := h1.1.free (1 + (p + 1))
  have a1 := call_add64 y high c _ _ _ rfl rfl rfl hcl
  have hyl := h.2.2.get hy
  generalize hs2 : (y + high + c) % 18446744073709551616 = s2 at a1
  generalize hc2 : (y + high + c) / 18446744073709551616 = c2 at a1
  have hsl2 : s2 < 18446744073709551616 := by omega
  have hcl2 : c2 ≤ 1 := by omega
  have Hs2 := Lib.hid hs2
  have Hc2 := Lib.hid hc2
  have Hy := Lib.hid hy
  have Hy1 := Lib.hid hy1
  have hp2 : (p : Int) + 1 < 35 := by omega
  clear hs2 hc2 hy hy1
  go_wp2
  go_region
  have h2 : SumB ((w1.setCell ⟨b, 1 + (p + 1), none⟩ (.int .u64 (s2 : Int))).drew) b made ((ns.set p s).set (p + 1) s2) nan plus minus count zeroes := (h1.set (by omega) hsl2).drew
  have hf2 : Fr (fun k => k = b) w ((w1.setCell ⟨b, 1 + (p + 1), none⟩ (.int .u64 (s2 : Int))).drew) := (hf1.setCell ⟨b, 1 + (p + 1), none⟩ (.inl rfl) _).drew
  have hrel0 : PlusRel w b made nan plus minus count zeroes (toN ns + (low + high * 18446744073709551616) * 18446744073709551616 ^ p) (p + 2) c2 ((w1.setCell ⟨b, 1 + (p + 1), none⟩ (.int .u64 (s2 : Int))).drew) := by
    refine ⟨_, h2, hf2, ?_⟩
    have e1 := limb_step (a := low) (s := s) (c := c) Hx.out (by have := Hs.out; have := Hc.out; omega)
    have e2 := limb_step (a := high + c) (s := s2) (c := c2) Hy1.out (by have := Hs2.out; have := Hc2.out; omega)
    rw [show p + 2 = p + 1 + 1 by omega, e2, Nat.add_mul, Nat.add_mul]
    have e3 : high * 18446744073709551616 * 18446744073709551616 ^ p = high * 18446744073709551616 ^ (p + 1) := by rw [Nat.pow_succ, Nat.mul_assoc, Nat.mul_comm 18446744073709551616]
    omega
  generalize (w1.setCell ⟨b, 1 + (p + 1), none⟩ (.int .u64 (s2 : Int))).drew = w2 at hrel0 ⊢
  generalize hT : toN ns + (low + high * 18446744073709551616) * 18446744073709551616 ^ p = T at hrel0 ⊢
  have HT := Lib.hid hT
  clear hT
  clear h2 hf2 h1 hf1 c1 f1 a1
  go_wp2
  go_loopw [8, 9] (fun c i wr => ∃ j d : Nat, j ≤ 35 ∧ i = .int .i64 j ∧ c = .int .u64 d ∧ d ≤ 1 ∧ PlusRel w b made nan plus minus count zeroes T j d wr) (fun _ i _ => 35 - (intOf i).toNat)
  case atStart => exact ⟨p + 2, c2, by omega, by go_num, rfl, hcl2, hrel0⟩
  case round =>
    obtain ⟨j, d, hj, rfl, rfl, hd, hr⟩ := hrel
    by_cases hj35 : j = 35
    · have hdone := hr.done (.inl hj35)
      have Hd := Lib.hid hdone
      subst hj35
      clear hdone hr
      go_wp2
      go_end0
      exact ⟨rfl, by rw [HT.out]; exact Hd.out⟩
    · by_cases hd0 : d = 0
      · have hdone := hr.done (.inr hd0)
        have Hd := Lib.hid hdone
        subst hd0
        clear hdone hr
        have hj' : (j : Int) < 35 := by omega
        go_wp2
        go_end0
        exact ⟨rfl, by rw [HT.out]; exact Hd.out⟩
      · have hj' : (j : Int) < 35 := by omega
        have hd1 : 0 < (d : Int) := by omega
        obtain ⟨ms, k1, k2, k3⟩ := hr
        obtain ⟨z, hz⟩ : ∃ z, ms[j]? = some z := ⟨ms[j]'(by have := k1.2.1; omega), by simp⟩
        have c1 := k1.limb hz
        have f1 := k1.1.free (1 + j)
        have a1 := call_add64 z 0 d _ 0 _ rfl rfl rfl hd
        have hzl := k1.2.2.get hz
        generalize hs3 : (z + 0 + d) % 18446744073709551616 = s3 at a1
        generalize hc3 : (z + 0 + d) / 18446744073709551616 = c3 at a1
        have hsl3 : s3 < 18446744073709551616 := by omega
        have hcl3 : c3 ≤ 1 := by omega
        have hnew : PlusRel w b made nan plus minus count zeroes T (j + 1) c3 ((wr.setCell ⟨b, 1 + j, none⟩ (.int .u64 (s3 : Int))).drew) := by
          refine ⟨_, (k1.set (by omega) hsl3).drew, (k2.setCell ⟨b, 1 + j, none⟩ (.inl rfl) _).drew, ?_⟩
          rw [limb_step (a := d) (s := s3) (c := c3) hz (by omega)]; exact k3
        have Hn := Lib.hid hnew
        clear hnew hs3 hc3 hz k3 k1 k2 hj35 hd0
        go_wp2
        go_region
        go_wp2
        go_roundw
        case rel => exact ⟨j + 1, c3, by omega, by go_num, rfl, hcl3, Hn.out⟩
        case measure => simp [intOf]; omega

theorem call_sub64 (x y c : Nat) (x' y' c' : Int) (hx : x' = x) (hy : y' = y) (hc' : c' = c) (hc : c ≤ 1) (w : World) : (callFunc 102 #[.int .u64 x', .int .u64 y', .int .u64 c']).run Try.prog w =
    .ok (.value (.tuple #[.int .u64 (((x + 18446744073709551616 - y - c) % 18446744073709551616 : Nat) : Int), .int .u64 (((if x < y + c then 1 else 0 : Nat)) : Int)])) w := by
  subst hx; subst hy; subst hc'
  rcases (show c = 0 ∨ c = 1 by omega) with rfl | rfl <;> kernel_rfl

/-- The borrow at place i, on its way. -/
def MinusRel (w0 : World) (b : Nat) (made : Bool) (nan plus minus : Bool) (count zeroes : Int) (T : Int) (i c : Nat) (w : World) : Prop :=
  ∃ ms, SumB w b made ms nan plus minus count zeroes ∧ Fr (fun k => k = b) w0 w ∧ (toN ms : Int) - (c : Int) * ((18446744073709551616 ^ i : Nat) : Int) = T

theorem MinusRel.done {w0 : World} {b : Nat} {made nan plus minus : Bool} {count zeroes : Int} {T : Int} {i c : Nat} {w : World} (h : MinusRel w0 b made nan plus minus count zeroes T i c w) (hd : i = 35 ∨ c = 0) :
    ∃ ns', SumB w b made ns' nan plus minus count zeroes ∧ (toN ns' : Int) = T % ((18446744073709551616 ^ 35 : Nat) : Int) ∧ Fr (fun k => k = b) w0 w := by
  obtain ⟨ms, h1, h2, h3⟩ := h
  have hl := toN_lt h1.2.2
  rw [h1.2.1] at hl
  refine ⟨ms, h1, ?_, h2⟩
  rcases hd with rfl | rfl
  · exact mod_of_borrow hl h3
  · exact mod_of_borrow (c := 0) hl (by simpa using h3)

set_option maxRecDepth 100000 in
set_option maxHeartbeats 800000 in
theorem minusAt_any (b : Nat) (made : Bool) (ns : List Nat) (nan plus minus : Bool) (count zeroes : Int) (p low high : Nat) (w : World) (h : SumB w b made ns nan plus minus count zeroes) (hp : p < 34) (hl : low < 18446744073709551616) (hh : high < 18446744073709551616) :
    Calls Try.prog 92 #[.pointer (some ⟨b, 0, none⟩), .int .i64 (p : Int), .int .u64 (low : Int), .int .u64 (high : Int)] w fun e w' => e = .returned (.tuple #[]) ∧ ∃ ns', SumB w' b made ns' nan plus minus count zeroes ∧
      (toN ns' : Int) = ((toN ns : Int) - (((low + high * 18446744073709551616) * 18446744073709551616 ^ p : Nat) : Int)) % ((18446744073709551616 ^ 35 : Nat) : Int) ∧ Fr (fun k => k = b) w w' := by
  have hlen := h.2.1
  obtain ⟨x, hx⟩ : ∃ x, ns[p]? = some x := ⟨ns[p]'(by omega), by simp⟩
  have c1 := h.limb hx
  have hp' : (p : Int) < 35 := by omega
  have f1 := h.1.free (1 + p)
  have a1 := call_sub64 x low 0 _ _ 0 rfl rfl rfl (by omega)
  have hxl := h.2.2.get hx
  generalize hs : (x + 18446744073709551616 - low - 0) % 18446744073709551616 = s at a1
  generalize hc : (if x < low + 0 then 1 else 0) = c at a1
  have hsl : s < 18446744073709551616 := by omega
  have hcl : c ≤ 1 := by rw [← hc]; split <;> omega
  have Hs := Lib.hid hs
  have Hc := Lib.hid hc
  have Hx := Lib.hid hx
  clear hs hc hx
  go_enter Try.func92, Try.ntmps92
  go_wp2
  go_region
  have h1 : SumB ((w.setCell ⟨b, 1 + p, none⟩ (.int .u64 (s : Int))).drew) b made (ns.set p s) nan plus minus count zeroes := (h.set (by omega) hsl).drew
  have hf1 : Fr (fun k => k = b) w ((w.setCell ⟨b, 1 + p, none⟩ (.int .u64 (s : Int))).drew) := ((Fr.refl (fun k => k = b) w).setCell ⟨b, 1 + p, none⟩ (.inl rfl) _).drew
  generalize (w.setCell ⟨b, 1 + p, none⟩ (.int .u64 (s : Int))).drew = w1 at h1 hf1 ⊢
  clear c1 f1 a1
  obtain ⟨y, hy⟩ : ∃ y, ns[p + 1]? = some y := ⟨ns[p + 1]'(by omega), by simp⟩
  have hy1 : (ns.set p s)[p + 1]? = some y := by rw [List.getElem?_set_ne (by omega)]; exact hy
  have c1 := h1.limb hy1
  have f1 := h1.1.free (1 + (p + 1))
  have a1 := call_sub64 y high c _ _ _ rfl rfl rfl hcl
  have hyl := h.2.2.get hy
  generalize hs2 : (y + 18446744073709551616 - high - c) % 18446744073709551616 = s2 at a1
  generalize hc2 : (if y < high + c then 1 else 0) = c2 at a1
  have hsl2 : s2 < 18446744073709551616 := by omega
  have hcl2 : c2 ≤ 1 := by rw [← hc2]; split <;> omega
  have Hs2 := Lib.hid hs2
  have Hc2 := Lib.hid hc2
  have Hy := Lib.hid hy
  have Hy1 := Lib.hid hy1
  have hp2 : (p : Int) + 1 < 35 := by omega
  clear hs2 hc2 hy hy1
  go_wp2
  go_region
  have h2 : SumB ((w1.setCell ⟨b, 1 + (p + 1), none⟩ (.int .u64 (s2 : Int))).drew) b made ((ns.set p s).set (p + 1) s2) nan plus minus count zeroes := (h1.set (by omega) hsl2).drew
  have hf2 : Fr (fun k => k = b) w ((w1.setCell ⟨b, 1 + (p + 1), none⟩ (.int .u64 (s2 : Int))).drew) := (hf1.setCell ⟨b, 1 + (p + 1), none⟩ (.inl rfl) _).drew
  have hrel0 : MinusRel w b made nan plus minus count zeroes ((toN ns : Int) - (((low + high * 18446744073709551616) * 18446744073709551616 ^ p : Nat) : Int)) (p + 2) c2 ((w1.setCell ⟨b, 1 + (p + 1), none⟩ (.int .u64 (s2 : Int))).drew) := by
    refine ⟨_, h2, hf2, ?_⟩
    have e1 := limb_step_sub (a := low) (s := s) (c := c) Hx.out (by have h3 := Hs.out; have h4 := Hc.out; split at h4 <;> omega)
    have e2 := limb_step_sub (a := high + c) (s := s2) (c := c2) Hy1.out (by have h3 := Hs2.out; have h4 := Hc2.out; split at h4 <;> omega)
    rw [show p + 2 = p + 1 + 1 by omega, ← Int.natCast_mul]
    rw [Nat.add_mul] at e2
    have e3 : (low + high * 18446744073709551616) * 18446744073709551616 ^ p = low * 18446744073709551616 ^ p + high * 18446744073709551616 ^ (p + 1) := by rw [Nat.pow_succ, Nat.add_mul, Nat.mul_assoc, Nat.mul_comm 18446744073709551616]
    rw [e3]
    generalize low * 18446744073709551616 ^ p = X1 at *
    generalize high * 18446744073709551616 ^ (p + 1) = X2 at *
    generalize c * 18446744073709551616 ^ (p + 1) = X3 at *
    generalize c2 * 18446744073709551616 ^ (p + 1 + 1) = X4 at *
    omega
  generalize (w1.setCell ⟨b, 1 + (p + 1), none⟩ (.int .u64 (s2 : Int))).drew = w2 at hrel0 ⊢
  generalize hT : (toN ns : Int) - (((low + high * 18446744073709551616) * 18446744073709551616 ^ p : Nat) : Int) = T at hrel0 ⊢
  have HT := Lib.hid hT
  clear hT
  clear h2 hf2 h1 hf1 c1 f1 a1
  go_wp2
  go_loopw [8, 9] (fun c i wr => ∃ j d : Nat, j ≤ 35 ∧ i = .int .i64 j ∧ c = .int .u64 d ∧ d ≤ 1 ∧ MinusRel w b made nan plus minus count zeroes T j d wr) (fun _ i _ => 35 - (intOf i).toNat)
  case atStart => exact ⟨p + 2, c2, by omega, by go_num, rfl, hcl2, hrel0⟩
  case round =>
    obtain ⟨j, d, hj, rfl, rfl, hd, hr⟩ := hrel
    by_cases hj35 : j = 35
    · have hdone := hr.done (.inl hj35)
      have Hd := Lib.hid hdone
      subst hj35
      clear hdone hr
      go_wp2
      go_end0
      exact ⟨rfl, by rw [HT.out]; exact Hd.out⟩
    · by_cases hd0 : d = 0
      · have hdone := hr.done (.inr hd0)
        have Hd := Lib.hid hdone
        subst hd0
        clear hdone hr
        have hj' : (j : Int) < 35 := by omega
        go_wp2
        go_end0
        exact ⟨rfl, by rw [HT.out]; exact Hd.out⟩
      · have hj' : (j : Int) < 35 := by omega
        have hd1 : 0 < (d : Int) := by omega
        obtain ⟨ms, k1, k2, k3⟩ := hr
        obtain ⟨z, hz⟩ : ∃ z, ms[j]? = some z := ⟨ms[j]'(by have := k1.2.1; omega), by simp⟩
        have c1 := k1.limb hz
        have f1 := k1.1.free (1 + j)
        have a1 := call_sub64 z 0 d _ 0 _ rfl rfl rfl hd
        have hzl := k1.2.2.get hz
        generalize hs3 : (z + 18446744073709551616 - 0 - d) % 18446744073709551616 = s3 at a1
        generalize hc3 : (if z < 0 + d then 1 else 0) = c3 at a1
        have hsl3 : s3 < 18446744073709551616 := by omega
        have hcl3 : c3 ≤ 1 := by rw [← hc3]; split <;> omega
        have hnew : MinusRel w b made nan plus minus count zeroes T (j + 1) c3 ((wr.setCell ⟨b, 1 + j, none⟩ (.int .u64 (s3 : Int))).drew) := by
          refine ⟨_, (k1.set (by omega) hsl3).drew, (k2.setCell ⟨b, 1 + j, none⟩ (.inl rfl) _).drew, ?_⟩
          have e1 := limb_step_sub (a := d) (s := s3) (c := c3) hz (by split at hc3 <;> omega)
          rw [← k3, ← Int.natCast_mul, ← Int.natCast_mul]
          generalize d * 18446744073709551616 ^ j = X1 at *
          generalize c3 * 18446744073709551616 ^ (j + 1) = X2 at *
          omega
        have Hn := Lib.hid hnew
        clear hnew hs3 hc3 hz k3 k1 k2 hj35 hd0
        go_wp2
        go_region
        go_wp2
        go_roundw
        case rel => exact ⟨j + 1, c3, by omega, by go_num, rfl, hcl3, Hn.out⟩
        case measure => simp [intOf]; omega
end Go.Proofs.Ytmllbdiljjimmaa
