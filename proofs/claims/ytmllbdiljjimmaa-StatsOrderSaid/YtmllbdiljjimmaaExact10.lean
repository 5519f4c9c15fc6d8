/- The walks of package exact: a sum without its sign. -/
import Derived.Test.YtmllbdiljjimmaaExact9
import Derived.Test.YtmllbdiljjimmaaRegion
namespace Go.Proofs.Ytmllbdiljjimmaa
open Go.RowKit

theorem toN_take {ns : List Nat} {k x : Nat} (hx : ns[k]? = some x) : toN (ns.take (k + 1)) = toN (ns.take k) + 18446744073709551616 ^ k * x := by
  have hk : k < ns.length := (List.getElem?_eq_some_iff.1 hx).1
  rw [toN_split (ns.take (k + 1)) k (by rw [List.length_take]; omega)]
  have e1 : (ns.take (k + 1)).take k = ns.take k := by rw [List.take_take]; congr 1; omega
  have e2 : (ns.take (k + 1)).drop k = [x] := by
    rw [List.take_add_one, hx, Option.toList_some, List.drop_append, List.length_take, List.drop_eq_nil_of_le (by rw [List.length_take]; omega), show k - min k ns.length = 0 by omega]; rfl
  rw [e1, e2]; simp [toN]

theorem flip_step {T N c s c' x P : Nat} (h : T + c * P + N = P) (hs : s + c' * 18446744073709551616 = 18446744073709551615 - x + c) (hx : x < 18446744073709551616) :
    (T + P * s) + c' * (P * 18446744073709551616) + (N + P * x) = P * 18446744073709551616 := by
  have e : P * (s + c' * 18446744073709551616 + x) = P * (18446744073709551615 + c) := by congr 1; omega
  rw [Nat.mul_add, Nat.mul_add, Nat.mul_add] at e
  have e1 : P * (c' * 18446744073709551616) = c' * (P * 18446744073709551616) := by rw [← Nat.mul_assoc, Nat.mul_comm P c', Nat.mul_assoc]
  have e2 : P * c = c * P := Nat.mul_comm _ _
  rw [e1, e2] at e
  generalize P * s = A at *
  generalize c' * (P * 18446744073709551616) = B at *
  generalize P * x = C at *
  generalize c * P = D at *
  omega

/-- Is the highest bit set? -/
def topN (ns : List Nat) : Bool := decide (9223372036854775808 ≤ ns.getD 34 0)
def absN (ns : List Nat) : Nat := if topN ns then 18446744073709551616 ^ 35 - toN ns else toN ns
def SizePost (w : World) (ns : List Nat) (e : Ending) (w' : World) : Prop :=
  ∃ ms, e = .returned (.tuple #[limbsV ms, .bool (topN ns)]) ∧ ms.length = 35 ∧ Limbs ms ∧ toN ms = absN ns ∧ Fr (fun _ => False) w w'

theorem SumB.range {w : World} {b : Nat} {made : Bool} {ns : List Nat} {nan plus minus : Bool} {count zeroes : Int} (h : SumB w b made ns nan plus minus count zeroes) : w.rangeAt b 1 (limbCells ns) := by
  intro j v hv
  refine h.1.cell (1 + j) ?_
  unfold limbCells at hv
  have hj : j < ns.length := by have := (List.getElem?_eq_some_iff.1 hv).1; simpa using this
  unfold sumCells
  rw [Nat.add_comm, List.getElem?_cons_succ, List.getElem?_append_left (by simpa using hj)]
  exact hv

theorem results_cell_tmp {P : Program} {fn : Func} {p q : Tmp} {ty : TypeId} (h : fn.results = #[.cell p ty, .tmp q]) (tmps : Array Value) (w : World) (g : Nat) (t : TypeId) (cs : Array Value) (fr : Nat × Nat) (d : TypeDesc) (v : Value)
    (hp : tmps.getD p undef = .pointer (some ⟨g, 0, none⟩)) (hv : tmps.getD q undef = v) (hg : w.heap[g]? = some (.cells cs t fr))
    (hu : P.underlying ty = some d) (hd : (match d with | .struct _ | .array _ _ => true | _ => false) = true) (hi : (P.info? ty).map (·.size) = some cs.size) :
    (results fn tmps).run P w = .ok (.tuple #[.agg cs, v]) w := by
  have hp' : tmps[p]?.getD undef = .pointer (some ⟨g, 0, none⟩) := by simpa using hp
  have hv' : tmps[q]?.getD undef = v := by simpa using hv
  simp [results, h, hp', hv', asAddr, run_loadVar_row w g t ty cs fr d hg hu hd hi]

theorem not_nat (y : Nat) (hy : y < 18446744073709551616) : 18446744073709551615 ^^^ y = 18446744073709551615 - y := by
  have e : 18446744073709551615 - y = 2 ^ 64 - (y + 1) := by omega
  rw [e]
  apply Nat.eq_of_testBit_eq
  intro i
  rw [Nat.testBit_two_pow_sub_succ (by exact hy), Nat.testBit_xor, show (18446744073709551615 : Nat) = 2 ^ 64 - 1 by rfl, Nat.testBit_two_pow_sub_one]
  by_cases hi : i < 64
  · simp [hi]
  · have h0 : y.testBit i = false := Nat.testBit_lt_two_pow (Nat.lt_of_lt_of_le hy (Nat.pow_le_pow_right (n := 2) (by decide) (by omega : 64 ≤ i)))
    simp [hi, h0]
theorem not_raw (y : Nat) (hy : y < 18446744073709551616) : bits .xor .u64 IntKind.u64.max (y : Int) = ((18446744073709551615 - y : Nat) : Int) := by
  have h := u64_xor_nat 18446744073709551615 y (by decide) hy
  rw [not_nat y hy] at h
  exact h

theorem pos_of_top {ns : List Nat} (hn : ns.length = 35) (h : topN ns = true) : 0 < toN ns := by
  rcases Nat.eq_zero_or_pos (toN ns) with h0 | h0
  · have hx : ns[34]? = some (ns[34]'(by omega)) := by simp
    have := toN_zero_mem h0 hx
    unfold topN at h
    rw [List.getD_eq_getElem?_getD, hx, this] at h
    exact absurd h (by decide)
  · exact h0

/-- The complement, on its way. -/
def FlipRel (w : World) (g1 g2 : Nat) (ns : List Nat) (k c : Nat) (wr : World) : Prop :=
  ∃ ms, Blk wr g2 (limbCells ms) 88 ∧ ms.length = 35 ∧ Limbs ms ∧ (∀ j, k ≤ j → ms[j]? = ns[j]?) ∧
    toN (ms.take k) + c * 18446744073709551616 ^ k + toN (ns.take k) = 18446744073709551616 ^ k ∧ Blk wr g1 (limbCells (List.replicate 35 0)) 88 ∧ Fr (fun _ => False) w wr

theorem limbCells_set (ns : List Nat) (i y : Nat) : (limbCells ns).set i (.int .u64 (y : Int)) = limbCells (ns.set i y) := by
  unfold limbCells; rw [List.map_set]

set_option maxRecDepth 100000 in
set_option maxHeartbeats 1600000 in
theorem size_any (b : Nat) (made : Bool) (ns : List Nat) (nan plus minus : Bool) (count zeroes : Int) (w : World) (h : SumB w b made ns nan plus minus count zeroes) :
    Calls Try.prog 70 #[.pointer (some ⟨b, 0, none⟩)] w (SizePost w ns) := by
  have HR := Lib.hid h.range
  have hn := h.2.1
  have hL := h.2.2
  have hsz := limbs_size ns hn
  have hsl : (limbCells ns).length = 35 := by simpa using hsz
  have hi0 := info_limbs
  have HI := Lib.hid hi0
  have HI2 : Hid ((Try.prog.info? 88).map (·.size) = some (limbCells ns).length) := by rw [hsl]; exact hi0
  clear hi0
  go_enter Try.func70, Try.ntmps70
  go_upto_region 1 with fail
  generalize hW : w.alloc _ = w1
  have hb1 : Blk w1 w.heap.size (limbCells (List.replicate 35 0)) 88 := by rw [← hW]; exact Blk.new w (limbCells (List.replicate 35 0)) 88
  have hf1 : Fr (fun _ => False) w w1 := by rw [← hW]; exact (Fr.refl _ w).alloc _
  clear hW
  have hs1 := h.1.frame hf1 (fun h => h)
  generalize hg1 : w.heap.size = g1 at *
  have HR1 : Hid (w1.rangeAt b 1 (limbCells ns)) := (show SumB w1 b made ns nan plus minus count zeroes from ⟨hs1, h.2⟩).range
  generalize hg2 : w1.heap.size = g2 at *
  have HG2 := Lib.hid hg2
  have HONE : Hid ((limbCells ns).toArray.all (·.oneCell') = true) := Go.all_oneCell_toArray (fun v hv => by
    unfold limbCells at hv; obtain ⟨x, _, rfl⟩ := List.mem_map.1 hv; rfl)
  have HI3 : Hid ((Try.prog.info? 88).map (·.size) = some (limbCells ns).toArray.size) := by rw [hsz]; exact HI.out
  have HSZ : Hid ((limbCells (List.replicate 35 0)).toArray.size = (limbCells ns).toArray.size) := by rw [hsz]; rfl
  have HNEW : Hid (∀ o, o = Obj.cells (limbCells (List.replicate 35 0)).toArray 88 → (w1.alloc o).heap[g2]? = some (.cells (limbCells (List.replicate 35 0)).toArray 88 (0, 0))) := fun o ho => by rw [ho, ← HG2.out]; exact Blk.new w1 (limbCells (List.replicate 35 0)) 88
  have HF1 := Lib.hid hf1
  have HB1 := Lib.hid hb1
  have HLT : Hid (g1 < w1.heap.size) := hb1.lt
  clear hsz hsl hb1 hs1 hf1 h
  go_upto_region 2 with (first | refine wpList_load_mid rfl 88 _ rfl b 1 rfl (limbCells ns) _ HR1.out Try.underlying88 rfl HI2.out ?_ | refine wpList_store_row rfl 88 _ _ rfl g2 (limbCells ns).toArray rfl rfl 88 (limbCells (List.replicate 35 0)).toArray (HNEW.out _ rfl) HI3.out HSZ.out HONE.out ?_)
  generalize hW2 : (w1.alloc _).setRow g2 _ = w2
  have hb2 : Blk w2 g2 (limbCells ns) 88 := by rw [← hW2]; exact Blk.setRow (c := limbCells (List.replicate 35 0)) (HNEW.out _ rfl) (limbCells ns)
  have hb1 : Blk w2 g1 (limbCells (List.replicate 35 0)) 88 := by rw [← hW2]; exact (HB1.out.alloc _).setRowOther g2 _ (by have := HLT.out; rw [HG2.out] at this; omega)
  have hf2 : Fr (fun _ => False) w w2 := by rw [← hW2]; exact (HF1.out.alloc _).setRow g2 (.inr (by have := HF1.out.size; rw [HG2.out] at this; exact this)) _
  have hne : g1 ≠ g2 := by have := HLT.out; rw [HG2.out] at this; omega
  have hw1g : w.heap.size ≤ g1 := by rw [hg1]; exact Nat.le_refl _
  have hw2g : w.heap.size ≤ g2 := by have := HF1.out.size; rw [HG2.out] at this; exact this
  clear hW2 hg2 hg1 HNEW HR HR1 HLT HB1 HF1 HG2
  have HB1 := Lib.hid hb1
  have HB2 := Lib.hid hb2
  have HF2 := Lib.hid hf2
  have HNE := Lib.hid hne
  have HW1 := Lib.hid hw1g
  have HW2 := Lib.hid hw2g
  clear hb1 hf2 hne hw1g hw2g
  obtain ⟨x, hx⟩ : ∃ x, ns[34]? = some x := ⟨ns[34]'(by omega), by simp⟩
  have hc := hb2.cell 34 (limb_cell hx)
  have htop : topN ns = decide (9223372036854775808 ≤ x) := by unfold topN; rw [List.getD_eq_getElem?_getD, hx]; rfl
  have hxl := hL.get hx
  clear hb2
  by_cases ht : 9223372036854775808 ≤ x
  · have hz : decide ((x : Int) / 9223372036854775808 = 0) = false := by simp; omega
    have hz2 : ((x : Int) / 9223372036854775808 == 0) = false := by rw [beq_eq_false_iff_ne]; omega
    have htf : topN ns = true := by rw [htop]; simp; omega
    have HT := Lib.hid htf
    clear ht htop hx htf
    go_wp2_with fail
    go_loopw [5, 16] (fun c i wr => ∃ k n : Nat, k ≤ 35 ∧ n ≤ 1 ∧ c = .int .u64 (n : Int) ∧ i = .int .i64 (k : Int) ∧ FlipRel w g1 g2 ns k n wr) (fun _ i _ => 35 - (intOf i).toNat)
    case atStart => exact ⟨0, 1, by omega, by omega, rfl, rfl, ns, HB2.out, hn, hL, fun _ _ => rfl, by simp [toN], HB1.out, HF2.out⟩
    case round =>
      obtain ⟨k, n, hk, hn1, rfl, rfl, ms, hm1, hm2, hm3, hm4, hm5, hm6, hm7⟩ := hrel
      by_cases hlt : k < 35
      · obtain ⟨y, hy⟩ : ∃ y, ms[k]? = some y := ⟨ms[k]'(by omega), by simp⟩
        have hc := hm1.cell k (limb_cell hy)
        have hyl := hm3.get hy
        have hk35 : (k : Int) < 35 := by omega
        have hsg : IntKind.u64.signed = false := rfl
        have hnr := not_raw y hyl
        have hxle : 18446744073709551615 - y + 0 + n = 18446744073709551615 - y + n := by omega
        have had := call_add64 (18446744073709551615 - y) 0 n _ 0 _ rfl rfl rfl hn1
        rw [hxle] at had
        have hflip : ∀ s c', (18446744073709551615 - y + n) % 18446744073709551616 = s → (18446744073709551615 - y + n) / 18446744073709551616 = c' → s + c' * 18446744073709551616 = 18446744073709551615 - y + n ∧ s < 18446744073709551616 ∧ c' ≤ 1 := fun s c' h1 h2 => by omega
        have hnext : ∀ s c', s + c' * 18446744073709551616 = 18446744073709551615 - y + n → s < 18446744073709551616 → FlipRel w g1 g2 ns (k + 1) c' (wr.setCell ⟨g2, k, none⟩ (.int .u64 (s : Int))) := fun s c' h1 h2 => by
          refine ⟨ms.set k s, ?_, by rw [List.length_set]; exact hm2, hm3.set k h2, ?_, ?_, hm6.setOther ⟨g2, k, none⟩ _ HNE.out, hm7.setCell ⟨g2, k, none⟩ (.inr HW2.out) _⟩
          · rw [← limbCells_set]; exact hm1.set k _
          · intro j hj; rw [List.getElem?_set_ne (by omega)]; exact hm4 j (by omega)
          · have e1 : (ms.set k s)[k]? = some s := by rw [List.getElem?_set_self (by omega)]
            have e2 : (ms.set k s).take k = ms.take k := by rw [List.take_set, List.set_eq_of_length_le (by rw [List.length_take]; omega)]
            rw [toN_take e1, e2, toN_take ((hm4 k (Nat.le_refl _)).symm.trans hy), Nat.pow_succ]
            exact flip_step hm5 h1 hyl
        have hadl : 18446744073709551615 - y + n < 2 * 18446744073709551616 := by omega
        generalize 18446744073709551615 - y = ny at *
        generalize ny + n = t at *
        generalize hs : t % 18446744073709551616 = s at *
        generalize hc' : t / 18446744073709551616 = c' at *
        obtain ⟨f1, f2, f3⟩ := hflip s c' rfl rfl
        have HNX := Lib.hid (hnext s c' f1 f2)
        clear hflip hnext hs hc' f1 hadl hxle
        have HM := Lib.hid hm5
        have HM4 := Lib.hid hm4
        have hfz := hm1.free k
        clear hm5 hm4 hy
        go_wp2_with fail
        go_roundw
        case rel => exact ⟨k + 1, c', by omega, f3, rfl, by go_num, HNX.out⟩
        case measure => simp [intOf]; omega
      · obtain rfl : k = 35 := by omega
        have hms : limbCells ms ∈ [limbCells ms] := by simp
        have hszm := limbs_size ms hm2
        have HIm : Hid ((Try.prog.info? 88).map (·.size) = some (limbCells ms).toArray.size) := by rw [hszm]; exact HI.out
        have HSm : Hid ((limbCells (List.replicate 35 0)).toArray.size = (limbCells ms).toArray.size) := by rw [hszm]; rfl
        have HOm : Hid ((limbCells ms).toArray.all (·.oneCell') = true) := Go.all_oneCell_toArray (fun v hv => by
          unfold limbCells at hv; obtain ⟨x, _, rfl⟩ := List.mem_map.1 hv; rfl)
        have HB3 := Lib.hid hm1
        have HB4 := Lib.hid hm6
        have hfin : SizePost w ns (.returned (.tuple #[limbsV ms, .bool true])) (wr.setRow g1 (limbCells ms).toArray) := by
          refine ⟨ms, by rw [HT.out], hm2, hm3, ?_, hm7.setRow g1 (.inr HW1.out) _⟩
          have hN := toN_lt hm3
          rw [hm2] at hN
          rw [List.take_of_length_le (by omega), List.take_of_length_le (by omega)] at hm5
          unfold absN
          rw [HT.out, if_pos rfl]
          have hpos := pos_of_top hn HT.out
          generalize (18446744073709551616 : Nat) ^ 35 = P at *
          rcases (show n = 0 ∨ n = 1 by omega) with rfl | rfl <;> omega
        have HFin := Lib.hid hfin
        clear hfin hms hszm hm1 hm3 hm4 hm5 hm6 hm7 hlt hk hn1
        go_wp2_with (first | refine wpList_load_row rfl 88 _ rfl g2 rfl 88 (limbCells ms).toArray (0, 0) _ HB3.out Try.underlying88 rfl HIm.out ?_ | refine wpList_store_row rfl 88 _ _ rfl g1 (limbCells ms).toArray rfl rfl 88 (limbCells (List.replicate 35 0)).toArray HB4.out HIm.out HSm.out HOm.out ?_)
        refine bodyPost_ret (results_cell_tmp (by rfl) _ _ g1 88 (limbCells ms).toArray (0, 0) _ _ rfl rfl (HB4.out.setRow (limbCells ms)) Try.underlying88 rfl HIm.out) rfl ?_
        exact HFin.out
  · have hz : (x : Int) / 9223372036854775808 = 0 := by omega
    have htf : topN ns = false := by rw [htop]; simp; omega
    clear ht htop hx hxl
    go_wp2_with (first | refine wpList_load_row rfl 88 _ rfl g2 rfl 88 (limbCells ns).toArray (0, 0) _ HB2.out Try.underlying88 rfl HI3.out ?_ | refine wpList_store_row rfl 88 _ _ rfl g1 (limbCells ns).toArray rfl rfl 88 (limbCells (List.replicate 35 0)).toArray HB1.out HI3.out HSZ.out HONE.out ?_)
    refine bodyPost_ret (results_cell_tmp (by rfl) _ _ g1 88 (limbCells ns).toArray (0, 0) _ _ rfl rfl (HB1.out.setRow (limbCells ns)) Try.underlying88 rfl HI3.out) rfl ?_
    exact ⟨ns, by rw [htf]; rfl, hn, hL, by unfold absN; rw [htf]; rfl, HF2.out.setRow g1 (.inr HW1.out) _⟩
end Go.Proofs.Ytmllbdiljjimmaa
