/- The walks of package exact: Merge, Count; what nobody made. -/
import Derived.Test.YtmllbdiljjimmaaExact12
namespace Go.Proofs.Ytmllbdiljjimmaa
open Go.RowKit

set_option maxRecDepth 100000 in
set_option maxHeartbeats 400000 in
theorem count_nil (w : World) : Calls Try.prog 22 #[.pointer none] w fun e w' => e = .returned (.int .i64 0) ∧ w = w' := by
  go_enter Try.func22, Try.ntmps22
  go_wp2
  go_ret
  exact ⟨rfl, rfl⟩
set_option maxRecDepth 100000 in
set_option maxHeartbeats 400000 in
theorem count_any (b : Nat) (made : Bool) (ns : List Nat) (nan plus minus : Bool) (count zeroes : Int) (w : World) (h : SumB w b made ns nan plus minus count zeroes) :
    Calls Try.prog 22 #[.pointer (some ⟨b, 0, none⟩)] w fun e w' => e = .returned (.int .i64 count) ∧ w = w' := by
  have c := h.cCount
  clear h
  go_enter Try.func22, Try.ntmps22
  go_wp2
  go_ret
  exact ⟨rfl, rfl⟩
set_option maxRecDepth 100000 in
set_option maxHeartbeats 400000 in
theorem add_nil (f : Nat) (w : World) : Calls Try.prog 21 #[.pointer none, .float .f64 f] w fun e w' => e = .returned (.tuple #[]) ∧ w = w' := by
  go_enter Try.func21, Try.ntmps21
  go_wp2
  exact bodyPost_ret (results_none rfl _ _ _) rfl ⟨rfl, rfl⟩
set_option maxRecDepth 100000 in
set_option maxHeartbeats 400000 in
theorem merge_nil1 (p : Option Addr) (w : World) : Calls Try.prog 29 #[.pointer none, .pointer p] w fun e w' => e = .returned (.tuple #[]) ∧ w = w' := by
  go_enter Try.func29, Try.ntmps29
  go_wp2
  exact bodyPost_ret (results_none rfl _ _ _) rfl ⟨rfl, rfl⟩
set_option maxRecDepth 100000 in
set_option maxHeartbeats 400000 in
theorem merge_nil2 (b : Nat) (made : Bool) (ns : List Nat) (nan plus minus : Bool) (count zeroes : Int) (w : World) (h : SumB w b made ns nan plus minus count zeroes) : Calls Try.prog 29 #[.pointer (some ⟨b, 0, none⟩), .pointer none] w fun e w' => e = .returned (.tuple #[]) ∧ w = w' := by
  have c := h.c0
  clear h
  cases made
  all_goals
    go_enter Try.func29, Try.ntmps29
    go_wp2
    exact bodyPost_ret (results_none rfl _ _ _) rfl ⟨rfl, rfl⟩

/-- The words of two sums, put together as far as place k. -/
def MergeRel (w : World) (b : Nat) (ns ms : List Nat) (nan plus minus : Bool) (count zeroes : Int) (k c : Nat) (wr : World) : Prop :=
  ∃ ks, SumB wr b true ks nan plus minus count zeroes ∧ (∀ j, k ≤ j → ks[j]? = ns[j]?) ∧ toN (ks.take k) + c * 18446744073709551616 ^ k = toN (ns.take k) + toN (ms.take k) ∧ Fr (fun k => k = b) w wr

theorem merge_step {T S N x y s c c' P : Nat} (h : T + c * P = N) (hs : s + c' * 18446744073709551616 = x + y + c) : (T + P * s) + c' * (P * 18446744073709551616) = N + P * x + P * y + S - S := by
  have e : P * (s + c' * 18446744073709551616) = P * (x + y + c) := by rw [hs]
  rw [Nat.mul_add, Nat.mul_add, Nat.mul_add, Nat.mul_comm P c, ← Nat.mul_assoc, Nat.mul_comm P c', Nat.mul_assoc] at e
  omega

/-- Behind a merge. -/
def MergePost (w : World) (b : Nat) (ns ms : List Nat) (nan plus minus : Bool) (count zeroes : Int) (w' : World) : Prop :=
  ∃ ks, SumB w' b true ks nan plus minus count zeroes ∧ toN ks = (toN ns + toN ms) % M35 ∧ Fr (fun k => k = b) w w'

set_option maxRecDepth 100000 in
set_option maxHeartbeats 3200000 in
theorem merge_core (b o : Nat) (hne : b ≠ o) (made : Bool) (ns ms : List Nat) (nan plus minus nan2 plus2 minus2 N P M : Bool) (HN : Hid (N = (nan || nan2))) (HP : Hid (P = (plus || plus2))) (HM : Hid (M = (minus || minus2))) (count zeroes count2 zeroes2 : Int) (w : World)
    (h : SumB w b true ns nan plus minus count zeroes) (h2 : SumB w o made ms nan2 plus2 minus2 count2 zeroes2)
    (hb1 : 0 ≤ count) (hb2 : count < 4611686018427387904) (hb3 : 0 ≤ count2) (hb4 : count2 < 4611686018427387904) (hb5 : 0 ≤ zeroes) (hb6 : zeroes < 4611686018427387904) (hb7 : 0 ≤ zeroes2) (hb8 : zeroes2 < 4611686018427387904) :
    Calls Try.prog 29 #[.pointer (some ⟨b, 0, none⟩), .pointer (some ⟨o, 0, none⟩)] w fun e w' => e = .returned (.tuple #[]) ∧ MergePost w b ns ms N P M (count + count2) (zeroes + zeroes2) w' := by
  have c0 := h.c0
  have HNE := Lib.hid hne
  have HS := Lib.hid h
  have HO := Lib.hid h2
  have hn := h.2.1
  have hm := h2.2.1
  clear hne h h2
  go_enter Try.func29, Try.ntmps29
  go_wp2_with fail
  go_loopw [4, 19] (fun c i wr => ∃ k n : Nat, k ≤ 35 ∧ n ≤ 1 ∧ c = .int .u64 (n : Int) ∧ i = .int .i64 (k : Int) ∧ MergeRel w b ns ms nan plus minus count zeroes k n wr) (fun _ i _ => 35 - (intOf i).toNat)
  case atStart => exact ⟨0, 0, by omega, by omega, rfl, rfl, ns, HS.out, fun _ _ => rfl, by simp [toN], Fr.refl _ _⟩
  case round =>
    obtain ⟨k, n, hk, hn1, rfl, rfl, ks, k1, k2, k3, k4⟩ := hrel
    clear c0
    by_cases hlt : k < 35
    · have k5 := k2 k (Nat.le_refl _)
      obtain ⟨x, hx⟩ : ∃ x, ns[k]? = some x := ⟨ns[k]'(by omega), by simp⟩
      obtain ⟨y, hy⟩ : ∃ y, ms[k]? = some y := ⟨ms[k]'(by omega), by simp⟩
      have hx1 := k5.trans hx
      have c1 := k1.limb hx1
      have hO : SumB wr o made ms nan2 plus2 minus2 count2 zeroes2 := ⟨HO.out.1.frame k4 (fun e => HNE.out e.symm), HO.out.2⟩
      have c2 := hO.limb hy
      have f1 := k1.1.free (1 + k)
      have hk35 : (k : Int) < 35 := by omega
      have a1 := call_add64 x y n _ _ _ rfl rfl rfl hn1
      have hxl := HS.out.2.2.get hx
      have hyl := HO.out.2.2.get hy
      generalize hs : (x + y + n) % 18446744073709551616 = s at a1
      generalize hc : (x + y + n) / 18446744073709551616 = c at a1
      have hsl : s < 18446744073709551616 := by omega
      have hcl : c ≤ 1 := by omega
      have hnew : MergeRel w b ns ms nan plus minus count zeroes (k + 1) c ((wr.setCell ⟨b, 1 + k, none⟩ (.int .u64 (s : Int))).drew) := by
        have hl := k1.2.1
        refine ⟨ks.set k s, (k1.set (by omega) hsl).drew, fun j hj => ?_, ?_, (k4.setCell ⟨b, 1 + k, none⟩ (.inl rfl) _).drew⟩
        · rw [List.getElem?_set_ne (by omega)]; exact k2 j (by omega)
        · have e1 : (ks.set k s)[k]? = some s := by rw [List.getElem?_set_self (by omega)]
          have e2 : (ks.set k s).take k = ks.take k := by rw [List.take_set, List.set_eq_of_length_le (by rw [List.length_take]; omega)]
          rw [toN_take e1, e2, toN_take hx, toN_take hy, Nat.pow_succ]
          have := merge_step (S := 0) k3 (show s + c * 18446744073709551616 = x + y + n by omega)
          omega
      have HN := Lib.hid hnew
      clear hnew hs hc hx hy hx1 k5 k2 k3 k4 k1 hO
      go_wp2_with fail
      go_region
      go_wp2
      go_roundw
      case rel => exact ⟨k + 1, c, by omega, hcl, rfl, by go_num, HN.out⟩
      case measure => simp [intOf]; omega
    · obtain rfl : k = 35 := by omega
      have hO : SumB wr o made ms nan2 plus2 minus2 count2 zeroes2 := ⟨HO.out.1.frame k4 (fun e => HNE.out e.symm), HO.out.2⟩
      have HK : Hid (toN ks = (toN ns + toN ms) % M35) := by
        have hl := toN_lt k1.2.2
        rw [k1.2.1] at hl
        rw [List.take_of_length_le (by rw [k1.2.1]; omega), List.take_of_length_le (by omega), List.take_of_length_le (by omega)] at k3
        exact mod_of_carry hl k3
      have hne1 : b ≠ o := HNE.out
      have g1 := k1.cNan
      have q1 := hO.cNan
      have f1 := k1.1.free 36
      have HK1 := Lib.hid k1
      have HK4 := Lib.hid k4
      have HO1 := Lib.hid hO
      clear k1 k2 k3 k4 hO hlt hk hn1
      cases nan
      all_goals
        go_upto_region 8 with fail
        generalize hW : wr.setCell ⟨b, 36, none⟩ _ = w2
        have s1 : SumB w2 b true ks N plus minus count zeroes := by rw [← hW, HN.out]; exact HK1.out.setNan _
        have hf1 : Fr (fun k => k = b) wr w2 := by rw [← hW]; exact (Fr.refl (fun k => k = b) wr).setCell ⟨b, 36, none⟩ (.inl rfl) _
        have HK2 := Lib.hid s1
        have HK5 : Hid (Fr (fun k => k = b) w w2) := HK4.out.trans hf1 (fun i hi => .inl hi)
        have HO2 : Hid (SumB w2 o made ms nan2 plus2 minus2 count2 zeroes2) := ⟨HO1.out.1.frame hf1 (fun e => HNE.out e.symm), HO1.out.2⟩
        clear hW g1 q1 f1 hf1
        have g1 := s1.cPlus
        have q1 := HO2.out.cPlus
        have f1 := s1.1.free 37
        clear s1
        cases plus
      all_goals
        go_upto_region 9 with fail
        generalize hW : w2.setCell ⟨b, 37, none⟩ _ = w3
        have s1 : SumB w3 b true ks N P minus count zeroes := by rw [← hW, HP.out]; exact HK2.out.setPlus _
        have hf1 : Fr (fun k => k = b) w2 w3 := by rw [← hW]; exact (Fr.refl (fun k => k = b) w2).setCell ⟨b, 37, none⟩ (.inl rfl) _
        have HK3 := Lib.hid s1
        have HK6 : Hid (Fr (fun k => k = b) w w3) := HK5.out.trans hf1 (fun i hi => .inl hi)
        have HO3 : Hid (SumB w3 o made ms nan2 plus2 minus2 count2 zeroes2) := ⟨HO2.out.1.frame hf1 (fun e => HNE.out e.symm), HO2.out.2⟩
        clear hW g1 q1 f1 hf1
        have g1 := s1.cMinus
        have q1 := HO3.out.cMinus
        have f1 := s1.1.free 38
        clear s1
        cases minus
      all_goals
        go_upto_region 10 with fail
        generalize hW : w3.setCell ⟨b, 38, none⟩ _ = w4
        have s1 : SumB w4 b true ks N P M count zeroes := by rw [← hW, HM.out]; exact HK3.out.setMinus _
        have hf1 : Fr (fun k => k = b) w3 w4 := by rw [← hW]; exact (Fr.refl (fun k => k = b) w3).setCell ⟨b, 38, none⟩ (.inl rfl) _
        have HK7 : Hid (Fr (fun k => k = b) w w4) := HK6.out.trans hf1 (fun i hi => .inl hi)
        have HO4 : Hid (SumB w4 o made ms nan2 plus2 minus2 count2 zeroes2) := ⟨HO3.out.1.frame hf1 (fun e => HNE.out e.symm), HO3.out.2⟩
        clear hW g1 q1 f1 hf1
        have g1 := s1.cCount
        have q1 := HO4.out.cCount
        have f1 := s1.1.free 39
        have HS4 := Lib.hid s1
        clear s1 HO3 HO2 HO1 HK5 HK6 HK4 HK3 HK2 HK1
        go_region
        go_upto_region 11 with fail
        generalize hW : (w4.setCell ⟨b, 39, none⟩ _).drew = w5
        have s1 : SumB w5 b true ks N P M (count + count2) zeroes := by rw [← hW]; exact (HS4.out.setCount _).drew
        have hf1 : Fr (fun k => k = b) w4 w5 := by rw [← hW]; exact ((Fr.refl (fun k => k = b) w4).setCell ⟨b, 39, none⟩ (.inl rfl) _).drew
        have HK8 : Hid (Fr (fun k => k = b) w w5) := HK7.out.trans hf1 (fun i hi => .inl hi)
        have HO5 : Hid (SumB w5 o made ms nan2 plus2 minus2 count2 zeroes2) := ⟨HO4.out.1.frame hf1 (fun e => HNE.out e.symm), HO4.out.2⟩
        clear hW g1 q1 f1 hf1
        have g1 := s1.cZeroes
        have q1 := HO5.out.cZeroes
        have f1 := s1.1.free 40
        have HS5 := Lib.hid s1
        clear s1 HO4 HK7 HS4
        go_region
        go_wp2
        go_end0
        exact ⟨rfl, ks, (HS5.out.setZeroes _).drew, HK.out, (HK8.out.setCell ⟨b, 40, none⟩ (.inl rfl) _).drew⟩

theorem merge_any (b o : Nat) (hne : b ≠ o) (made : Bool) (ns ms : List Nat) (nan plus minus nan2 plus2 minus2 : Bool) (count zeroes count2 zeroes2 : Int) (w : World)
    (h : SumB w b true ns nan plus minus count zeroes) (h2 : SumB w o made ms nan2 plus2 minus2 count2 zeroes2)
    (hb1 : 0 ≤ count) (hb2 : count < 4611686018427387904) (hb3 : 0 ≤ count2) (hb4 : count2 < 4611686018427387904) (hb5 : 0 ≤ zeroes) (hb6 : zeroes < 4611686018427387904) (hb7 : 0 ≤ zeroes2) (hb8 : zeroes2 < 4611686018427387904) :
    Calls Try.prog 29 #[.pointer (some ⟨b, 0, none⟩), .pointer (some ⟨o, 0, none⟩)] w fun e w' => e = .returned (.tuple #[]) ∧ MergePost w b ns ms (nan || nan2) (plus || plus2) (minus || minus2) (count + count2) (zeroes + zeroes2) w' :=
  merge_core b o hne made ns ms nan plus minus nan2 plus2 minus2 _ _ _ rfl rfl rfl count zeroes count2 zeroes2 w h h2 hb1 hb2 hb3 hb4 hb5 hb6 hb7 hb8

def Got.merge (g h : Got) : Got := ⟨g.total + h.total, g.nan || h.nan, g.plus || h.plus, g.minus || h.minus, g.count + h.count, g.zeroes + h.zeroes⟩

theorem merge_got (b o : Nat) (hne : b ≠ o) (g k : Got) (w : World) (h : SumG w b g) (h2 : SumG w o k) (hb1 : g.count < 4611686018427387904) (hb2 : k.count < 4611686018427387904) (hb3 : g.zeroes ≤ g.count) (hb4 : k.zeroes ≤ k.count) :
    Calls Try.prog 29 #[.pointer (some ⟨b, 0, none⟩), .pointer (some ⟨o, 0, none⟩)] w fun e w' => e = .returned (.tuple #[]) ∧ SumG w' b (g.merge k) ∧ SumG w' o k ∧ Fr (fun k => k = b) w w' := by
  have h2' := h2
  obtain ⟨ns, hs, ht⟩ := h
  obtain ⟨ms, hs2, ht2⟩ := h2
  refine (merge_any b o hne true ns ms g.nan g.plus g.minus k.nan k.plus k.minus g.count g.zeroes k.count k.zeroes w hs hs2 (by omega) (by omega) (by omega) (by omega) (by omega) (by omega) (by omega) (by omega)).mono ?_
  rintro e w' ⟨he, ks, a1, a2, a3⟩
  refine ⟨he, ⟨ks, by unfold Got.merge; rw [Int.natCast_add, Int.natCast_add]; exact a1, ?_⟩, h2'.frame a3 (fun e => hne e.symm), a3⟩
  rw [a2, Int.natCast_emod, Int.natCast_add, ht, ht2]
  unfold Got.merge
  dsimp only
  rw [← Int.add_emod]

theorem count_got (b : Nat) (g : Got) (w : World) (h : SumG w b g) : Calls Try.prog 22 #[.pointer (some ⟨b, 0, none⟩)] w fun e w' => e = .returned (.int .i64 (g.count : Int)) ∧ w = w' := by
  obtain ⟨ns, hs, _⟩ := h
  exact count_any b true ns _ _ _ _ _ w hs

/-- The whole of what came, as bits. -/
noncomputable def Got.whole (g : Got) : Nat :=
  if g.nan || (g.plus && g.minus) then 9221120237041090560 else if g.plus then 9218868437227405312 else if g.minus then 18442240474082181120
  else if g.total < 0 ∨ (0 < g.count ∧ g.zeroes = g.count) then rnd g.total.natAbs + 9223372036854775808 else rnd g.total.natAbs
end Go.Proofs.Ytmllbdiljjimmaa
