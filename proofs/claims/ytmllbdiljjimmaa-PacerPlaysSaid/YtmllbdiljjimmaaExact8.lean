/- The walks of package exact: what lies below a place. -/
import Derived.Test.YtmllbdiljjimmaaExact7
namespace Go.Proofs.Ytmllbdiljjimmaa
open Go.RowKit

theorem below_core (x o : Nat) (ho : o < 64) (ho0 : 0 < o) : x * 2 ^ (63 - o) % 18446744073709551616 * 2 % 18446744073709551616 = x % 2 ^ o * 2 ^ (64 - o) := by
  have hB : (18446744073709551616 : Nat) = 2 ^ o * 2 ^ (64 - o) := by rw [← Nat.pow_add, show o + (64 - o) = 64 by omega]
  have e1 : x * 2 ^ (63 - o) % 18446744073709551616 * 2 % 18446744073709551616 = x * 2 ^ (63 - o) * 2 % 18446744073709551616 := by omega
  rw [e1, Nat.mul_assoc, ← Nat.pow_succ, show (63 - o).succ = 64 - o by omega, hB, Nat.mul_mod_mul_right]

/-- Is there a bit below? -/
def BelowPost (w : World) (v : Bool) (e : Ending) (w' : World) : Prop := e = .returned (.bool v) ∧ Fr (fun _ => False) w w'

set_option maxRecDepth 100000 in
set_option maxHeartbeats 800000 in
theorem below_any (ns : List Nat) (hn : ns.length = 35) (hL : Limbs ns) (at' : Nat) (hat : at' < 2240) (w : World) :
    Calls Try.prog 95 #[limbsV ns, .int .i64 (at' : Int)] w (BelowPost w (toN ns % 2 ^ at' != 0)) := by
  have hi : at' / 64 < 35 := by omega
  obtain ⟨x, hx⟩ : ∃ x, ns[at' / 64]? = some x := ⟨ns[at' / 64]'(by omega), by simp⟩
  have hxl := hL.get hx
  have hm := mod_at hL hx
  unfold limbsV
  have hb0 := Blk.new w (limbCells ns) 88
  have hf0 : Fr (fun _ => False) w (w.alloc (.cells (limbCells ns).toArray 88)) := (Fr.refl _ w).alloc _
  have q1 : (at' : Int) / 64 = ((at' / 64 : Nat) : Int) := by omega
  have q2 : (at' : Int) % 64 = ((at' % 64 : Nat) : Int) := by omega
  have q3 : at' % 64 < 64 := by omega
  generalize hV : (toN ns % 2 ^ at' != 0) = V at *
  generalize toN ns % 2 ^ at' = M at *
  generalize at' / 64 = i at *
  generalize at' % 64 = o at *
  generalize hcs : (limbCells ns).toArray = cs at *
  generalize hw1 : w.alloc (.cells cs 88) = w1 at *
  generalize hb : w.heap.size = b at *
  have HF : Hid (Fr (fun _ => False) w w1) := hf0
  have HB : Hid (Blk w1 b (limbCells ns) 88) := hb0
  have HM := Lib.hid hm
  have HV := Lib.hid hV
  have HX := Lib.hid hx
  clear hb0 hf0 hm hV hx
  have hw : wrap64 (i : Int) = i := IntWalk.wrap64_in i (by omega)
  have hs : IntKind.i64.wrap (63 - (o : Int)) = 63 - (o : Int) := IntWalk.i64_in _ (by omega)
  have hs2 : (63 - (o : Int)).toNat = 63 - o := by omega
  have hs3 : 0 ≤ 63 - (o : Int) := by omega
  have hs4 : 63 - (o : Int) ≤ 63 := by omega
  have hi2 : (i : Int) < 35 := by omega
  go_enter Try.func95, Try.ntmps95
  go_wp2
  go_loopw [8] (fun j wr => ∃ k : Nat, k ≤ i ∧ j = .int .i64 (k : Int) ∧ Hid (∀ l, l < k → ∀ y, ns[l]? = some y → y = 0) ∧ wr = w1) (fun j _ => i - (intOf j).toNat)
  case atStart => exact ⟨0, Nat.zero_le _, rfl, fun l hl => absurd hl (Nat.not_lt_zero _), rfl⟩
  case round =>
    obtain ⟨k, hk, rfl, hz, rfl⟩ := hrel
    by_cases hlt : k < i
    · obtain ⟨y, hy⟩ : ∃ y, ns[k]? = some y := ⟨ns[k]'(by omega), by simp⟩
      have hc := HB.out.cell k (limb_cell hy)
      have hyl := hL.get hy
      have hk35 : (k : Int) < 35 := by omega
      have hki : (k : Int) < i := by omega
      by_cases hy0 : y = 0
      · have hz' : Hid (∀ l, l < k + 1 → ∀ y, ns[l]? = some y → y = 0) := fun l hl v hv => by
          rcases Nat.lt_succ_iff_lt_or_eq.1 hl with h | rfl
          · exact hz l h v hv
          · rw [hy] at hv; cases hv; exact hy0
        subst hy0
        clear hy
        go_wp2
        go_roundw
        case rel => exact ⟨k + 1, by omega, by go_num, hz', trivial⟩
        case measure => simp [intOf]; omega
      · have hgt : decide ((y : Int) > 0) = true := by simp; omega
        have hV1 : V = true := by
          rw [← HV.out, bne_iff_ne, HM.out]
          have : toN (ns.take i) ≠ 0 := fun h0 => hy0 (toN_zero_mem h0 (by rw [List.getElem?_take, if_pos hlt]; exact hy))
          omega
        subst hV1
        clear hy
        go_wp2
        go_ret
        exact ⟨rfl, HF.out⟩
    · obtain rfl : k = i := by omega
      have hc := HB.out.cell k (limb_cell HX.out)
      have ht : toN (ns.take k) = 0 := toN_allzero _ (fun y hy => by
        obtain ⟨j, hj⟩ := List.mem_iff_getElem?.1 hy
        rw [List.getElem?_take] at hj
        split at hj
        · exact hz j ‹_› y hj
        · cases hj)
      have hV2 := HV.out
      rw [HM.out, ht, Nat.zero_add] at hV2
      have hZ0 : ∀ Z : Nat, x * 2 ^ (63 - o) % 18446744073709551616 * 2 % 18446744073709551616 = Z → (Z = 0 ∧ V = false) ∨ (0 < Z ∧ 0 < o ∧ V = true) := by
        intro Z hZ
        rcases Nat.eq_zero_or_pos o with rfl | ho
        · exact .inl ⟨by rw [← hZ]; omega, by rw [← hV2]; simp [Nat.mod_one]⟩
        · rw [below_core x o q3 ho] at hZ
          by_cases h0 : x % 2 ^ o = 0
          · exact .inl ⟨by rw [← hZ, h0, Nat.zero_mul], by rw [← hV2, h0]; rfl⟩
          · refine .inr ⟨by rw [← hZ]; exact Nat.mul_pos (by omega) (pow_pos2 _), ho, ?_⟩
            rw [← hV2, bne_iff_ne]
            exact Nat.mul_ne_zero (by exact Nat.pos_iff_ne_zero.1 (Nat.pow_pos (by decide))) h0
      have eZ : IntKind.u64.wrap (IntKind.u64.wrap ((x : Int) * 2 ^ (63 - o)) * 2) = ((x * 2 ^ (63 - o) % 18446744073709551616 * 2 % 18446744073709551616 : Nat) : Int) := by
        rw [IntKind.wrap_u64, IntKind.wrap_u64, Int.natCast_emod, Int.natCast_mul, Int.natCast_emod, Int.natCast_mul, Int.natCast_pow]; rfl
      generalize x * 2 ^ (63 - o) % 18446744073709551616 * 2 % 18446744073709551616 = Z at *
      clear hV2 ht hz
      rcases hZ0 Z rfl with ⟨rfl, rfl⟩ | ⟨hZ1, ho1, rfl⟩
      · have eZ' : IntKind.u64.wrap (IntKind.u64.wrap ((x : Int) * 2 ^ (63 - o)) * 2) = 0 := eZ
        clear eZ hZ0 hk hlt hi q3 hn hL hat hxl
        go_wp2
        go_ret
        exact ⟨rfl, HF.out⟩
      · have hgt : decide ((Z : Int) > 0) = true := by simp; omega
        have hgo : decide ((o : Int) > 0) = true := by simp; omega
        have HO := Lib.hid ho1
        clear hZ0 hk hlt hi q3 hn hL hat hxl
        go_wp2
        go_ret
        first | exact ⟨rfl, HF.out⟩ | exact ⟨by simp [HO.out], HF.out⟩
end Go.Proofs.Ytmllbdiljjimmaa
