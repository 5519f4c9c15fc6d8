/- The walks of package exact: the bits from a place on; what lies below a place. -/
import Derived.Test.YtmllbdiljjimmaaExact6
namespace Go.Proofs.Ytmllbdiljjimmaa
open Go.RowKit

theorem from_core (x y o : Nat) (hx : x < 18446744073709551616) (ho : o < 64) :
    (x / 2 ^ o) ||| (y * 2 ^ (64 - o) % 18446744073709551616) = (x + 18446744073709551616 * y) / 2 ^ o % 18446744073709551616 := by
  have hB : (18446744073709551616 : Nat) = 2 ^ (64 - o) * 2 ^ o := by rw [← Nat.pow_add, show 64 - o + o = 64 by omega]
  have hp := pow_pos2 o
  have e1 : (x + 18446744073709551616 * y) / 2 ^ o = x / 2 ^ o + 2 ^ (64 - o) * y := by
    rw [hB, Nat.mul_right_comm, Nat.add_mul_div_right _ _ hp]
  have hx2 : x / 2 ^ o < 2 ^ (64 - o) := by
    rw [Nat.div_lt_iff_lt_mul hp, ← hB]; exact hx
  have e2 : y * 2 ^ (64 - o) % 18446744073709551616 = 2 ^ (64 - o) * (y % 2 ^ o) := by
    rw [Nat.mul_comm y, hB, Nat.mul_mod_mul_left]
  have e3 : (x / 2 ^ o + 2 ^ (64 - o) * y) % 18446744073709551616 = x / 2 ^ o + 2 ^ (64 - o) * (y % 2 ^ o) := by
    have h1 : 2 ^ (64 - o) * y = 2 ^ (64 - o) * (y % 2 ^ o) + 18446744073709551616 * (y / 2 ^ o) := by
      rw [hB, Nat.mul_assoc, ← Nat.mul_add, Nat.mod_add_div]
    rw [h1, ← Nat.add_assoc, Nat.add_mul_mod_self_left]
    apply Nat.mod_eq_of_lt
    have h2 : y % 2 ^ o < 2 ^ o := Nat.mod_lt _ hp
    have h3 : 2 ^ (64 - o) * (y % 2 ^ o + 1) ≤ 2 ^ (64 - o) * 2 ^ o := Nat.mul_le_mul_left _ h2
    rw [Nat.mul_add, Nat.mul_one, ← hB] at h3
    omega
  rw [e1, e2, e3, Nat.or_comm, Nat.add_comm]
  exact (Nat.two_pow_add_eq_or_of_lt hx2 _).symm

theorem toN_at {ns : List Nat} {i x : Nat} (hl : Limbs ns) (hx : ns[i]? = some x) : ∃ r z, toN ns = r + 18446744073709551616 ^ i * (x + 18446744073709551616 * z) ∧ r < 18446744073709551616 ^ i ∧ r = toN (ns.take i) ∧ z = toN (ns.drop (i + 1)) := by
  have hk : i < ns.length := (List.getElem?_eq_some_iff.1 hx).1
  refine ⟨toN (ns.take i), toN (ns.drop (i + 1)), ?_, ?_, rfl, rfl⟩
  · rw [toN_split ns i (by omega)]
    congr 1; congr 1
    have : ns.drop i = x :: ns.drop (i + 1) := by
      rw [List.drop_eq_getElem_cons hk]
      congr 1
      have := List.getElem?_eq_getElem hk
      rw [this] at hx; cases hx; rfl
    rw [this]; rfl
  · have := toN_lt (hl.take i)
    rwa [List.length_take, Nat.min_eq_left (by omega)] at this

theorem pow_at (at' : Nat) : (2 : Nat) ^ at' = 18446744073709551616 ^ (at' / 64) * 2 ^ (at' % 64) := by
  rw [show (18446744073709551616 : Nat) = 2 ^ 64 by rfl, ← Nat.pow_mul, ← Nat.pow_add, Nat.div_add_mod]

theorem div_at {ns : List Nat} {at' x : Nat} (hl : Limbs ns) (hx : ns[at' / 64]? = some x) : toN ns / 2 ^ at' = (x + 18446744073709551616 * toN (ns.drop (at' / 64 + 1))) / 2 ^ (at' % 64) := by
  obtain ⟨r, z, h1, h2, _, h4⟩ := toN_at hl hx
  rw [h1, ← h4, pow_at at', ← Nat.div_div_eq_div_mul, Nat.add_mul_div_left _ _ (by exact Nat.pos_of_ne_zero (by intro h; rw [h] at h2; omega)), Nat.div_eq_of_lt h2, Nat.zero_add]
theorem mod_at {ns : List Nat} {at' x : Nat} (hl : Limbs ns) (hx : ns[at' / 64]? = some x) : toN ns % 2 ^ at' = toN (ns.take (at' / 64)) + 18446744073709551616 ^ (at' / 64) * (x % 2 ^ (at' % 64)) := by
  obtain ⟨r, z, h1, h2, h3, h4⟩ := toN_at hl hx
  rw [h1, ← h3, pow_at at', Nat.mod_mul, Nat.add_mul_mod_self_left, Nat.mod_eq_of_lt h2]
  congr 1; congr 1
  rw [Nat.add_mul_div_left _ _ (by exact Nat.pos_of_ne_zero (by intro h; rw [h] at h2; omega)), Nat.div_eq_of_lt h2, Nat.zero_add]
  have ho : at' % 64 < 64 := Nat.mod_lt _ (by decide)
  rw [show (18446744073709551616 : Nat) = 2 ^ (at' % 64) * 2 ^ (64 - at' % 64) by rw [← Nat.pow_add, show at' % 64 + (64 - at' % 64) = 64 by omega], Nat.mul_assoc, Nat.add_mul_mod_self_left]

theorem from_val {ns : List Nat} {at' x : Nat} (hl : Limbs ns) (hx : ns[at' / 64]? = some x) (y : Nat) (hy : y % 18446744073709551616 = toN (ns.drop (at' / 64 + 1)) % 18446744073709551616) :
    ((x / 2 ^ (at' % 64)) ||| (y * 2 ^ (64 - at' % 64) % 18446744073709551616)) % 9007199254740992 = toN ns / 2 ^ at' % 9007199254740992 := by
  have ho : at' % 64 < 64 := Nat.mod_lt _ (by decide)
  rw [from_core x y _ (hl.get hx) ho, div_at hl hx]
  generalize toN (ns.drop (at' / 64 + 1)) = z at *
  generalize at' % 64 = o at *
  have hp := pow_pos2 o
  have hB : (18446744073709551616 : Nat) = 2 ^ (64 - o) * 2 ^ o := by rw [← Nat.pow_add, show 64 - o + o = 64 by omega]
  have e1 : ∀ v, (x + 18446744073709551616 * v) / 2 ^ o = x / 2 ^ o + 2 ^ (64 - o) * v := fun v => by
    rw [hB, Nat.mul_right_comm, Nat.add_mul_div_right _ _ hp]
  rw [e1, e1]
  have e2 : ∀ v, (x / 2 ^ o + 2 ^ (64 - o) * v) % 18446744073709551616 = (x / 2 ^ o + 2 ^ (64 - o) * (v % 18446744073709551616)) % 18446744073709551616 := fun v => by
    rw [Nat.add_mod, Nat.mul_mod, ← Nat.mod_mod v, ← Nat.mul_mod, ← Nat.add_mod, Nat.mod_mod]
  have e3 : ∀ v : Nat, v % 9007199254740992 = v % 18446744073709551616 % 9007199254740992 := fun v => by omega
  rw [e3 (x / 2 ^ o + 2 ^ (64 - o) * z), e2 y, e2 z, hy]

theorem from_bits (x y o : Nat) (hx : x < 18446744073709551616) (_hy : y < 18446744073709551616) (_ho : o < 64) :
    bits .and .u64 (bits .or .u64 ((x : Int) / 2 ^ o) (IntKind.u64.wrap ((y : Int) * 2 ^ (64 - o)))) 9007199254740991 = (((x / 2 ^ o ||| y * 2 ^ (64 - o) % 18446744073709551616) % 9007199254740992 : Nat) : Int) := by
  have e1 : (x : Int) / 2 ^ o = ((x / 2 ^ o : Nat) : Int) := by rw [Int.natCast_ediv, Int.natCast_pow]; rfl
  have e2 : IntKind.u64.wrap ((y : Int) * 2 ^ (64 - o)) = ((y * 2 ^ (64 - o) % 18446744073709551616 : Nat) : Int) := by
    rw [IntKind.wrap_u64, Int.natCast_emod, Int.natCast_mul, Int.natCast_pow]; rfl
  have h1 : x / 2 ^ o < 18446744073709551616 := Nat.lt_of_le_of_lt (Nat.div_le_self _ _) hx
  have h2 : y * 2 ^ (64 - o) % 18446744073709551616 < 18446744073709551616 := Nat.mod_lt _ (by decide)
  rw [e1, e2]
  have h3 : x / 2 ^ o ||| y * 2 ^ (64 - o) % 18446744073709551616 < 18446744073709551616 := Nat.or_lt_two_pow (n := 64) h1 h2
  have h := u64_or_nat _ _ h1 h2
  rw [h]
  have h4 := u64_and_nat _ 9007199254740991 h3 (by decide)
  rw [Nat.and_two_pow_sub_one_eq_mod _ 53] at h4
  exact h4
theorem from_bits0 (x o : Nat) (hx : x < 18446744073709551616) : bits .and .u64 ((x : Int) / 2 ^ o) 9007199254740991 = ((x / 2 ^ o % 9007199254740992 : Nat) : Int) := by
  have e1 : (x : Int) / 2 ^ o = ((x / 2 ^ o : Nat) : Int) := by rw [Int.natCast_ediv, Int.natCast_pow]; rfl
  have h1 : x / 2 ^ o < 18446744073709551616 := Nat.lt_of_le_of_lt (Nat.div_le_self _ _) hx
  rw [e1]
  have h4 := u64_and_nat _ 9007199254740991 h1 (by decide)
  rw [Nat.and_two_pow_sub_one_eq_mod _ 53] at h4
  exact h4
theorem toN_zero_mem : ∀ {ns : List Nat}, toN ns = 0 → ∀ {i y : Nat}, ns[i]? = some y → y = 0
  | [], _, i, y, h => by simp at h
  | a :: ns, h0, 0, y, h => by simp at h; subst h; rw [toN] at h0; omega
  | a :: ns, h0, i + 1, y, h => by
    rw [toN] at h0
    exact toN_zero_mem (ns := ns) (by omega) (i := i) (by simpa using h)

def NatPost (w : World) (v : Nat) (e : Ending) (w' : World) : Prop := e = .returned (.int .u64 (v : Int)) ∧ Fr (fun _ => False) w w'

set_option maxRecDepth 100000 in
set_option maxHeartbeats 800000 in
theorem from_any (ns : List Nat) (hn : ns.length = 35) (hL : Limbs ns) (at' : Nat) (hat : at' < 2240) (w : World) :
    Calls Try.prog 94 #[limbsV ns, .int .i64 (at' : Int)] w (NatPost w (toN ns / 2 ^ at' % 9007199254740992)) := by
  have hi : at' / 64 < 35 := by omega
  obtain ⟨x, hx⟩ : ∃ x, ns[at' / 64]? = some x := ⟨ns[at' / 64]'(by omega), by simp⟩
  have hxl := hL.get hx
  have hfv := from_val hL hx
  unfold limbsV
  have hb0 := Blk.new w (limbCells ns) 88
  have hf0 : Fr (fun _ => False) w (w.alloc (.cells (limbCells ns).toArray 88)) := (Fr.refl _ w).alloc _
  have hdr : at' / 64 + 1 < 35 → ∃ y, ns[at' / 64 + 1]? = some y ∧ y % 18446744073709551616 = toN (ns.drop (at' / 64 + 1)) % 18446744073709551616 := fun h => by
    refine ⟨ns[at' / 64 + 1]'(by omega), by simp, ?_⟩
    rw [List.drop_eq_getElem_cons (by omega), toN, Nat.add_mul_mod_self_left]
  have hdr0 : ¬ at' / 64 + 1 < 35 → (0 : Nat) % 18446744073709551616 = toN (ns.drop (at' / 64 + 1)) % 18446744073709551616 := fun h => by
    rw [List.drop_eq_nil_of_le (by omega)]; rfl
  have q1 : (at' : Int) / 64 = ((at' / 64 : Nat) : Int) := by omega
  have q2 : (at' : Int) % 64 = ((at' % 64 : Nat) : Int) := by omega
  have q3 : at' % 64 < 64 := by omega
  generalize toN ns / 2 ^ at' % 9007199254740992 = V at *
  generalize toN (ns.drop (at' / 64 + 1)) = Z at *
  generalize at' / 64 = i at *
  generalize at' % 64 = o at *
  generalize hcs : (limbCells ns).toArray = cs at *
  generalize hw1 : w.alloc (.cells cs 88) = w1 at *
  generalize hb : w.heap.size = b at *
  have HF : Hid (Fr (fun _ => False) w w1) := hf0
  have c0 := hb0.cell i (limb_cell hx)
  have hw : wrap64 (i : Int) = i := IntWalk.wrap64_in i (by omega)
  have hs : IntKind.i64.wrap (64 - (o : Int)) = 64 - (o : Int) := IntWalk.i64_in _ (by omega)
  have hs2 : (64 - (o : Int)).toNat = 64 - o := by omega
  have hs3 : 0 ≤ 64 - (o : Int) := by omega
  have hs4 : 64 - (o : Int) ≤ 64 := by omega
  have hi2 : (i : Int) < 35 := by omega
  by_cases h1 : i + 1 < 35
  · obtain ⟨y, hy, hyz⟩ := hdr h1
    have c1 := hb0.cell (i + 1) (limb_cell hy)
    have hv := hfv y hyz
    have hyl := hL.get hy
    have h1' : (i : Int) + 1 < 35 := by omega
    have HFin : Hid (NatPost w V (.returned (.int .u64 (bits .and .u64 (bits .or .u64 ((x : Int) / 2 ^ o) (IntKind.u64.wrap ((y : Int) * 2 ^ (64 - o)))) 9007199254740991))) w1) := ⟨by rw [from_bits x y o hxl hyl q3, hv], HF.out⟩
    clear hfv hdr hdr0 hyz hb0 hf0 hx hy
    go_enter Try.func94, Try.ntmps94
    go_wp2
    go_ret
    exact HFin.out
  · have hv := hfv 0 (hdr0 h1)
    have h1' : ¬ (i : Int) + 1 < 35 := by omega
    have HFin : Hid (NatPost w V (.returned (.int .u64 (bits .and .u64 ((x : Int) / 2 ^ o) 9007199254740991))) w1) := ⟨by rw [from_bits0 x o hxl, ← hv, Nat.zero_mul, Nat.zero_mod, Nat.or_zero], HF.out⟩
    clear hfv hdr hdr0 hb0 hf0 hx
    go_enter Try.func94, Try.ntmps94
    go_wp2
    go_ret
    exact HFin.out

end Go.Proofs.Ytmllbdiljjimmaa
