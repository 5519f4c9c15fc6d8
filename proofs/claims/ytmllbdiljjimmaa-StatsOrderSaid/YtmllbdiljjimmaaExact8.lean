/- The walks of package exact: the length of a number, what lies below a place, the bits from a place on. -/
import Derived.Test.YtmllbdiljjimmaaExact3
import Derived.Test.YtmllbdiljjimmaaShelf
import Derived.Deep.MidRow
namespace Go.Proofs.Ytmllbdiljjimmaa
open Go.RowKit

theorem toN_split : ∀ (ns : List Nat) (k : Nat), k ≤ ns.length → toN ns = toN (ns.take k) + 18446744073709551616 ^ k * toN (ns.drop k)
  | ns, 0, _ => by simp [toN]
  | [], k + 1, h => by simp at h
  | a :: ns, k + 1, h => by
    have ih := toN_split ns k (by simpa using h)
    rw [List.take_succ_cons, List.drop_succ_cons, toN, toN, ih, Nat.pow_succ, Nat.mul_add, Nat.mul_comm (18446744073709551616 ^ k) 18446744073709551616, Nat.mul_assoc]
    omega
theorem toN_allzero : ∀ (ns : List Nat), (∀ x ∈ ns, x = 0) → toN ns = 0
  | [], _ => rfl
  | a :: ns, h => by rw [toN, toN_allzero ns (fun x hx => h x (List.mem_cons_of_mem _ hx)), h a List.mem_cons_self]
theorem Limbs.take {ns : List Nat} (h : Limbs ns) (k : Nat) : Limbs (ns.take k) := fun x hx => h x (List.mem_of_mem_take hx)

/-- How many bits a number has. -/
def IsLen (N L : Nat) : Prop := N < 2 ^ L ∧ (0 < L → 2 ^ (L - 1) ≤ N)

theorem bitLen_is (x : Nat) (h0 : x ≠ 0) (h : x < 18446744073709551616) : IsLen x (Lib.bitLen x) ∧ 0 < Lib.bitLen x ∧ Lib.bitLen x ≤ 64 := by
  have key : ∀ (f x : Nat), x ≠ 0 → x < 2 ^ f → f ≤ 64 → IsLen x (Lib.bitLen x) ∧ 0 < Lib.bitLen x := by
    intro f
    induction f with
    | zero => intro x h0 h _; simp at h; omega
    | succ f ih =>
      intro x h0 h hf
      have h64 : x < 2 ^ 64 := Nat.lt_of_lt_of_le h (Nat.pow_le_pow_right (by decide) hf)
      rw [Lib.bitLen_half x h0 h64]
      by_cases h1 : x / 2 = 0
      · have : x = 1 := by omega
        subst this
        exact ⟨⟨by decide, by decide⟩, by omega⟩
      · obtain ⟨⟨a, b⟩, c⟩ := ih (x / 2) h1 (by rw [Nat.pow_succ] at h; omega) (by omega)
        have hb := b c
        refine ⟨⟨?_, fun _ => ?_⟩, by omega⟩
        · rw [Nat.add_comm, Nat.pow_succ]; omega
        · rw [show 1 + Lib.bitLen (x / 2) - 1 = (Lib.bitLen (x / 2) - 1) + 1 by omega, Nat.pow_succ]; omega
  have := key 64 x h0 h (Nat.le_refl _)
  exact ⟨this.1, this.2, Lib.bitLen_le x 64 (Nat.le_refl _) h⟩

/-- The limbs from k on are zero. -/
def ZeroFrom (ns : List Nat) (k : Nat) : Prop := ∀ j, k ≤ j → ∀ x, ns[j]? = some x → x = 0
theorem ZeroFrom.toN {ns : List Nat} {k : Nat} (h : ZeroFrom ns k) (hk : k ≤ ns.length) : toN ns = toN (ns.take k) := by
  rw [toN_split ns k hk, toN_allzero (ns.drop k), Nat.mul_zero, Nat.add_zero]
  intro x hx
  obtain ⟨j, hj⟩ := List.mem_iff_getElem?.1 hx
  rw [List.getElem?_drop] at hj
  exact h (k + j) (by omega) x hj

theorem len_at {ns : List Nat} {k x : Nat} (hl : Limbs ns) (h : ZeroFrom ns (k + 1)) (hx : ns[k]? = some x) (hx0 : x ≠ 0) : IsLen (toN ns) (64 * k + Lib.bitLen x) := by
  have hk : k < ns.length := (List.getElem?_eq_some_iff.1 hx).1
  have hxl := hl.get hx
  obtain ⟨⟨a, b⟩, c, d⟩ := bitLen_is x hx0 hxl
  have hb := b c
  rw [h.toN hk, toN_split (ns.take (k + 1)) k (by rw [List.length_take]; omega)]
  have e1 : (ns.take (k + 1)).take k = ns.take k := by rw [List.take_take]; congr 1; omega
  have e2 : (ns.take (k + 1)).drop k = [x] := by
    rw [List.take_add_one, hx, Option.toList_some, List.drop_append, List.length_take, List.drop_eq_nil_of_le (by rw [List.length_take]; omega), show k - min k ns.length = 0 by omega]; rfl
  have e3 := toN_lt (hl.take k)
  rw [List.length_take, Nat.min_eq_left (by omega)] at e3
  rw [e1, e2]
  simp only [toN, Nat.mul_zero, Nat.add_zero]
  have hp : (18446744073709551616 : Nat) ^ k = 2 ^ (64 * k) := by rw [Nat.pow_mul]
  rw [hp] at e3 ⊢
  generalize toN (ns.take k) = r at *
  refine ⟨?_, fun _ => ?_⟩
  · rw [Nat.pow_add]
    have : 2 ^ (64 * k) * (x + 1) ≤ 2 ^ (64 * k) * 2 ^ Lib.bitLen x := Nat.mul_le_mul_left _ a
    rw [Nat.mul_add, Nat.mul_one] at this
    omega
  · rw [show 64 * k + Lib.bitLen x - 1 = 64 * k + (Lib.bitLen x - 1) by omega, Nat.pow_add]
    have : 2 ^ (64 * k) * 2 ^ (Lib.bitLen x - 1) ≤ 2 ^ (64 * k) * x := Nat.mul_le_mul_left _ hb
    omega

def limbCells (ns : List Nat) : List Value := ns.map (fun n : Nat => Value.int .u64 (n : Int))
/-- The limbs as one value. -/
def limbsV (ns : List Nat) : Value := .agg (limbCells ns).toArray
theorem limb_cell {ns : List Nat} {i x : Nat} (h : ns[i]? = some x) : (limbCells ns)[i]? = some (.int .u64 (x : Int)) := by
  unfold limbCells; rw [List.getElem?_map, h]; rfl

def LenPost (w : World) (ns : List Nat) (e : Ending) (w' : World) : Prop := ∃ L : Nat, e = .returned (.int .i64 (L : Int)) ∧ L ≤ 2240 ∧ IsLen (toN ns) L ∧ Fr (fun _ => False) w w'

set_option maxRecDepth 100000 in
set_option maxHeartbeats 800000 in
theorem length_any (ns : List Nat) (hn : ns.length = 35) (hL : Limbs ns) (w : World) :
    Calls Try.prog 77 #[limbsV ns] w (LenPost w ns) := by
  unfold limbsV
  have hb0 := Blk.new w (limbCells ns) 88
  have hf0 : Fr (fun _ => False) w (w.alloc (.cells (limbCells ns).toArray 88)) := (Fr.refl _ w).alloc _
  generalize hcs : (limbCells ns).toArray = cs at *
  generalize hw1 : w.alloc (.cells cs 88) = w1 at *
  generalize hb : w.heap.size = b at *
  have HB : Hid (Blk w1 b (limbCells ns) 88) := hb0
  have HF : Hid (Fr (fun _ => False) w w1) := hf0
  clear hb0 hf0
  go_enter Try.func77, Try.ntmps77
  go_wp2
  go_loopw [3] (fun i wr => ∃ k : Nat, k ≤ 35 ∧ i = .int .i64 ((k : Int) - 1) ∧ ZeroFrom ns k ∧ wr = w1) (fun i _ => (intOf i + 1).toNat)
  case atStart => exact ⟨35, Nat.le_refl _, rfl, fun j hj x hx => by have := (List.getElem?_eq_some_iff.1 hx).1; omega, rfl⟩
  case round =>
    obtain ⟨k, hk, rfl, hz, rfl⟩ := hrel
    rcases Nat.eq_zero_or_pos k with rfl | hk0
    · have hfin : LenPost w ns (.returned (.int .i64 ((0 : Nat) : Int))) wr := ⟨0, rfl, by omega, by
        have h0 : toN ns = 0 := by rw [hz.toN (by omega)]; rfl
        rw [h0]; exact ⟨by decide, by decide⟩, HF.out⟩
      go_wp2
      go_ret
      exact hfin
    · obtain ⟨j, rfl⟩ : ∃ j, k = j + 1 := ⟨k - 1, by omega⟩
      rw [show ((j + 1 : Nat) : Int) - 1 = (j : Int) by omega]
      obtain ⟨x, hx⟩ : ∃ x, ns[j]? = some x := ⟨ns[j]'(by omega), by simp⟩
      have hc := HB.out.cell j (limb_cell hx)
      have hxl := hL.get hx
      have hj35 : (j : Int) < 35 := by omega
      by_cases hx0 : x = 0
      · have hz' : Hid (ZeroFrom ns j) := fun i hi y hy => by
          rcases Nat.eq_or_lt_of_le hi with rfl | hi
          · rw [hx] at hy; cases hy; exact hx0
          · exact hz i hi y hy
        subst hx0
        clear hx hz
        go_wp2
        go_roundw
        case rel => exact ⟨j, by omega, by go_num, hz'.out, trivial⟩
        case measure => simp [intOf]
      · have hl := len_at hL hz hx hx0
        obtain ⟨_, hbl0, hbl⟩ := bitLen_is x hx0 hxl
        have hcall := Try.bits_Len64 (x : Int) wr (by omega) (by omega)
        rw [Int.toNat_natCast] at hcall
        generalize Lib.bitLen x = L at *
        have HC := Lib.hid hcall
        have hfin : LenPost w ns (.returned (.int .i64 ((64 * j + L : Nat) : Int))) wr := ⟨_, rfl, by omega, hl, HF.out⟩
        have hgt : decide ((x : Int) > 0) = true := by simp; omega
        have e : ((64 * j + L : Nat) : Int) = 64 * (j : Int) + L := by omega
        rw [e] at hfin
        clear hcall hl hx hz e
        go_wp2_with fail
        refine (HC.out).mono ?_
        rintro e w2 ⟨rfl, hw2⟩
        subst hw2
        go_wp2
        go_ret
        exact hfin
end Go.Proofs.Ytmllbdiljjimmaa

/- The walks of package exact: the bits from a place on; what lies below a place. -/
namespace Go.Proofs.Ytmllbdiljjimmaa
open Go.RowKit

theorem from_core (x y o : Nat) (hx : x < 18446744073709551616) (ho : o < 64) :
    (x / 2 ^ o) ||| (y * 2 ^ (64 - o) % 18446744073709551616) = (x + 18446744073709551616 * y) / 2 ^ o % 18446744073709551616 := by
  have hB : (18446744073709551616 : Nat) = 2 ^ (64 - o) * 2 ^ o := by rw [← Nat.pow_add, show 64 - o + o = 64 by omega]
  have hp := pow_pos2 o
  have e1 : (x + 18446744073709551616 * y) / 2 ^ o = x / 2 ^ o + 2 ^ (64 - o) * y := by
    rw [hB, Nat.mul_right_comm, Nat.add_mul_div_right _ _ hp]
  have hx2 : x / 2 ^ o < 2 ^ (64 - o) := by
    rw [Nat.div_lt_iff_lt_mul hp, ← hB]; exact hx
  have e2 : y * 2 ^ (64 - o) % 18446744073709551616 = 2 ^ (64 - o) * (y % 2 ^ o) := by
    rw [Nat.mul_comm y, hB, Nat.mul_mod_mul_left]
  have e3 : (x / 2 ^ o + 2 ^ (64 - o) * y) % 18446744073709551616 = x / 2 ^ o + 2 ^ (64 - o) * (y % 2 ^ o) := by
    have h1 : 2 ^ (64 - o) * y = 2 ^ (64 - o) * (y % 2 ^ o) + 18446744073709551616 * (y / 2 ^ o) := by
      rw [hB, Nat.mul_assoc, ← Nat.mul_add, Nat.mod_add_div]
    rw [h1, ← Nat.add_assoc, Nat.add_mul_mod_self_left]
    apply Nat.mod_eq_of_lt
    have h2 : y % 2 ^ o < 2 ^ o := Nat.mod_lt _ hp
    have h3 : 2 ^ (64 - o) * (y % 2 ^ o + 1) ≤ 2 ^ (64 - o) * 2 ^ o := Nat.mul_le_mul_left _ h2
    rw [Nat.mul_add, Nat.mul_one, ← hB] at h3
    omega
  rw [e1, e2, e3, Nat.or_comm, Nat.add_comm]
  exact (Nat.two_pow_add_eq_or_of_lt hx2 _).symm

theorem toN_at {ns : List Nat} {i x : Nat} (hl : Limbs ns) (hx : ns[i]? = some x) : ∃ r z, toN ns = r + 18446744073709551616 ^ i * (x + 18446744073709551616 * z) ∧ r < 18446744073709551616 ^ i ∧ r = toN (ns.take i) ∧ z = toN (ns.drop (i + 1)) := by
  have hk : i < ns.length := (List.getElem?_eq_some_iff.1 hx).1
  refine ⟨toN (ns.take i), toN (ns.drop (i + 1)), ?_, ?_, rfl, rfl⟩
  · rw [toN_split ns i (by omega)]
    congr 1; congr 1
    have : ns.drop i = x :: ns.drop (i + 1) := by
      rw [List.drop_eq_getElem_cons hk]
      congr 1
      have := List.getElem?_eq_getElem hk
      rw [this] at hx; cases hx; rfl
    rw [this]; rfl
  · have := toN_lt (hl.take i)
    rwa [List.length_take, Nat.min_eq_left (by omega)] at this

theorem pow_at (at' : Nat) : (2 : Nat) ^ at' = 18446744073709551616 ^ (at' / 64) * 2 ^ (at' % 64) := by
  rw [show (18446744073709551616 : Nat) = 2 ^ 64 by rfl, ← Nat.pow_mul, ← Nat.pow_add, Nat.div_add_mod]

theorem div_at {ns : List Nat} {at' x : Nat} (hl : Limbs ns) (hx : ns[at' / 64]? = some x) : toN ns / 2 ^ at' = (x + 18446744073709551616 * toN (ns.drop (at' / 64 + 1))) / 2 ^ (at' % 64) := by
  obtain ⟨r, z, h1, h2, _, h4⟩ := toN_at hl hx
  rw [h1, ← h4, pow_at at', ← Nat.div_div_eq_div_mul, Nat.add_mul_div_left _ _ (by exact Nat.pos_of_ne_zero (by intro h; rw [h] at h2; omega)), Nat.div_eq_of_lt h2, Nat.zero_add]
theorem mod_at {ns : List Nat} {at' x : Nat} (hl : Limbs ns) (hx : ns[at' / 64]? = some x) : toN ns % 2 ^ at' = toN (ns.take (at' / 64)) + 18446744073709551616 ^ (at' / 64) * (x % 2 ^ (at' % 64)) := by
  obtain ⟨r, z, h1, h2, h3, h4⟩ := toN_at hl hx
  rw [h1, ← h3, pow_at at', Nat.mod_mul, Nat.add_mul_mod_self_left, Nat.mod_eq_of_lt h2]
  congr 1; congr 1
  rw [Nat.add_mul_div_left _ _ (by exact Nat.pos_of_ne_zero (by intro h; rw [h] at h2; omega)), Nat.div_eq_of_lt h2, Nat.zero_add]
  have ho : at' % 64 < 64 := Nat.mod_lt _ (by decide)
  rw [show (18446744073709551616 : Nat) = 2 ^ (at' % 64) * 2 ^ (64 - at' % 64) by rw [← Nat.pow_add, show at' % 64 + (64 - at' % 64) = 64 by omega], Nat.mul_assoc, Nat.add_mul_mod_self_left]

theorem from_val {ns : List Nat} {at' x : Nat} (hl : Limbs ns) (hx : ns[at' / 64]? = some x) (y : Nat) (hy : y % 18446744073709551616 = toN (ns.drop (at' / 64 + 1)) % 18446744073709551616) :
    ((x / 2 ^ (at' % 64)) ||| (y * 2 ^ (64 - at' % 64) % 18446744073709551616)) % 9007199254740992 = toN ns / 2 ^ at' % 9007199254740992 := by
  have ho : at' % 64 < 64 := Nat.mod_lt _ (by decide)
  rw [from_core x y _ (hl.get hx) ho, div_at hl hx]
  generalize toN (ns.drop (at' / 64 + 1)) = z at *
  generalize at' % 64 = o at *
  have hp := pow_pos2 o
  have hB : (18446744073709551616 : Nat) = 2 ^ (64 - o) * 2 ^ o := by rw [← Nat.pow_add, show 64 - o + o = 64 by omega]
  have e1 : ∀ v, (x + 18446744073709551616 * v) / 2 ^ o = x / 2 ^ o + 2 ^ (64 - o) * v := fun v => by
    rw [hB, Nat.mul_right_comm, Nat.add_mul_div_right _ _ hp]
  rw [e1, e1]
  have e2 : ∀ v, (x / 2 ^ o + 2 ^ (64 - o) * v) % 18446744073709551616 = (x / 2 ^ o + 2 ^ (64 - o) * (v % 18446744073709551616)) % 18446744073709551616 := fun v => by
    rw [Nat.add_mod, Nat.mul_mod, ← Nat.mod_mod v, ← Nat.mul_mod, ← Nat.add_mod, Nat.mod_mod]
  have e3 : ∀ v : Nat, v % 9007199254740992 = v % 18446744073709551616 % 9007199254740992 := fun v => by omega
  rw [e3 (x / 2 ^ o + 2 ^ (64 - o) * z), e2 y, e2 z, hy]

theorem from_bits (x y o : Nat) (hx : x < 18446744073709551616) (_hy : y < 18446744073709551616) (_ho : o < 64) :
    bits .and .u64 (bits .or .u64 ((x : Int) / 2 ^ o) (IntKind.u64.wrap ((y : Int) * 2 ^ (64 - o)))) 9007199254740991 = (((x / 2 ^ o ||| y * 2 ^ (64 - o) % 18446744073709551616) % 9007199254740992 : Nat) : Int) := by
  have e1 : (x : Int) / 2 ^ o = ((x / 2 ^ o : Nat) : Int) := by rw [Int.natCast_ediv, Int.natCast_pow]; rfl
  have e2 : IntKind.u64.wrap ((y : Int) * 2 ^ (64 - o)) = ((y * 2 ^ (64 - o) % 18446744073709551616 : Nat) : Int) := by
    rw [IntKind.wrap_u64, Int.natCast_emod, Int.natCast_mul, Int.natCast_pow]; rfl
  have h1 : x / 2 ^ o < 18446744073709551616 := Nat.lt_of_le_of_lt (Nat.div_le_self _ _) hx
  have h2 : y * 2 ^ (64 - o) % 18446744073709551616 < 18446744073709551616 := Nat.mod_lt _ (by decide)
  rw [e1, e2]
  have h3 : x / 2 ^ o ||| y * 2 ^ (64 - o) % 18446744073709551616 < 18446744073709551616 := Nat.or_lt_two_pow (n := 64) h1 h2
  have h := u64_or_nat _ _ h1 h2
  rw [h]
  have h4 := u64_and_nat _ 9007199254740991 h3 (by decide)
  rw [Nat.and_two_pow_sub_one_eq_mod _ 53] at h4
  exact h4
theorem from_bits0 (x o : Nat) (hx : x < 18446744073709551616) : bits .and .u64 ((x : Int) / 2 ^ o) 9007199254740991 = ((x / 2 ^ o % 9007199254740992 : Nat) : Int) := by
  have e1 : (x : Int) / 2 ^ o = ((x / 2 ^ o : Nat) : Int) := by rw [Int.natCast_ediv, Int.natCast_pow]; rfl
  have h1 : x / 2 ^ o < 18446744073709551616 := Nat.lt_of_le_of_lt (Nat.div_le_self _ _) hx
  rw [e1]
  have h4 := u64_and_nat _ 9007199254740991 h1 (by decide)
  rw [Nat.and_two_pow_sub_one_eq_mod _ 53] at h4
  exact h4
theorem toN_zero_mem : ∀ {ns : List Nat}, toN ns = 0 → ∀ {i y : Nat}, ns[i]? = some y → y = 0
  | [], _, i, y, h => by simp at h
  | a :: ns, h0, 0, y, h => by simp at h; subst h; rw [toN] at h0; omega
  | a :: ns, h0, i + 1, y, h => by
    rw [toN] at h0
    exact toN_zero_mem (ns := ns) (by omega) (i := i) (by simpa using h)

def NatPost (w : World) (v : Nat) (e : Ending) (w' : World) : Prop := e = .returned (.int .u64 (v : Int)) ∧ Fr (fun _ => False) w w'

set_option maxRecDepth 100000 in
set_option maxHeartbeats 800000 in
theorem from_any (ns : List Nat) (hn : ns.length = 35) (hL : Limbs ns) (at' : Nat) (hat : at' < 2240) (w : World) :
    Calls Try.prog 94 #[limbsV ns, .int .i64 (at' : Int)] w (NatPost w (toN ns / 2 ^ at' % 9007199254740992)) := by
  have hi : at' / 64 < 35 := by omega
  obtain ⟨x, hx⟩ : ∃ x, ns[at' / 64]? = some x := ⟨ns[at' / 64]'(by omega), by simp⟩
  have hxl := hL.get hx
  have hfv := from_val hL hx
  unfold limbsV
  have hb0 := Blk.new w (limbCells ns) 88
  have hf0 : Fr (fun _ => False) w (w.alloc (.cells (limbCells ns).toArray 88)) := (Fr.refl _ w).alloc _
  have hdr : at' / 64 + 1 < 35 → ∃ y, ns[at' / 64 + 1]? = some y ∧ y % 18446744073709551616 = toN (ns.drop (at' / 64 + 1)) % 18446744073709551616 := fun h => by
    refine ⟨ns[at' / 64 + 1]'(by omega), by simp, ?_⟩
    rw [List.drop_eq_getElem_cons (by omega), toN, Nat.add_mul_mod_self_left]
  have hdr0 : ¬ at' / 64 + 1 < 35 → (0 : Nat) % 18446744073709551616 = toN (ns.drop (at' / 64 + 1)) % 18446744073709551616 := fun h => by
    rw [List.drop_eq_nil_of_le (by omega)]; rfl
  have q1 : (at' : Int) / 64 = ((at' / 64 : Nat) : Int) := by omega
  have q2 : (at' : Int) % 64 = ((at' % 64 : Nat) : Int) := by omega
  have q3 : at' % 64 < 64 := by omega
  generalize toN ns / 2 ^ at' % 9007199254740992 = V at *
  generalize toN (ns.drop (at' / 64 + 1)) = Z at *
  generalize at' / 64 = i at *
  generalize at' % 64 = o at *
  generalize hcs : (limbCells ns).toArray = cs at *
  generalize hw1 : w.alloc (.cells cs 88) = w1 at *
  generalize hb : w.heap.size = b at *
  have HF : Hid (Fr (fun _ => False) w w1) := hf0
  have c0 := hb0.cell i (limb_cell hx)
  have hw : wrap64 (i : Int) = i := IntWalk.wrap64_in i (by omega)
  have hs : IntKind.i64.wrap (64 - (o : Int)) = 64 - (o : Int) := IntWalk.i64_in _ (by omega)
  have hs2 : (64 - (o : Int)).toNat = 64 - o := by omega
  have hs3 : 0 ≤ 64 - (o : Int) := by omega
  have hs4 : 64 - (o : Int) ≤ 64 := by omega
  have hi2 : (i : Int) < 35 := by omega
  by_cases h1 : i + 1 < 35
  · obtain ⟨y, hy, hyz⟩ := hdr h1
    have c1 := hb0.cell (i + 1) (limb_cell hy)
    have hv := hfv y hyz
    have hyl := hL.get hy
    have h1' : (i : Int) + 1 < 35 := by omega
    have HFin : Hid (NatPost w V (.returned (.int .u64 (bits .and .u64 (bits .or .u64 ((x : Int) / 2 ^ o) (IntKind.u64.wrap ((y : Int) * 2 ^ (64 - o)))) 9007199254740991))) w1) := ⟨by rw [from_bits x y o hxl hyl q3, hv], HF.out⟩
    clear hfv hdr hdr0 hyz hb0 hf0 hx hy
    go_enter Try.func94, Try.ntmps94
    go_wp2
    go_ret
    exact HFin.out
  · have hv := hfv 0 (hdr0 h1)
    have h1' : ¬ (i : Int) + 1 < 35 := by omega
    have HFin : Hid (NatPost w V (.returned (.int .u64 (bits .and .u64 ((x : Int) / 2 ^ o) 9007199254740991))) w1) := ⟨by rw [from_bits0 x o hxl, ← hv, Nat.zero_mul, Nat.zero_mod, Nat.or_zero], HF.out⟩
    clear hfv hdr hdr0 hb0 hf0 hx
    go_enter Try.func94, Try.ntmps94
    go_wp2
    go_ret
    exact HFin.out

end Go.Proofs.Ytmllbdiljjimmaa

/- The walks of package exact: what lies below a place. -/
namespace Go.Proofs.Ytmllbdiljjimmaa
open Go.RowKit

theorem below_core (x o : Nat) (ho : o < 64) (ho0 : 0 < o) : x * 2 ^ (63 - o) % 18446744073709551616 * 2 % 18446744073709551616 = x % 2 ^ o * 2 ^ (64 - o) := by
  have hB : (18446744073709551616 : Nat) = 2 ^ o * 2 ^ (64 - o) := by rw [← Nat.pow_add, show o + (64 - o) = 64 by omega]
  have e1 : x * 2 ^ (63 - o) % 18446744073709551616 * 2 % 18446744073709551616 = x * 2 ^ (63 - o) * 2 % 18446744073709551616 := by omega
  rw [e1, Nat.mul_assoc, ← Nat.pow_succ, show (63 - o).succ = 64 - o by omega, hB, Nat.mul_mod_mul_right]

/-- Is there a bit below? -/
def BelowPost (w : World) (v : Bool) (e : Ending) (w' : World) : Prop := e = .returned (.bool v) ∧ Fr (fun _ => False) w w'

set_option maxRecDepth 100000 in
set_option maxHeartbeats 800000 in
theorem below_any (ns : List Nat) (hn : ns.length = 35) (hL : Limbs ns) (at' : Nat) (hat : at' < 2240) (w : World) :
    Calls Try.prog 95 #[limbsV ns, .int .i64 (at' : Int)] w (BelowPost w (toN ns % 2 ^ at' != 0)) := by
  have hi : at' / 64 < 35 := by omega
  obtain ⟨x, hx⟩ : ∃ x, ns[at' / 64]? = some x := ⟨ns[at' / 64]'(by omega), by simp⟩
  have hxl := hL.get hx
  have hm := mod_at hL hx
  unfold limbsV
  have hb0 := Blk.new w (limbCells ns) 88
  have hf0 : Fr (fun _ => False) w (w.alloc (.cells (limbCells ns).toArray 88)) := (Fr.refl _ w).alloc _
  have q1 : (at' : Int) / 64 = ((at' / 64 : Nat) : Int) := by omega
  have q2 : (at' : Int) % 64 = ((at' % 64 : Nat) : Int) := by omega
  have q3 : at' % 64 < 64 := by omega
  generalize hV : (toN ns % 2 ^ at' != 0) = V at *
  generalize toN ns % 2 ^ at' = M at *
  generalize at' / 64 = i at *
  generalize at' % 64 = o at *
  generalize hcs : (limbCells ns).toArray = cs at *
  generalize hw1 : w.alloc (.cells cs 88) = w1 at *
  generalize hb : w.heap.size = b at *
  have HF : Hid (Fr (fun _ => False) w w1) := hf0
  have HB : Hid (Blk w1 b (limbCells ns) 88) := hb0
  have HM := Lib.hid hm
  have HV := Lib.hid hV
  have HX := Lib.hid hx
  clear hb0 hf0 hm hV hx
  have hw : wrap64 (i : Int) = i := IntWalk.wrap64_in i (by omega)
  have hs : IntKind.i64.wrap (63 - (o : Int)) = 63 - (o : Int) := IntWalk.i64_in _ (by omega)
  have hs2 : (63 - (o : Int)).toNat = 63 - o := by omega
  have hs3 : 0 ≤ 63 - (o : Int) := by omega
  have hs4 : 63 - (o : Int) ≤ 63 := by omega
  have hi2 : (i : Int) < 35 := by omega
  go_enter Try.func95, Try.ntmps95
  go_wp2
  go_loopw [8] (fun j wr => ∃ k : Nat, k ≤ i ∧ j = .int .i64 (k : Int) ∧ Hid (∀ l, l < k → ∀ y, ns[l]? = some y → y = 0) ∧ wr = w1) (fun j _ => i - (intOf j).toNat)
  case atStart => exact ⟨0, Nat.zero_le _, rfl, fun l hl => absurd hl (Nat.not_lt_zero _), rfl⟩
  case round =>
    obtain ⟨k, hk, rfl, hz, rfl⟩ := hrel
    by_cases hlt : k < i
    · obtain ⟨y, hy⟩ : ∃ y, ns[k]? = some y := ⟨ns[k]'(by omega), by simp⟩
      have hc := HB.out.cell k (limb_cell hy)
      have hyl := hL.get hy
      have hk35 : (k : Int) < 35 := by omega
      have hki : (k : Int) < i := by omega
      by_cases hy0 : y = 0
      · have hz' : Hid (∀ l, l < k + 1 → ∀ y, ns[l]? = some y → y = 0) := fun l hl v hv => by
          rcases Nat.lt_succ_iff_lt_or_eq.1 hl with h | rfl
          · exact hz l h v hv
          · rw [hy] at hv; cases hv; exact hy0
        subst hy0
        clear hy
        go_wp2
        go_roundw
        case rel => exact ⟨k + 1, by omega, by go_num, hz', trivial⟩
        case measure => simp [intOf]; omega
      · have hgt : decide ((y : Int) > 0) = true := by simp; omega
        have hV1 : V = true := by
          rw [← HV.out, bne_iff_ne, HM.out]
          have : toN (ns.take i) ≠ 0 := fun h0 => hy0 (toN_zero_mem h0 (by rw [List.getElem?_take, if_pos hlt]; exact hy))
          omega
        subst hV1
        clear hy
        go_wp2
        go_ret
        exact ⟨rfl, HF.out⟩
    · obtain rfl : k = i := by omega
      have hc := HB.out.cell k (limb_cell HX.out)
      have ht : toN (ns.take k) = 0 := toN_allzero _ (fun y hy => by
        obtain ⟨j, hj⟩ := List.mem_iff_getElem?.1 hy
        rw [List.getElem?_take] at hj
        split at hj
        · exact hz j ‹_› y hj
        · cases hj)
      have hV2 := HV.out
      rw [HM.out, ht, Nat.zero_add] at hV2
      have hZ0 : ∀ Z : Nat, x * 2 ^ (63 - o) % 18446744073709551616 * 2 % 18446744073709551616 = Z → (Z = 0 ∧ V = false) ∨ (0 < Z ∧ 0 < o ∧ V = true) := by
        intro Z hZ
        rcases Nat.eq_zero_or_pos o with rfl | ho
        · exact .inl ⟨by rw [← hZ]; omega, by rw [← hV2]; simp [Nat.mod_one]⟩
        · rw [below_core x o q3 ho] at hZ
          by_cases h0 : x % 2 ^ o = 0
          · exact .inl ⟨by rw [← hZ, h0, Nat.zero_mul], by rw [← hV2, h0]; rfl⟩
          · refine .inr ⟨by rw [← hZ]; exact Nat.mul_pos (by omega) (pow_pos2 _), ho, ?_⟩
            rw [← hV2, bne_iff_ne]
            exact Nat.mul_ne_zero (by exact Nat.pos_iff_ne_zero.1 (Nat.pow_pos (by decide))) h0
      have eZ : IntKind.u64.wrap (IntKind.u64.wrap ((x : Int) * 2 ^ (63 - o)) * 2) = ((x * 2 ^ (63 - o) % 18446744073709551616 * 2 % 18446744073709551616 : Nat) : Int) := by
        rw [IntKind.wrap_u64, IntKind.wrap_u64, Int.natCast_emod, Int.natCast_mul, Int.natCast_emod, Int.natCast_mul, Int.natCast_pow]; rfl
      generalize x * 2 ^ (63 - o) % 18446744073709551616 * 2 % 18446744073709551616 = Z at *
      clear hV2 ht hz
      rcases hZ0 Z rfl with ⟨rfl, rfl⟩ | ⟨hZ1, ho1, rfl⟩
      · have eZ' : IntKind.u64.wrap (IntKind.u64.wrap ((x : Int) * 2 ^ (63 - o)) * 2) = 0 := eZ
        clear eZ hZ0 hk hlt hi q3 hn hL hat hxl
        go_wp2
        go_ret
        exact ⟨rfl, HF.out⟩
      · have hgt : decide ((Z : Int) > 0) = true := by simp; omega
        have hgo : decide ((o : Int) > 0) = true := by simp; omega
        have HO := Lib.hid ho1
        clear hZ0 hk hlt hi q3 hn hL hat hxl
        go_wp2
        go_ret
        first | exact ⟨rfl, HF.out⟩ | exact ⟨by simp [HO.out], HF.out⟩
end Go.Proofs.Ytmllbdiljjimmaa
