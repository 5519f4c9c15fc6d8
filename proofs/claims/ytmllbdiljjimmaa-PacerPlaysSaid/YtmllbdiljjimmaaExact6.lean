/- The walks of package exact: the length of a number, what lies below a place, the bits from a place on. -/
import Derived.Test.YtmllbdiljjimmaaExact3
import Derived.Test.YtmllbdiljjimmaaShelf
import Derived.Deep.MidRow
namespace Go.Proofs.Ytmllbdiljjimmaa
open Go.RowKit

theorem toN_split : ∀ (ns : List Nat) (k : Nat), k ≤ ns.length → toN ns = toN (ns.take k) + 18446744073709551616 ^ k * toN (ns.drop k)
  | ns, 0, _ => by simp [toN]
  | [], k + 1, h => by simp at h
  | a :: ns, k + 1, h => by
    have ih := toN_split ns k (by simpa using h)
    rw [List.take_succ_cons, List.drop_succ_cons, toN, toN, ih, Nat.pow_succ, Nat.mul_add, Nat.mul_comm (18446744073709551616 ^ k) 18446744073709551616, Nat.mul_assoc]
    omega
theorem toN_allzero : ∀ (ns : List Nat), (∀ x ∈ ns, x = 0) → toN ns = 0
  | [], _ => rfl
  | a :: ns, h => by rw [toN, toN_allzero ns (fun x hx => h x (List.mem_cons_of_mem _ hx)), h a List.mem_cons_self]
theorem Limbs.take {ns : List Nat} (h : Limbs ns) (k : Nat) : Limbs (ns.take k) := fun x hx => h x (List.mem_of_mem_take hx)

/-- How many bits a number has. -/
def IsLen (N L : Nat) : Prop := N < 2 ^ L ∧ (0 < L → 2 ^ (L - 1) ≤ N)

theorem bitLen_is (x : Nat) (h0 : x ≠ 0) (h : x < 18446744073709551616) : IsLen x (Lib.bitLen x) ∧ 0 < Lib.bitLen x ∧ Lib.bitLen x ≤ 64 := by
  have key : ∀ (f x : Nat), x ≠ 0 → x < 2 ^ f → f ≤ 64 → IsLen x (Lib.bitLen x) ∧ 0 < Lib.bitLen x := by
    intro f
    induction f with
    | zero => intro x h0 h _; simp at h; omega
    | succ f ih =>
      intro x h0 h hf
      have h64 : x < 2 ^ 64 := Nat.lt_of_lt_of_le h (Nat.pow_le_pow_right (by decide) hf)
      rw [Lib.bitLen_half x h0 h64]
      by_cases h1 : x / 2 = 0
      · have : x = 1 := by omega
        subst this
        exact ⟨⟨by decide, by decide⟩, by omega⟩
      · obtain ⟨⟨a, b⟩, c⟩ := ih (x / 2) h1 (by rw [Nat.pow_succ] at h; omega) (by omega)
        have hb := b c
        refine ⟨⟨?_, fun _ => ?_⟩, by omega⟩
        · rw [Nat.add_comm, Nat.pow_succ]; omega
        · rw [show 1 + Lib.bitLen (x / 2) - 1 = (Lib.bitLen (x / 2) - 1) + 1 by omega, Nat.pow_succ]; omega
  have := key 64 x h0 h (Nat.le_refl _)
  exact ⟨this.1, this.2, Lib.bitLen_le x 64 (Nat.le_refl _) h⟩

/-- The limbs from k on are zero. -/
def ZeroFrom (ns : List Nat) (k : Nat) : Prop := ∀ j, k ≤ j → ∀ x, ns[j]? = some x → x = 0
theorem ZeroFrom.toN {ns : List Nat} {k : Nat} (h : ZeroFrom ns k) (hk : k ≤ ns.length) : toN ns = toN (ns.take k) := by
  rw [toN_split ns k hk, toN_allzero (ns.drop k), Nat.mul_zero, Nat.add_zero]
  intro x hx
  obtain ⟨j, hj⟩ := List.mem_iff_getElem?.1 hx
  rw [List.getElem?_drop] at hj
  exact h (k + j) (by omega) x hj

theorem len_at {ns : List Nat} {k x : Nat} (hl : Limbs ns) (h : ZeroFrom ns (k + 1)) (hx : ns[k]? = some x) (hx0 : x ≠ 0) : IsLen (toN ns) (64 * k + Lib.bitLen x) := by
  have hk : k < ns.length := (List.getElem?_eq_some_iff.1 hx).1
  have hxl := hl.get hx
  obtain ⟨⟨a, b⟩, c, d⟩ := bitLen_is x hx0 hxl
  have hb := b c
  rw [h.toN hk, toN_split (ns.take (k + 1)) k (by rw [List.length_take]; omega)]
  have e1 : (ns.take (k + 1)).take k = ns.take k := by rw [List.take_take]; congr 1; omega
  have e2 : (ns.take (k + 1)).drop k = [x] := by
    rw [List.take_add_one, hx, Option.toList_some, List.drop_append, List.length_take, List.drop_eq_nil_of_le (by rw [List.length_take]; omega), show k - min k ns.length = 0 by omega]; rfl
  have e3 := toN_lt (hl.take k)
  rw [List.length_take, Nat.min_eq_left (by omega)] at e3
  rw [e1, e2]
  simp only [toN, Nat.mul_zero, Nat.add_zero]
  have hp : (18446744073709551616 : Nat) ^ k = 2 ^ (64 * k) := by rw [Nat.pow_mul]
  rw [hp] at e3 ⊢
  generalize toN (ns.take k) = r at *
  refine ⟨?_, fun _ => ?_⟩
  · rw [Nat.pow_add]
    have : 2 ^ (64 * k) * (x + 1) ≤ 2 ^ (64 * k) * 2 ^ Lib.bitLen x := Nat.mul_le_mul_left _ a
    rw [Nat.mul_add, Nat.mul_one] at this
    omega
  · rw [show 64 * k + Lib.bitLen x - 1 = 64 * k + (Lib.bitLen x - 1) by omega, Nat.pow_add]
    have : 2 ^ (64 * k) * 2 ^ (Lib.bitLen x - 1) ≤ 2 ^ (64 * k) * x := Nat.mul_le_mul_left _ hb
    omega

def limbCells (ns : List Nat) : List Value := ns.map (fun n : Nat => Value.int .u64 (n : Int))
/-- The limbs as one value. -/
def limbsV (ns : List Nat) : Value := .agg (limbCells ns).toArray
theorem limb_cell {ns : List Nat} {i x : Nat} (h : ns[i]? = some x) : (limbCells ns)[i]? = some (.int .u64 (x : Int)) := by
  unfold limbCells; rw [List.getElem?_map, h]; rfl

def LenPost (w : World) (ns : List Nat) (e : Ending) (w' : World) : Prop := ∃ L : Nat, e = .returned (.int .i64 (L : Int)) ∧ L ≤ 2240 ∧ IsLen (toN ns) L ∧ Fr (fun _ => False) w w'

set_option maxRecDepth 100000 in
set_option maxHeartbeats 800000 in
theorem length_any (ns : List Nat) (hn : ns.length = 35) (hL : Limbs ns) (w : World) :
    Calls Try.prog 77 #[limbsV ns] w (LenPost w ns) := by
  unfold limbsV
  have hb0 := Blk.new w (limbCells ns) 88
  have hf0 : Fr (fun _ => False) w (w.alloc (.cells (limbCells ns).toArray 88)) := (Fr.refl _ w).alloc _
  generalize hcs : (limbCells ns).toArray = cs at *
  generalize hw1 : w.alloc (.cells cs 88) = w1 at *
  generalize hb : w.heap.size = b at *
  have HB : Hid (Blk w1 b (limbCells ns) 88) := hb0
  have HF : Hid (Fr (fun _ => False) w w1) := hf0
  clear hb0 hf0
  go_enter Try.func77, Try.ntmps77
  go_wp2
  go_loopw [3] (fun i wr => ∃ k : Nat, k ≤ 35 ∧ i = .int .i64 ((k : Int) - 1) ∧ ZeroFrom ns k ∧ wr = w1) (fun i _ => (intOf i + 1).toNat)
  case atStart => exact ⟨35, Nat.le_refl _, rfl, fun j hj x hx => by have := (List.getElem?_eq_some_iff.1 hx).1; omega, rfl⟩
  case round =>
    obtain ⟨k, hk, rfl, hz, rfl⟩ := hrel
    rcases Nat.eq_zero_or_pos k with rfl | hk0
    · have hfin : LenPost w ns (.returned (.int .i64 ((0 : Nat) : Int))) wr := ⟨0, rfl, by omega, by
        have h0 : toN ns = 0 := by rw [hz.toN (by omega)]; rfl
        rw [h0]; exact ⟨by decide, by decide⟩, HF.out⟩
      go_wp2
      go_ret
      exact hfin
    · obtain ⟨j, rfl⟩ : ∃ j, k = j + 1 := ⟨k - 1, by omega⟩
      rw [show ((j + 1 : Nat) : Int) - 1 = (j : Int) by omega]
      obtain ⟨x, hx⟩ : ∃ x, ns[j]? = some x := ⟨ns[j]'(by omega), by simp⟩
      have hc := HB.out.cell j (limb_cell hx)
      have hxl := hL.get hx
      have hj35 : (j : Int) < 35 := by omega
      by_cases hx0 : x = 0
      · have hz' : Hid (ZeroFrom ns j) := fun i hi y hy => by
          rcases Nat.eq_or_lt_of_le hi with rfl | hi
          · rw [hx] at hy; cases hy; exact hx0
          · exact hz i hi y hy
        subst hx0
        clear hx hz
        go_wp2
        go_roundw
        case rel => exact ⟨j, by omega, by go_num, hz'.out, trivial⟩
        case measure => simp [intOf]
      · have hl := len_at hL hz hx hx0
        obtain ⟨_, hbl0, hbl⟩ := bitLen_is x hx0 hxl
        have hcall := Try.bits_Len64 (x : Int) wr (by omega) (by omega)
        rw [Int.toNat_natCast] at hcall
        generalize Lib.bitLen x = L at *
        have HC := Lib.hid hcall
        have hfin : LenPost w ns (.returned (.int .i64 ((64 * j + L : Nat) : Int))) wr := ⟨_, rfl, by omega, hl, HF.out⟩
        have hgt : decide ((x : Int) > 0) = true := by simp; omega
        have e : ((64 * j + L : Nat) : Int) = 64 * (j : Int) + L := by omega
        rw [e] at hfin
        clear hcall hl hx hz e
        go_wp2_with fail
        refine (HC.out).mono ?_
        rintro e w2 ⟨rfl, hw2⟩
        subst hw2
        go_wp2
        go_ret
        exact hfin
end Go.Proofs.Ytmllbdiljjimmaa
