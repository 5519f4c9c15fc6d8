/- The walks of the laws of package stack. -/
import Derived.Test.YtkbdlhidenmfoaaStack
namespace Go.Proofs.Ytkbdlhidenmfoaa
open Go.RowKit

theorem new_stk (w : World) (room : Int) (T : TypeId) : Stk (w.alloc (.cells #[.slice none 0 0, .int .i64 room, .int .i64 0, .bool false] T)) T w.heap.size (.slice none 0 0) [] room 0 false :=
  ⟨Blk.new w [.slice none 0 0, .int .i64 room, .int .i64 0, .bool false] T, World.ownsRow_nil _ _ _ _, by simp [Value.ownBlock]⟩

set_option maxHeartbeats 800000 in
theorem lives_any (w : World) :
    Calls Try.prog 6 #[] w fun e w' => e = .returned (.bool true) ∧ Fr (fun _ => False) w w' := by
  go_enter Try.func6, Try.ntmps6
  go_wp2_with fail
  refine (new_ok 1 _ (by omega) (by omega)).mono ?_
  rintro e w1 ⟨rfl, rfl⟩
  have h0 := new_stk w 1 41
  go_wp2_with fail
  refine (push_room _ _ [] 1 0 5 false _ h0 (by simp) (by omega)).mono ?_
  rintro e w2 ⟨rfl, v2, h2, hf2, hg2⟩
  go_wp2_with fail
  refine (push_full _ _ [5] 1 _ 6 false _ h2 (by simp)).mono ?_
  rintro e w3 ⟨rfl, h3, hf3⟩
  go_wp2_with fail
  refine (lost_some _ _ _ _ _ _ _ h3).mono ?_
  rintro e w4 ⟨rfl, rfl⟩
  go_wp2_with fail
  refine (pop_some _ _ [] 5 _ _ _ _ h3 (by simp)).mono ?_
  rintro e w5 ⟨rfl, v5, h5, hf5, hg5⟩
  go_wp2_with fail
  refine (len_n _ _ [] _ _ _ _ h5 0 (by simp)).mono ?_
  rintro e w6 ⟨rfl, rfl⟩
  go_wp2
  go_ret
  refine ⟨rfl, ?_⟩
  have a1 : Fr (fun _ => False) w (w.alloc (.cells #[.slice none 0 0, .int .i64 1, .int .i64 0, .bool false] 41)) := (Fr.refl _ w).alloc _
  refine ((a1.trans hf2 ?_).trans hf3 ?_).trans hf5 ?_
  · intro i hi; rcases hi with hi | hi
    · exact .inr (by omega)
    · simp [Value.ownBlock] at hi
  · intro i hi; exact .inr (by omega)
  · intro i hi; exact .inr (by omega)

set_option maxHeartbeats 800000 in
theorem nobody_any (a : Int) (w : World) :
    Calls Try.prog 5 #[.int .i64 a] w fun e w' => e = .returned (.bool true) ∧ Fr (fun _ => False) w w' := by
  go_enter Try.func5, Try.ntmps5
  go_wp2_with (first | (go_at_call 6; refine (lives_any _).mono ?_; rintro e w' ⟨rfl, hf⟩) | (go_at_call 10; refine (pop_nil _).mono ?_; rintro e w' ⟨rfl, rfl⟩) | (go_at_call 13; refine (found_nil _).mono ?_; rintro e w' ⟨rfl, rfl⟩) | (go_at_call 8; refine (push_nil _ _).mono ?_; rintro e w' ⟨rfl, rfl⟩) | (go_at_call 15; refine (len_nil _).mono ?_; rintro e w' ⟨rfl, rfl⟩) | (go_at_call 16; refine (high_nil _).mono ?_; rintro e w' ⟨rfl, rfl⟩) | (go_at_call 9; refine (lost_nil _).mono ?_; rintro e w' ⟨rfl, rfl⟩))
  go_ret
  exact ⟨rfl, hf⟩

/-- The first loop of StackTurns. -/
def TurnRel (w : World) (b : Nat) (R : Nat) (zs : List Int) (k : Nat) (wr : World) : Prop :=
  ∃ v, Stk wr 41 b v (zs.take (min k R)) R (min k R : Nat) (decide (R < k)) ∧ (∀ i, v.ownBlock = some i → w.heap.size ≤ i) ∧ Fr (fun _ => False) w wr

/-- The second loop: how many are left. -/
def BackRel (w : World) (b : Nat) (R : Nat) (zs : List Int) (k : Nat) (wr : World) : Prop :=
  ∃ v high lost, Stk wr 41 b v (zs.take k) R high lost ∧ (∀ i, v.ownBlock = some i → w.heap.size ≤ i) ∧ Fr (fun _ => False) w wr

theorem fr_le {S : Nat → Prop} {w w' : World} (h : Fr S w w') : w.heap.size ≤ w'.heap.size := h.size

set_option maxHeartbeats 800000 in
theorem turns_any (r : Nat) (p : Option Addr) (len cap : Nat) (zs : List Int) (w : World) (hr1 : r ≤ 255) (hz : Nums .i64 w p len zs) :
    Calls Try.prog 3 #[.int .u8 (r : Int), .slice p len cap] w fun e w' => e = .returned (.bool true) ∧ Fr (fun _ => False) w w' := by
  by_cases h500 : 500 < len
  · go_enter Try.func3, Try.ntmps3
    go_wp2_with (go_at_call 6; refine (lives_any _).mono ?_; rintro e w' ⟨rfl, hf⟩)
    go_ret
    exact ⟨rfl, hf⟩
  have hlen : len ≤ 500 := by omega
  go_enter Try.func3, Try.ntmps3
  go_wp2_with fail
  refine (new_ok ((r : Int) + 1) _ (by omega) (by omega)).mono ?_
  rintro e w1 ⟨rfl, rfl⟩
  have h0 := new_stk w ((r : Int) + 1) 41
  have hf0 : Fr (fun _ => False) w (w.alloc (.cells #[.slice none 0 0, .int .i64 ((r : Int) + 1), .int .i64 0, .bool false] 41)) := (Fr.refl _ w).alloc _
  generalize w.alloc (.cells #[.slice none 0 0, .int .i64 ((r : Int) + 1), .int .i64 0, .bool false] 41) = w1 at h0 hf0 ⊢
  go_wp2_with fail
  go_loopw [7, 30] (fun n i wr => ∃ k : Nat, k ≤ len ∧ i = .int .i64 k ∧ n = .int .i64 (min k (r + 1) : Nat) ∧ TurnRel w w.heap.size (r + 1) zs k wr) (fun _ i _ => len - (intOf i).toNat)
  case atStart => exact ⟨0, Nat.zero_le _, rfl, by simp, _, by simpa using h0, by simp [Value.ownBlock], hf0⟩
  case round =>
    obtain ⟨k, hk, rfl, rfl, v, hs, hv, hf⟩ := hrel
    by_cases hlt : k < len
    · obtain ⟨bb, off, x, rfl, hx, hc⟩ := (hz.frame hf).2 k hlt
      have Hx := Lib.hid hx
      clear hx
      have hzl := hz.1
      have hsz : w.heap.size ≤ wr.heap.size := hf.size
      by_cases hroom : k < (r + 1)
      · have hmin : min k (r + 1) = k := by omega
        have Hmin := Lib.hid hmin
        rw [hmin] at hs ⊢
        clear hmin
        have hlk : (zs.take k).length = k := by simp; omega
        have Hlk := Lib.hid hlk
        clear hlk
        go_wp2_with fail
        refine (push_room _ _ _ _ _ x _ _ hs (by rw [Hlk.out]; omega) (by omega)).mono ?_
        rintro e w2 ⟨rfl, v2, h2, hf2, hg2⟩
        have hrel : TurnRel w w.heap.size (r + 1) zs (k + 1) w2 := by
          refine ⟨v2, ?_, ?_, hf.trans hf2 ?_⟩
          · rw [show min (k + 1) (r + 1) = k + 1 by omega]
            have e1 : zs.take (k + 1) = zs.take k ++ [x] := by
              rw [List.take_add_one, Hx.out]; rfl
            rw [e1, show ((k + 1 : Nat) : Int) = max (k : Int) ((zs.take k).length + 1) by rw [Hlk.out]; omega, show decide ((r + 1) < k + 1) = decide ((r + 1) < k) by simp; omega]
            exact h2
          · intro i hi
            rcases hg2 i hi with h | h
            · exact hv i h
            · omega
          · intro i hi
            rcases hi with rfl | hi
            · exact .inr (Nat.le_refl _)
            · exact .inr (hv i hi)
        go_wp2
        go_roundw
        case rel => exact ⟨k + 1, by omega, by go_num, by rw [show min (k + 1) (r + 1) = k + 1 by omega]; go_num, hrel⟩
        case measure => simp [intOf]; omega
      · have hmin : min k (r + 1) = (r + 1) := by omega
        rw [hmin] at hs ⊢
        clear hmin
        go_wp2_with fail
        refine (push_full _ _ _ _ _ x _ _ hs (by simp; omega)).mono ?_
        rintro e w2 ⟨rfl, h2, hf2⟩
        have hrel : TurnRel w w.heap.size (r + 1) zs (k + 1) w2 := by
          refine ⟨v, ?_, hv, hf.trans hf2 (by intro i hi; exact .inr (by omega))⟩
          rw [show min (k + 1) (r + 1) = (r + 1) by omega, show decide ((r + 1) < k + 1) = true by simp; omega]
          exact h2
        go_wp2
        go_roundw
        case rel => exact ⟨k + 1, by omega, by go_num, by rw [show min (k + 1) (r + 1) = (r + 1) by omega]; go_num, hrel⟩
        case measure => simp [intOf]; omega
    · obtain rfl : k = len := by omega
      clear hlt hk h0 hf0
      have hzl := Lib.hid hz.1
      by_cases hc : r + 1 < k
      · have hmin : min k (r + 1) = r + 1 := by omega
        rw [hmin] at hs ⊢
        clear hmin
        have ht : decide (r + 1 < k) = true := by simp; omega
        rw [ht] at hs
        clear ht
        have hmk : r + 1 ≤ k := by omega
        have hst : BackRel w w.heap.size (r + 1) zs (r + 1) wr := ⟨v, _, _, hs, hv, hf⟩
        have hd1 : (((r : Int) + 1 != (r : Int) + 1) = false) := by simp
        have hd2 : decide ((r : Int) + 1 < k) = true := by simp; omega
        go_wp2_with (go_at_call 9; refine (lost_some _ _ _ _ _ _ _ hs).mono ?_; rintro e w' ⟨rfl, rfl⟩)
        clear hs hv hf
        go_loopw [10] (fun i wr => ∃ j : Nat, j ≤ k ∧ i = .int .i64 ((j : Int) - 1) ∧ BackRel w w.heap.size (r + 1) zs j wr) (fun i _ => (intOf i + 1).toNat)
        case atStart => exact ⟨_, by omega, by go_num, hst⟩
        case round =>
          obtain ⟨j, hj, rfl, v, high, lost, hs, hv, hf⟩ := hrel
          cases j with
          | zero =>
            go_wp2_with (first | (go_at_call 10; refine (pop_none _ _ _ _ _ _ hs).mono ?_; rintro e w' ⟨rfl, rfl⟩) | (go_at_call 6; refine (lives_any _).mono ?_; rintro e w' ⟨rfl, hf1⟩))
            go_ret
            exact ⟨rfl, hf.trans hf1 (fun _ h => h.elim)⟩
          | succ j =>
            obtain ⟨bb, off, x, rfl, hx, hc⟩ := (hz.frame hf).2 j (by omega)
            have e1 : zs.take (j + 1) = zs.take j ++ [x] := by rw [List.take_add_one, hx]; rfl
            rw [e1] at hs
            clear hx e1
            have hq : 0 ≤ ((j + 1 : Nat) : Int) - 1 := by omega
            have hq2 : ((j + 1 : Nat) : Int) - 1 = j := by omega
            rw [hq2] at hq ⊢
            clear hq2
            go_wp2_with fail
            refine (pop_some _ _ _ x _ _ _ _ hs (by simp; omega)).mono ?_
            rintro e w2 ⟨rfl, v2, h2, hf2, hg2⟩
            have hrel : BackRel w w.heap.size (r + 1) zs j w2 := ⟨v2, _, _, h2, by rw [hg2]; exact hv, hf.trans hf2 (by intro i hi; exact .inr (by omega))⟩
            have hc2 : w2.cell? ⟨bb, off + j, none⟩ = some (.int .i64 x) := by
              have hh := hf.trans hf2 (by intro i hi; exact .inr (Nat.le_of_eq hi.symm))
              obtain ⟨b', off', x', hp', hx', hc'⟩ := (hz.frame hh).2 j (by omega)
              simp only [Option.some.injEq, Addr.mk.injEq] at hp'
              obtain ⟨rfl, rfl, _⟩ := hp'
              have hold := (World.cell?_of_block (w := w) (a := ⟨bb, off + j, none⟩) (hf.block bb (by obtain ⟨b3, o3, x3, hp3, _, hc3⟩ := hz.2 j (by omega); simp only [Option.some.injEq, Addr.mk.injEq] at hp3; obtain ⟨rfl, rfl, _⟩ := hp3; exact cell_lt hc3) (fun h => h)))
              have hold2 := (World.cell?_of_block (w := w) (a := ⟨bb, off + j, none⟩) (hh.block bb (by obtain ⟨b3, o3, x3, hp3, _, hc3⟩ := hz.2 j (by omega); simp only [Option.some.injEq, Addr.mk.injEq] at hp3; obtain ⟨rfl, rfl, _⟩ := hp3; exact cell_lt hc3) (fun h => h)))
              rw [hold2, ← hold]; exact hc
            have hxx : (x != x) = false := by simp
            go_wp2
            go_roundw
            case rel => exact ⟨j, by omega, by go_num, hrel⟩
            case measure => simp [intOf]
      · have hmin : min k (r + 1) = k := by omega
        rw [hmin] at hs ⊢
        clear hmin
        have ht : decide (r + 1 < k) = false := by simp; omega
        rw [ht] at hs
        clear ht
        have hmk : k ≤ r + 1 := by omega
        have hst : BackRel w w.heap.size (r + 1) zs k wr := ⟨v, _, _, hs, hv, hf⟩
        have hd1 : (((k : Int) != k) = false) := by simp
        have hd2 : decide ((k : Int) < k) = false := by simp
        have hd3 : ((k : Int) ≤ (r : Int) + 1) := by omega
        go_wp2_with (go_at_call 9; refine (lost_some _ _ _ _ _ _ _ hs).mono ?_; rintro e w' ⟨rfl, rfl⟩)
        clear hs hv hf
        go_loopw [10] (fun i wr => ∃ j : Nat, j ≤ k ∧ i = .int .i64 ((j : Int) - 1) ∧ BackRel w w.heap.size (r + 1) zs j wr) (fun i _ => (intOf i + 1).toNat)
        case atStart => exact ⟨_, Nat.le_refl _, by go_num, hst⟩
        case round =>
          obtain ⟨j, hj, rfl, v, high, lost, hs, hv, hf⟩ := hrel
          cases j with
          | zero =>
            go_wp2_with (first | (go_at_call 10; refine (pop_none _ _ _ _ _ _ hs).mono ?_; rintro e w' ⟨rfl, rfl⟩) | (go_at_call 6; refine (lives_any _).mono ?_; rintro e w' ⟨rfl, hf1⟩))
            go_ret
            exact ⟨rfl, hf.trans hf1 (fun _ h => h.elim)⟩
          | succ j =>
            obtain ⟨bb, off, x, rfl, hx, hc⟩ := (hz.frame hf).2 j (by omega)
            have e1 : zs.take (j + 1) = zs.take j ++ [x] := by rw [List.take_add_one, hx]; rfl
            rw [e1] at hs
            clear hx e1
            have hq : 0 ≤ ((j + 1 : Nat) : Int) - 1 := by omega
            have hq2 : ((j + 1 : Nat) : Int) - 1 = j := by omega
            rw [hq2] at hq ⊢
            clear hq2
            go_wp2_with fail
            refine (pop_some _ _ _ x _ _ _ _ hs (by simp; omega)).mono ?_
            rintro e w2 ⟨rfl, v2, h2, hf2, hg2⟩
            have hrel : BackRel w w.heap.size (r + 1) zs j w2 := ⟨v2, _, _, h2, by rw [hg2]; exact hv, hf.trans hf2 (by intro i hi; exact .inr (by omega))⟩
            have hc2 : w2.cell? ⟨bb, off + j, none⟩ = some (.int .i64 x) := by
              have hh := hf.trans hf2 (by intro i hi; exact .inr (Nat.le_of_eq hi.symm))
              obtain ⟨b', off', x', hp', hx', hc'⟩ := (hz.frame hh).2 j (by omega)
              simp only [Option.some.injEq, Addr.mk.injEq] at hp'
              obtain ⟨rfl, rfl, _⟩ := hp'
              have hold := (World.cell?_of_block (w := w) (a := ⟨bb, off + j, none⟩) (hf.block bb (by obtain ⟨b3, o3, x3, hp3, _, hc3⟩ := hz.2 j (by omega); simp only [Option.some.injEq, Addr.mk.injEq] at hp3; obtain ⟨rfl, rfl, _⟩ := hp3; exact cell_lt hc3) (fun h => h)))
              have hold2 := (World.cell?_of_block (w := w) (a := ⟨bb, off + j, none⟩) (hh.block bb (by obtain ⟨b3, o3, x3, hp3, _, hc3⟩ := hz.2 j (by omega); simp only [Option.some.injEq, Addr.mk.injEq] at hp3; obtain ⟨rfl, rfl, _⟩ := hp3; exact cell_lt hc3) (fun h => h)))
              rw [hold2, ← hold]; exact hc
            have hxx : (x != x) = false := by simp
            go_wp2
            go_roundw
            case rel => exact ⟨j, by omega, by go_num, hrel⟩
            case measure => simp [intOf]

theorem turns_of (a : Int) (p : Option Addr) (len cap : Nat) (zs : List Int) (w : World) (ha : (Lit.int .u8 a).wf = true) (hz : Nums .i64 w p len zs) :
    Calls Try.prog 3 #[.int .u8 a, .slice p len cap] w fun e w' => e = .returned (.bool true) ∧ Fr (fun _ => False) w w' := by
  have hb := bounds_u8 ha
  obtain ⟨n, rfl⟩ := Int.eq_ofNat_of_zero_le hb.1
  exact turns_any n p len cap zs w (by omega) hz
end Go.Proofs.Ytkbdlhidenmfoaa
