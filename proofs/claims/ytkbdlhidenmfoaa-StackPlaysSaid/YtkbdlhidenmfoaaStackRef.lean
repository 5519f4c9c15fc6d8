/- The walks of the reference of package stack. -/
import Derived.Test.YtkbdlhidenmfoaaStack
namespace Go.Proofs.Ytkbdlhidenmfoaa
open Go.RowKit

set_option maxHeartbeats 400000 in
theorem rpush_full (b : Nat) (v : Value) (xs : List Int) (room high a : Int) (lost : Bool) (w : World) (h : Stk w 35 b v xs room high lost) (hr : room ≤ xs.length) :
    Calls Try.prog 14 #[.pointer (some ⟨b, 0, none⟩), .int .i64 a] w fun e w' => e = .returned (.bool false) ∧ Stk w' 35 b v xs room high true ∧ Fr (fun k => k = b) w w' := by
  obtain ⟨hb, ho, hne⟩ := h
  obtain ⟨p, cap, rfl⟩ := ownsRow_shape ho
  have c0 := hb.cell 0 rfl
  have c1 := hb.cell 1 rfl
  have c3 := hb.cell 3 rfl
  have f3 := hb.free 3
  go_enter Try.func14, Try.ntmps14
  go_wp2
  go_quiet (fail)
  go_wp2
  go_ret
  have hf : Fr (fun k => k = b) w ((w.drewN nq).setCell ⟨b, 3, none⟩ (.bool true)) := ((Fr.refl (fun k => k = b) w).drewN _).setCell _ (.inl rfl) _
  exact ⟨rfl, ⟨(hb.drewN nq).set 3 _, ownsRow_frame ho hf (fun k hk e => hne (by rw [hk, e])), hne⟩, hf⟩

set_option maxHeartbeats 800000 in
theorem rpush_room (b : Nat) (v : Value) (xs : List Int) (room high a : Int) (lost : Bool) (w : World) (h : Stk w 35 b v xs room high lost) (hr : xs.length < room) (hm : room ≤ 4096) :
    Calls Try.prog 14 #[.pointer (some ⟨b, 0, none⟩), .int .i64 a] w fun e w' => e = .returned (.bool true) ∧ ∃ v', Stk w' 35 b v' (xs ++ [a]) room (max high (xs.length + 1)) lost ∧
      Fr (fun k => k = b ∨ v.ownBlock = some k) w w' ∧ (∀ k, v'.ownBlock = some k → v.ownBlock = some k ∨ w.heap.size ≤ k) := by
  obtain ⟨hb, ho, hne⟩ := h
  obtain ⟨p, cap, rfl⟩ := ownsRow_shape ho
  obtain ⟨i0, hi, hz0, hz1, hz2⟩ := info_parts info_int
  have c0 := hb.cell 0 rfl
  have c1 := hb.cell 1 rfl
  have hlt := hb.lt
  go_enter Try.func14, Try.ntmps14
  go_wp2
  go_quiet (fail)
  go_wp2_with (at_builtin; refine Hid.out ?_)
  unfold Hid
  have hf0 : Fr (fun _ => False) w (((w.alloc (.cells #[.int .i64 a] 3))).drewN nq) := ((Fr.refl (fun _ => False) w).alloc _).drewN nq
  refine wpList_append_one rfl _ _ 22 rfl 3 i0 (.int .i64 0) 8 Try.underlying22 hi hz0 hz1 hz2 rfl (.slice p xs.length cap) xs.length (xs.map (.int .i64)) rfl (ownsRow_frame ho hf0 (fun _ _ h => h)) ⟨w.heap.size, 0, none⟩ _ (.int .i64 a) rfl (((Blk.new w [.int .i64 a] 3).drewN nq).cell 0 rfl) rfl (by unfold maxLen; omega) (by omega) ?_
  intro g cap' w1 ho1 hf1 hg1
  have hb1 := (hb.frame hf0 (fun h => h)).frame hf1 hne
  have d0 := hb1.cell 0 rfl
  have d2 := hb1.cell 2 rfl
  have e0 := hb1.free 0
  have e2 := hb1.free 2
  go_wp2
  refine region_tail 13 (by kernel_rfl) (by kernel_rfl) ?_
  simp only [List.take_succ_cons, List.take_zero, List.drop_succ_cons, List.drop_zero]
  repeat still_step
  refine wpStill_nil ?_
  go_wp2
  all_goals
    go_ret
    have hfr : ∀ x, Fr (fun k => k = b ∨ (Value.slice p xs.length cap).ownBlock = some k) w (((w1.setCell ⟨b, 0, none⟩ (.slice (some ⟨g, 0, none⟩) (xs.length + 1) cap')).setCell ⟨b, 2, none⟩ (.int .i64 x)).drew) := fun x =>
      ((((hf0.mono (fun _ h => h.elim)).trans hf1 (fun i hi => .inl (.inr hi))).setCell ⟨b, 0, none⟩ (.inl (.inl rfl)) _).setCell ⟨b, 2, none⟩ (.inl (.inl rfl)) _).drew
    have hgb : g ≠ b := by
      rcases hg1 with h | h
      · intro e; exact hne (by rw [h, e])
      · intro e; simp at h; omega
    have ho2 : ∀ x, (((w1.setCell ⟨b, 0, none⟩ (.slice (some ⟨g, 0, none⟩) (xs.length + 1) cap')).setCell ⟨b, 2, none⟩ (.int .i64 x)).drew).ownsRow 0 3 1 (.slice (some ⟨g, 0, none⟩) (xs.length + 1) cap') (xs ++ [a]).length ((xs ++ [a]).map (.int .i64)) := fun x => by
      have hf : Fr (fun k => k = b) w1 (((w1.setCell ⟨b, 0, none⟩ (.slice (some ⟨g, 0, none⟩) (xs.length + 1) cap')).setCell ⟨b, 2, none⟩ (.int .i64 x)).drew) :=
        (((Fr.refl (fun k => k = b) w1).setCell ⟨b, 0, none⟩ (.inl rfl) _).setCell ⟨b, 2, none⟩ (.inl rfl) _).drew
      have := ownsRow_frame ho1 hf (fun k hk e => hgb (by simp [Value.ownBlock] at hk; omega))
      simpa using this
    refine ⟨rfl, .slice (some ⟨g, 0, none⟩) (xs.length + 1) cap', ⟨?_, ho2 _, by simp [Value.ownBlock, hgb]⟩, hfr _, ?_⟩
    · have := ((hb1.set 0 (.slice (some ⟨g, 0, none⟩) (xs.length + 1) cap')).set 2 (.int .i64 (max high (xs.length + 1)))).drew
      first
        | exact this
        | (rw [show max high ((xs.length : Int) + 1) = (xs.length : Int) + 1 by omega] at this ⊢; exact this)
        | (rw [show max high ((xs.length : Int) + 1) = high by omega] at this ⊢; exact this)
    · intro k hk
      simp only [Value.ownBlock, Option.some.injEq] at hk
      subst hk
      rcases hg1 with h | h
      · exact .inl h
      · exact .inr (by simp at h; omega)


set_option maxHeartbeats 400000 in
theorem may_yes (room : Int) (w : World) (h1 : 1 ≤ room) (h2 : room ≤ 4096) :
    Calls Try.prog 11 #[.int .i64 room] w fun e w' => e = .returned (.bool true) ∧ w = w' := by
  go_enter Try.func11, Try.ntmps11
  go_wp2
  go_ret
  exact ⟨rfl, rfl⟩
set_option maxHeartbeats 400000 in
theorem may_no (room : Int) (w : World) (h1 : room < 1 ∨ 4096 < room) :
    Calls Try.prog 11 #[.int .i64 room] w fun e w' => e = .returned (.bool false) ∧ w = w' := by
  rcases h1 with h1 | h1
  · go_enter Try.func11, Try.ntmps11
    go_wp2
    go_ret
    exact ⟨rfl, rfl⟩
  · have h2 : 1 ≤ room := by omega
    go_enter Try.func11, Try.ntmps11
    go_wp2
    go_ret
    exact ⟨by simp; omega, rfl⟩

set_option maxHeartbeats 400000 in
theorem rpop_none (b : Nat) (v : Value) (room high : Int) (lost : Bool) (w : World) (h : Stk w 35 b v [] room high lost) :
    Calls Try.prog 12 #[.pointer (some ⟨b, 0, none⟩)] w fun e w' => e = .returned (.tuple #[.int .i64 0, .bool false]) ∧ w = w' := by
  obtain ⟨hb, ho, hne⟩ := h
  obtain ⟨p, cap, hv⟩ := ownsRow_shape ho
  simp only [List.length_nil] at hv
  subst hv
  have c0 := hb.cell 0 rfl
  go_enter Try.func12, Try.ntmps12
  go_wp2
  go_ret2
  exact ⟨rfl, rfl⟩

set_option maxHeartbeats 800000 in
theorem rpop_some (b : Nat) (v : Value) (xs : List Int) (x room high : Int) (lost : Bool) (w : World) (h : Stk w 35 b v (xs ++ [x]) room high lost) (hl : xs.length < 4096) :
    Calls Try.prog 12 #[.pointer (some ⟨b, 0, none⟩)] w fun e w' => e = .returned (.tuple #[.int .i64 x, .bool true]) ∧ ∃ v', Stk w' 35 b v' xs room high lost ∧
      Fr (fun k => k = b) w w' ∧ (∀ k, v'.ownBlock = some k → w.heap.size ≤ k) := by
  obtain ⟨hb, ho, hne⟩ := h
  simp only [List.length_append, List.length_cons, List.length_nil, List.map_append, List.map_cons, List.map_nil, Nat.zero_add] at ho
  obtain ⟨g, cap, rfl⟩ : ∃ g cap, v = .slice (some ⟨g, 0, none⟩) (xs.length + 1) cap := by
    rcases ho.2 with ⟨_, h⟩ | ⟨g, cap, cur, rfl, _⟩
    · omega
    · exact ⟨_, _, rfl⟩
  have hle : xs.length + 1 ≤ cap ∧ cap ≤ maxLen := by
    rcases ho.2 with ⟨h, _⟩ | ⟨g', cap', cur, hv, _, _, h1, h2, _⟩
    · cases h
    · cases hv; exact ⟨h1, h2⟩
  obtain ⟨hc1, hc2⟩ := hle
  unfold maxLen at hc2
  obtain ⟨ho', cx⟩ := ownsRow_pop1 ho
  obtain ⟨i0, hi, hz0, hz1, hz2⟩ := info_parts info_int
  have c0 := hb.cell 0 rfl
  have hlt := hb.lt
  have hp : 0 ≤ (xs.length : Int) := by omega
  have hz : ((((xs.length : Int) + 1) == 0) = false) := by rw [beq_eq_false_iff_ne]; omega
  go_enter Try.func12, Try.ntmps12
  go_wp2_with (at_builtin; refine Hid.out ?_)
  unfold Hid
  have hf0 : Fr (fun _ => False) w (w.alloc (.cells #[] 3)) := (Fr.refl _ w).alloc _
  have ho0 := ownsRow_frame ho' hf0 (fun _ _ h => h)
  refine wpList_append_own _ rfl _ _ 22 rfl w.heap.size 3 i0 (.int .i64 0) 1 8 Try.underlying22 hi hz0 hz1 hz2 rfl (by decide) (.slice (some ⟨w.heap.size, 0, none⟩) 0 0) 0 [] rfl ?_ ⟨g, 0, none⟩ xs.length cap (xs.map (.int .i64)) rfl (by simp) (ho0.cells (g := g) rfl) ?_ (by unfold maxLen; omega) (by omega) (by simp) ?_
  · exact World.ownsRow_made w #[] 0 (Nat.le_refl _) (by decide) rfl
  · intro u hu
    simp only [List.mem_map] at hu
    obtain ⟨y, _, rfl⟩ := hu
    rfl
  intro v' w1 ho1 hg1 hn1
  have hf1 : Fr (fun _ => False) w w1 := hf0.trans (Fr.of_grown hg1) (by intro i hi; simp [Value.ownBlock] at hi; omega)
  have hb1 := hb.frame hf1 (fun h => h)
  have d0 := hb1.cell 0 rfl
  have e0 := hb1.free 0
  simp only [Nat.zero_add, List.nil_append] at ho1
  obtain ⟨g2, cap2, rfl⟩ : ∃ g2 cap2, v' = .slice (some ⟨g2, 0, none⟩) xs.length cap2 := by
    rcases ho1.2 with ⟨h, h0⟩ | ⟨g2, cap2, cur, h, _⟩
    · rw [hn1] at h; simp at h
    · exact ⟨_, _, h⟩
  have hg2 : w.heap.size ≤ g2 := by
    rcases ho1.2 with ⟨h, _⟩ | ⟨g3, cap3, cur, h, hge, _⟩
    · cases h
    · cases h; exact hge
  clear hn1
  have Hg1 := Lib.hid hg1
  clear hg1
  go_wp2
  go_ret2
  have hs1 : Fr (fun k => k = b) w1 (w1.setCell ⟨b, 0, none⟩ (.slice (some ⟨g2, 0, none⟩) xs.length cap2)) := (Fr.refl (fun k => k = b) w1).setCell ⟨b, 0, none⟩ (.inl rfl) _
  refine ⟨rfl, .slice (some ⟨g2, 0, none⟩) xs.length cap2, ⟨hb1.set 0 _, ?_, ?_⟩, (hf1.mono (fun _ h => h.elim)).trans hs1 (fun i hi => .inl hi), ?_⟩
  · have : w1.ownsRow 0 3 1 (.slice (some ⟨g2, 0, none⟩) xs.length cap2) xs.length (xs.map (.int .i64)) := by
      refine ⟨ho1.1, ?_⟩
      rcases ho1.2 with h | ⟨g3, cap3, cur, h, _, r⟩
      · exact .inl h
      · exact .inr ⟨g3, cap3, cur, h, Nat.zero_le _, r⟩
    exact ownsRow_frame this hs1 (fun k hk e => by simp [Value.ownBlock] at hk; omega)
  · simp [Value.ownBlock]; omega
  · intro k hk; simp [Value.ownBlock] at hk; omega
end Go.Proofs.Ytkbdlhidenmfoaa
