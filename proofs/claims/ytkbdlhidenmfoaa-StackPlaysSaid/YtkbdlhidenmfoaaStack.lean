/- The walks of package stack and of its reference: what each method does to the stack's block and to its row. -/
import Derived.Test.YtkbdlhidenmfoaaBase
namespace Go.Proofs.Ytkbdlhidenmfoaa
open Go.RowKit

theorem info_int : (Try.prog.info? 3).map (fun i => (i.zero, i.size, i.bytes)) = some (some (.int .i64 0), 1, 8) := by kernel_rfl

/-- A stack's block, of type T, and its row. -/
def Stk (w : World) (T : TypeId) (b : Nat) (v : Value) (xs : List Int) (room high : Int) (lost : Bool) : Prop :=
  Blk w b [v, .int .i64 room, .int .i64 high, .bool lost] T ∧ w.ownsRow 0 3 1 v xs.length (xs.map (.int .i64)) ∧ v.ownBlock ≠ some b

theorem ownsRow_shape {w : World} {e : TypeId} {v : Value} {n : Nat} {xs : List Value} (h : w.ownsRow 0 e 1 v n xs) : ∃ p cap, v = .slice p n cap := by
  rcases h.2 with ⟨rfl, rfl⟩ | ⟨g, cap, cur, rfl, _⟩
  · exact ⟨_, _, rfl⟩
  · exact ⟨_, _, rfl⟩

set_option maxHeartbeats 400000 in
theorem new_ok (room : Int) (w : World) (h1 : 1 ≤ room) (h2 : room ≤ 4096) :
    Calls Try.prog 7 #[.int .i64 room] w fun e w' => e = .returned (.tuple #[.pointer (some ⟨w.heap.size, 0, none⟩), .int .i64 0]) ∧ w' = w.alloc (.cells #[.slice none 0 0, .int .i64 room, .int .i64 0, .bool false] 41) := by
  go_enter Try.func7, Try.ntmps7
  go_wp2
  go_ret2
  exact ⟨rfl, rfl⟩

set_option maxHeartbeats 400000 in
theorem new_no (room : Int) (w : World) (h1 : room < 1 ∨ 4096 < room) :
    Calls Try.prog 7 #[.int .i64 room] w fun e w' => e = .returned (.tuple #[.pointer none, .int .i64 5]) ∧ w = w' := by
  rcases h1 with h1 | h1
  · go_enter Try.func7, Try.ntmps7
    go_wp2
    go_ret2
    exact ⟨rfl, rfl⟩
  · have h2 : ¬ room < 1 := by omega
    go_enter Try.func7, Try.ntmps7
    go_wp2
    go_ret2
    exact ⟨rfl, rfl⟩

set_option maxHeartbeats 400000 in
theorem push_full (b : Nat) (v : Value) (xs : List Int) (room high a : Int) (lost : Bool) (w : World) (h : Stk w 41 b v xs room high lost) (hr : room ≤ xs.length) :
    Calls Try.prog 8 #[.pointer (some ⟨b, 0, none⟩), .int .i64 a] w fun e w' => e = .returned (.bool false) ∧ Stk w' 41 b v xs room high true ∧ Fr (fun k => k = b) w w' := by
  obtain ⟨hb, ho, hne⟩ := h
  obtain ⟨p, cap, rfl⟩ := ownsRow_shape ho
  have c0 := hb.cell 0 rfl
  have c1 := hb.cell 1 rfl
  have c3 := hb.cell 3 rfl
  have f3 := hb.free 3
  go_enter Try.func8, Try.ntmps8
  go_wp2
  go_quiet (fail)
  go_wp2
  go_ret
  have hf : Fr (fun k => k = b) w ((w.drewN nq).setCell ⟨b, 3, none⟩ (.bool true)) := ((Fr.refl (fun k => k = b) w).drewN _).setCell _ (.inl rfl) _
  exact ⟨rfl, ⟨(hb.drewN nq).set 3 _, ownsRow_frame ho hf (fun k hk e => hne (by rw [hk, e])), hne⟩, hf⟩

set_option maxHeartbeats 800000 in
theorem push_room (b : Nat) (v : Value) (xs : List Int) (room high a : Int) (lost : Bool) (w : World) (h : Stk w 41 b v xs room high lost) (hr : xs.length < room) (hm : room ≤ 4096) :
    Calls Try.prog 8 #[.pointer (some ⟨b, 0, none⟩), .int .i64 a] w fun e w' => e = .returned (.bool true) ∧ ∃ v', Stk w' 41 b v' (xs ++ [a]) room (max high (xs.length + 1)) lost ∧
      Fr (fun k => k = b ∨ v.ownBlock = some k) w w' ∧ (∀ k, v'.ownBlock = some k → v.ownBlock = some k ∨ w.heap.size ≤ k) := by
  obtain ⟨hb, ho, hne⟩ := h
  obtain ⟨p, cap, rfl⟩ := ownsRow_shape ho
  obtain ⟨i0, hi, hz0, hz1, hz2⟩ := info_parts info_int
  have c0 := hb.cell 0 rfl
  have c1 := hb.cell 1 rfl
  have hlt := hb.lt
  go_enter Try.func8, Try.ntmps8
  go_wp2
  go_quiet (fail)
  go_wp2_with (at_builtin; refine Hid.out ?_)
  unfold Hid
  have hf0 : Fr (fun _ => False) w (((w.alloc (.cells #[.int .i64 a] 3))).drewN nq) := ((Fr.refl (fun _ => False) w).alloc _).drewN nq
  refine wpList_append_one rfl _ _ 22 rfl 3 i0 (.int .i64 0) 8 Try.underlying22 hi hz0 hz1 hz2 rfl (.slice p xs.length cap) xs.length (xs.map (.int .i64)) rfl (ownsRow_frame ho hf0 (fun _ _ h => h)) ⟨w.heap.size, 0, none⟩ _ (.int .i64 a) rfl (((Blk.new w [.int .i64 a] 3).drewN nq).cell 0 rfl) rfl (by unfold maxLen; omega) (by omega) ?_
  intro g cap' w1 ho1 hf1 hg1
  have hb1 := (hb.frame hf0 (fun h => h)).frame hf1 hne
  have d0 := hb1.cell 0 rfl
  have d2 := hb1.cell 2 rfl
  have e0 := hb1.free 0
  have e2 := hb1.free 2
  go_wp2
  refine region_tail 13 (by kernel_rfl) (by kernel_rfl) ?_
  simp only [List.take_succ_cons, List.take_zero, List.drop_succ_cons, List.drop_zero]
  repeat still_step
  refine wpStill_nil ?_
  go_wp2
  all_goals
    go_ret
    have hfr : ∀ x, Fr (fun k => k = b ∨ (Value.slice p xs.length cap).ownBlock = some k) w (((w1.setCell ⟨b, 0, none⟩ (.slice (some ⟨g, 0, none⟩) (xs.length + 1) cap')).setCell ⟨b, 2, none⟩ (.int .i64 x)).drew) := fun x =>
      ((((hf0.mono (fun _ h => h.elim)).trans hf1 (fun i hi => .inl (.inr hi))).setCell ⟨b, 0, none⟩ (.inl (.inl rfl)) _).setCell ⟨b, 2, none⟩ (.inl (.inl rfl)) _).drew
    have hgb : g ≠ b := by
      rcases hg1 with h | h
      · intro e; exact hne (by rw [h, e])
      · intro e; simp at h; omega
    have ho2 : ∀ x, (((w1.setCell ⟨b, 0, none⟩ (.slice (some ⟨g, 0, none⟩) (xs.length + 1) cap')).setCell ⟨b, 2, none⟩ (.int .i64 x)).drew).ownsRow 0 3 1 (.slice (some ⟨g, 0, none⟩) (xs.length + 1) cap') (xs ++ [a]).length ((xs ++ [a]).map (.int .i64)) := fun x => by
      have hf : Fr (fun k => k = b) w1 (((w1.setCell ⟨b, 0, none⟩ (.slice (some ⟨g, 0, none⟩) (xs.length + 1) cap')).setCell ⟨b, 2, none⟩ (.int .i64 x)).drew) :=
        (((Fr.refl (fun k => k = b) w1).setCell ⟨b, 0, none⟩ (.inl rfl) _).setCell ⟨b, 2, none⟩ (.inl rfl) _).drew
      have := ownsRow_frame ho1 hf (fun k hk e => hgb (by simp [Value.ownBlock] at hk; omega))
      simpa using this
    refine ⟨rfl, .slice (some ⟨g, 0, none⟩) (xs.length + 1) cap', ⟨?_, ho2 _, by simp [Value.ownBlock, hgb]⟩, hfr _, ?_⟩
    · have := ((hb1.set 0 (.slice (some ⟨g, 0, none⟩) (xs.length + 1) cap')).set 2 (.int .i64 (max high (xs.length + 1)))).drew
      first
        | exact this
        | (rw [show max high ((xs.length : Int) + 1) = (xs.length : Int) + 1 by omega] at this ⊢; exact this)
        | (rw [show max high ((xs.length : Int) + 1) = high by omega] at this ⊢; exact this)
    · intro k hk
      simp only [Value.ownBlock, Option.some.injEq] at hk
      subst hk
      rcases hg1 with h | h
      · exact .inl h
      · exact .inr (by simp at h; omega)

/-- A method of a stack that only reads. -/
def Told (v : Value) (w : World) (e : Ending) (w' : World) : Prop := e = .returned v ∧ w' = w

set_option maxHeartbeats 400000 in
theorem len_some (b : Nat) (v : Value) (xs : List Int) (room high : Int) (lost : Bool) (w : World) (h : Stk w 41 b v xs room high lost) :
    Calls Try.prog 15 #[.pointer (some ⟨b, 0, none⟩)] w fun e w' => e = .returned (.int .i64 xs.length) ∧ w = w' := by
  obtain ⟨hb, ho, hne⟩ := h
  obtain ⟨p, cap, rfl⟩ := ownsRow_shape ho
  have c0 := hb.cell 0 rfl
  go_enter Try.func15, Try.ntmps15
  go_wp2
  go_ret
  exact ⟨rfl, rfl⟩

theorem len_n (b : Nat) (v : Value) (xs : List Int) (room high : Int) (lost : Bool) (w : World) (h : Stk w 41 b v xs room high lost) (m : Int) (hm : (xs.length : Int) = m) :
    Calls Try.prog 15 #[.pointer (some ⟨b, 0, none⟩)] w fun e w' => e = .returned (.int .i64 m) ∧ w = w' := by
  subst hm; exact len_some b v xs room high lost w h

set_option maxHeartbeats 400000 in
theorem high_some (b : Nat) (v : Value) (xs : List Int) (room high : Int) (lost : Bool) (w : World) (h : Stk w 41 b v xs room high lost) :
    Calls Try.prog 16 #[.pointer (some ⟨b, 0, none⟩)] w fun e w' => e = .returned (.int .i64 high) ∧ w = w' := by
  obtain ⟨hb, ho, hne⟩ := h
  have c2 := hb.cell 2 rfl
  go_enter Try.func16, Try.ntmps16
  go_wp2
  go_ret
  exact ⟨rfl, rfl⟩

set_option maxHeartbeats 400000 in
theorem lost_some (b : Nat) (v : Value) (xs : List Int) (room high : Int) (lost : Bool) (w : World) (h : Stk w 41 b v xs room high lost) :
    Calls Try.prog 9 #[.pointer (some ⟨b, 0, none⟩)] w fun e w' => e = .returned (.bool lost) ∧ w = w' := by
  obtain ⟨hb, ho, hne⟩ := h
  have c3 := hb.cell 3 rfl
  go_enter Try.func9, Try.ntmps9
  go_wp2
  go_ret
  exact ⟨rfl, rfl⟩

set_option maxHeartbeats 400000 in
theorem found_some (b : Nat) (v : Value) (xs : List Int) (room high : Int) (lost : Bool) (w : World) (h : Stk w 41 b v xs room high lost) :
    Calls Try.prog 13 #[.pointer (some ⟨b, 0, none⟩)] w fun e w' => e = .returned (.tuple #[]) ∧ Stk w' 41 b v xs room high false ∧ Fr (fun k => k = b) w w' := by
  obtain ⟨hb, ho, hne⟩ := h
  have c3 := hb.cell 3 rfl
  have f3 := hb.free 3
  go_enter Try.func13, Try.ntmps13
  go_wp2
  go_end0
  have hf : Fr (fun k => k = b) w (w.setCell ⟨b, 3, none⟩ (.bool false)) := (Fr.refl (fun k => k = b) w).setCell _ (.inl rfl) _
  exact ⟨rfl, ⟨hb.set 3 _, ownsRow_frame ho hf (fun k hk e => hne (by rw [hk, e])), hne⟩, hf⟩

set_option maxHeartbeats 400000 in
theorem pop_none (b : Nat) (v : Value) (room high : Int) (lost : Bool) (w : World) (h : Stk w 41 b v [] room high lost) :
    Calls Try.prog 10 #[.pointer (some ⟨b, 0, none⟩)] w fun e w' => e = .returned (.tuple #[.int .i64 0, .bool false]) ∧ w = w' := by
  go_enter Try.func10, Try.ntmps10
  go_wp2_with (go_at_call 15; refine (len_some b v [] room high lost _ h).mono ?_; rintro e w' ⟨rfl, rfl⟩)
  go_ret2
  exact ⟨rfl, rfl⟩

theorem ownsRow_pop1 {w : World} {e : TypeId} {g n cap : Nat} {xs : List Value} {x : Value} (h : w.ownsRow 0 e 1 (.slice (some ⟨g, 0, none⟩) (n + 1) cap) (n + 1) (xs ++ [x])) :
    w.ownsRow 0 e 1 (.slice (some ⟨g, 0, none⟩) n cap) n xs ∧ w.cell? ⟨g, n, none⟩ = some x := by
  have hl := h.1
  have hln : xs.length = n := by simpa using hl
  rcases h.2 with ⟨h, _⟩ | ⟨g', cap', cur, hv, hb, hg, hnc, hcm, hcs, htake⟩
  · cases h
  · cases hv
    simp only [Nat.mul_one] at htake hcs
    refine ⟨⟨by simp [hln], .inr ⟨g, cap, cur, rfl, hb, hg, by omega, hcm, by simpa using hcs, ?_⟩⟩, ?_⟩
    · have := congrArg (List.take n) htake
      rw [List.take_take, show min n (n + 1) = n by omega, List.take_left' hln] at this
      simpa using this
    · rw [cell_of_row w g n cur e (0, 0) hg]
      have := congrArg (fun l => l[n]?) htake
      rw [← hln] at this ⊢
      simpa using this

set_option maxHeartbeats 400000 in
theorem pop_some (b : Nat) (v : Value) (xs : List Int) (x room high : Int) (lost : Bool) (w : World) (h : Stk w 41 b v (xs ++ [x]) room high lost) (hl : xs.length < 4096) :
    Calls Try.prog 10 #[.pointer (some ⟨b, 0, none⟩)] w fun e w' => e = .returned (.tuple #[.int .i64 x, .bool true]) ∧ ∃ v', Stk w' 41 b v' xs room high lost ∧
      Fr (fun k => k = b) w w' ∧ v'.ownBlock = v.ownBlock := by
  have h0 := h
  obtain ⟨hb, ho, hne⟩ := h
  simp only [List.length_append, List.length_cons, List.length_nil, List.map_append, List.map_cons, List.map_nil, Nat.zero_add] at ho
  obtain ⟨g, cap, rfl⟩ : ∃ g cap, v = .slice (some ⟨g, 0, none⟩) (xs.length + 1) cap := by
    rcases ho.2 with ⟨_, h⟩ | ⟨g, cap, cur, rfl, _⟩
    · omega
    · exact ⟨_, _, rfl⟩
  have hle : xs.length + 1 ≤ cap ∧ cap ≤ maxLen := by
    rcases ho.2 with ⟨h, _⟩ | ⟨g', cap', cur, hv, _, _, h1, h2, _⟩
    · cases h
    · cases hv; exact ⟨h1, h2⟩
  obtain ⟨hc1, hc2⟩ := hle
  unfold maxLen at hc2
  obtain ⟨ho', cx⟩ := ownsRow_pop1 ho
  have c0 := hb.cell 0 rfl
  have f0 := hb.free 0
  have hp : 0 ≤ (xs.length : Int) := by omega
  have hz : ((((xs.length : Int) + 1) == 0) = false) := by rw [beq_eq_false_iff_ne]; omega
  go_enter Try.func10, Try.ntmps10
  go_wp2_with (go_at_call 15; refine (len_n b _ _ room high lost _ h0 ((xs.length : Int) + 1) (by simp)).mono ?_; rintro e w' ⟨rfl, rfl⟩)
  go_ret2
  refine ⟨rfl, .slice (some ⟨g, 0, none⟩) xs.length cap, ⟨hb.set 0 _, ?_, hne⟩, (Fr.refl (fun k => k = b) w).setCell ⟨b, 0, none⟩ (.inl rfl) _, rfl⟩
  exact ownsRow_frame ho' ((Fr.refl (fun k => k = b) w).setCell ⟨b, 0, none⟩ (.inl rfl) _) (fun k hk e => hne (by subst e; exact hk))
/-! ### A stack that nobody made. -/
set_option maxHeartbeats 400000 in
theorem len_nil (w : World) : Calls Try.prog 15 #[.pointer none] w fun e w' => e = .returned (.int .i64 0) ∧ w = w' := by
  go_enter Try.func15, Try.ntmps15
  go_wp2
  go_ret
  exact ⟨rfl, rfl⟩
set_option maxHeartbeats 400000 in
theorem high_nil (w : World) : Calls Try.prog 16 #[.pointer none] w fun e w' => e = .returned (.int .i64 0) ∧ w = w' := by
  go_enter Try.func16, Try.ntmps16
  go_wp2
  go_ret
  exact ⟨rfl, rfl⟩
set_option maxHeartbeats 400000 in
theorem lost_nil (w : World) : Calls Try.prog 9 #[.pointer none] w fun e w' => e = .returned (.bool false) ∧ w = w' := by
  go_enter Try.func9, Try.ntmps9
  go_wp2
  go_ret
  exact ⟨rfl, rfl⟩
set_option maxHeartbeats 400000 in
theorem found_nil (w : World) : Calls Try.prog 13 #[.pointer none] w fun e w' => e = .returned (.tuple #[]) ∧ w = w' := by
  go_enter Try.func13, Try.ntmps13
  go_wp2
  go_end0
  exact ⟨rfl, rfl⟩
set_option maxHeartbeats 400000 in
theorem push_nil (a : Int) (w : World) : Calls Try.prog 8 #[.pointer none, .int .i64 a] w fun e w' => e = .returned (.bool false) ∧ w = w' := by
  go_enter Try.func8, Try.ntmps8
  go_wp2
  go_ret
  exact ⟨rfl, rfl⟩
set_option maxHeartbeats 400000 in
theorem pop_nil (w : World) : Calls Try.prog 10 #[.pointer none] w fun e w' => e = .returned (.tuple #[.int .i64 0, .bool false]) ∧ w = w' := by
  go_enter Try.func10, Try.ntmps10
  go_wp2_with (go_at_call 15; refine (len_nil _).mono ?_; rintro e w' ⟨rfl, rfl⟩)
  go_ret2
  exact ⟨rfl, rfl⟩

end Go.Proofs.Ytkbdlhidenmfoaa
