/- The walk of the law StackPlays: a stack and its reference, act by act. -/
import Derived.Test.YtkbdlhidenmfoaaStackRef
import Derived.Test.YtkbdlhidenmfoaaStackLaw
import Derived.Test.YtkbdlhidenmfoaaFlat
import Derived.Deep.RegionHeld3
namespace Go.Proofs.Ytkbdlhidenmfoaa
open Go.RowKit

/-- The stack in block b1 and the reference in block b2 tell the same. -/
def Two (w0 : World) (b1 b2 : Nat) (R : Int) (wr : World) : Prop :=
  ∃ v1 v2 xs high lost, Stk wr 41 b1 v1 xs R high lost ∧ Stk wr 35 b2 v2 xs R high lost ∧ (∀ i, v1.ownBlock = some i → w0.heap.size ≤ i ∧ i ≠ b2) ∧
    (∀ i, v2.ownBlock = some i → w0.heap.size ≤ i ∧ i ≠ b1 ∧ v1.ownBlock ≠ some i) ∧ (xs.length : Int) ≤ R ∧ Fr (fun _ => False) w0 wr

theorem Stk.frame {S : Nat → Prop} {w w' : World} {T : TypeId} {b : Nat} {v : Value} {xs : List Int} {room high : Int} {lost : Bool} (h : Stk w T b v xs room high lost) (hf : Fr S w w') (h1 : ¬ S b) (h2 : ∀ k, v.ownBlock = some k → ¬ S k) :
    Stk w' T b v xs room high lost := ⟨h.1.frame hf h1, ownsRow_frame h.2.1 hf h2, h.2.2⟩

theorem own_lt {w : World} {e : TypeId} {n : Nat} {v : Value} {xs : List Value} (h : w.ownsRow 0 e 1 v n xs) {k : Nat} (hk : v.ownBlock = some k) : k < w.heap.size := (h.lt k hk).2

theorem Two.frame {w0 wr w' : World} {b1 b2 : Nat} {R : Int} (h : Two w0 b1 b2 R wr) (hf : Fr (fun _ => False) wr w') : Two w0 b1 b2 R w' := by
  obtain ⟨v1, v2, xs, high, lost, h1, h2, h3, h4, h5, h6⟩ := h
  exact ⟨v1, v2, xs, high, lost, h1.frame hf (fun h => h) (fun _ _ h => h), h2.frame hf (fun h => h) (fun _ _ h => h), h3, h4, h5, h6.trans hf (fun _ h => h.elim)⟩

theorem Stk.drew {w : World} {T : TypeId} {b : Nat} {v : Value} {xs : List Int} {room high : Int} {lost : Bool} (h : Stk w T b v xs room high lost) : Stk w.drew T b v xs room high lost :=
  h.frame (S := fun _ => False) (Fr.refl _ w).drew (fun h => h) (fun _ _ h => h)

theorem Stk.drewN {w : World} {T : TypeId} {b : Nat} {v : Value} {xs : List Int} {room high : Int} {lost : Bool} (h : Stk w T b v xs room high lost) (n : Nat) : Stk (w.drewN n) T b v xs room high lost :=
  h.frame (S := fun _ => False) ((Fr.refl _ w).drewN n) (fun h => h) (fun _ _ h => h)

theorem Fr.cell {S : Nat → Prop} {w w' : World} (hf : Fr S w w') {a : Addr} {v : Value} (h : w.cell? a = some v) (hn : ¬ S a.block) : w'.cell? a = some v :=
  (World.cell?_of_block (w := w) (hf.block a.block (cell_lt h) hn)).trans h

/-- Behind a push on the stack that found room. -/
theorem Two.pushed {w0 wr w1 w2 : World} {b1 b2 : Nat} {R a : Int} {v1 v2 v1' v2' : Value} {xs : List Int} {high : Int} {lost : Bool} (h1 : Stk wr 41 b1 v1 xs R high lost) (h2 : Stk wr 35 b2 v2 xs R high lost)
    (h3 : ∀ i, v1.ownBlock = some i → w0.heap.size ≤ i ∧ i ≠ b2) (h4 : ∀ i, v2.ownBlock = some i → w0.heap.size ≤ i ∧ i ≠ b1 ∧ v1.ownBlock ≠ some i) (h5 : (xs.length : Int) < R) (h6 : Fr (fun _ => False) w0 wr)
    (hb1 : w0.heap.size ≤ b1) (hb2 : w0.heap.size ≤ b2) (hne : b1 ≠ b2)
    (k1 : Stk w1 41 b1 v1' (xs ++ [a]) R (max high (xs.length + 1)) lost) (f1 : Fr (fun k => k = b1 ∨ v1.ownBlock = some k) wr w1) (g1 : ∀ k, v1'.ownBlock = some k → v1.ownBlock = some k ∨ wr.heap.size ≤ k)
    (k2 : Stk w2 35 b2 v2' (xs ++ [a]) R (max high (xs.length + 1)) lost) (f2 : Fr (fun k => k = b2 ∨ v2.ownBlock = some k) w1 w2) (g2 : ∀ k, v2'.ownBlock = some k → v2.ownBlock = some k ∨ w1.heap.size ≤ k) :
    Two w0 b1 b2 R w2 := by
  have hs := h6.size
  have l1 := h1.1.lt
  have l2 := h2.1.lt
  have s1 := f1.size
  refine ⟨v1', v2', xs ++ [a], _, lost, k1.frame f2 ?_ ?_, k2, ?_, ?_, by simp; omega, ?_⟩
  · rintro (h | h)
    · exact hne h
    · exact (h4 _ h).2.1 rfl
  · rintro k hk (h | h)
    · subst h
      rcases g1 k hk with h | h
      · exact (h3 _ h).2 rfl
      · omega
    · rcases g1 k hk with h' | h'
      · exact (h4 _ h).2.2 h'
      · have := own_lt h2.2.1 h; omega
  · intro i hi
    rcases g1 i hi with h | h
    · exact h3 i h
    · omega
  · intro i hi
    rcases g2 i hi with h | h
    · refine ⟨(h4 i h).1, (h4 i h).2.1, fun e => ?_⟩
      rcases g1 i e with h' | h'
      · exact (h4 i h).2.2 h'
      · have := own_lt h2.2.1 h; omega
    · exact ⟨by omega, by omega, fun e => by have := own_lt k1.2.1 e; omega⟩
  · refine (h6.trans f1 ?_).trans f2 ?_
    · rintro i (h | h)
      · exact .inr (by omega)
      · exact .inr (h3 i h).1
    · rintro i (h | h)
      · exact .inr (by omega)
      · exact .inr (h4 i h).1

/-- Behind any of the others: both blocks, and a row that is new or was the stack's own. -/
theorem Two.other {w0 wr w1 w2 : World} {b1 b2 : Nat} {R : Int} {v1 v2 v1' v2' : Value} {xs ys : List Int} {high : Int} {lost lost' : Bool} (h1 : Stk wr 41 b1 v1 xs R high lost) (h2 : Stk wr 35 b2 v2 xs R high lost)
    (h3 : ∀ i, v1.ownBlock = some i → w0.heap.size ≤ i ∧ i ≠ b2) (h4 : ∀ i, v2.ownBlock = some i → w0.heap.size ≤ i ∧ i ≠ b1 ∧ v1.ownBlock ≠ some i) (h6 : Fr (fun _ => False) w0 wr)
    (hb1 : w0.heap.size ≤ b1) (hb2 : w0.heap.size ≤ b2) (hne : b1 ≠ b2) (hys : (ys.length : Int) ≤ R)
    (k1 : Stk w1 41 b1 v1' ys R high lost') (f1 : Fr (fun k => k = b1) wr w1) (g1 : v1'.ownBlock = v1.ownBlock)
    (k2 : Stk w2 35 b2 v2' ys R high lost') (f2 : Fr (fun k => k = b2) w1 w2) (g2 : ∀ k, v2'.ownBlock = some k → v2.ownBlock = some k ∨ w1.heap.size ≤ k) :
    Two w0 b1 b2 R w2 := by
  have hs := h6.size
  have l1 := h1.1.lt
  have l2 := h2.1.lt
  have s1 := f1.size
  refine ⟨v1', v2', ys, _, lost', k1.frame f2 hne ?_, k2, ?_, ?_, hys, ?_⟩
  · intro k hk h
    subst h
    rw [g1] at hk
    exact (h3 _ hk).2 rfl
  · intro i hi; rw [g1] at hi; exact h3 i hi
  · intro i hi
    rw [g1]
    rcases g2 i hi with h | h
    · exact h4 i h
    · exact ⟨by omega, by omega, fun e => by have := own_lt h1.2.1 e; omega⟩
  · exact (h6.trans f1 (fun i h => .inr (by omega))).trans f2 (fun i h => .inr (by omega))

/-- What acts that came in are: pairs of cells. -/
def Acts (w : World) (p : Option Addr) (len : Nat) : Prop :=
  ∀ i, i < len → ∃ b off k n, p = some ⟨b, off, none⟩ ∧ 0 ≤ k ∧ k ≤ 255 ∧ w.cell? ⟨b, off + i * 2, none⟩ = some (.int .u8 k) ∧ w.cell? ⟨b, off + i * 2 + 1, none⟩ = some (.int .i64 n)

theorem Acts.frame {w w' : World} {p : Option Addr} {len : Nat} (h : Acts w p len) (hf : Fr (fun _ => False) w w') : Acts w' p len := fun i hi =>
  let ⟨b, off, k, n, hp, h1, h2, hc, hd⟩ := h i hi
  ⟨b, off, k, n, hp, h1, h2, (World.cell?_of_block (w := w) (hf.block b (cell_lt hc) (fun h => h))).trans hc, (World.cell?_of_block (w := w) (hf.block b (cell_lt hc) (fun h => h))).trans hd⟩

set_option maxHeartbeats 2000000 in
set_option maxRecDepth 100000 in
theorem plays_any (R : Int) (p : Option Addr) (len cap : Nat) (w : World) (hz : Acts w p len) :
    Calls Try.prog 4 #[.int .i64 R, .slice p len cap] w fun e w' => e = .returned (.bool true) ∧ Fr (fun _ => False) w w' := by
  by_cases hmay : R < 1 ∨ 4096 < R
  · go_enter Try.func4, Try.ntmps4
    go_wp2_with (first | (go_at_call 7; refine (new_no _ _ hmay).mono ?_; rintro e w' ⟨rfl, rfl⟩) | (go_at_call 11; refine (may_no _ _ hmay).mono ?_; rintro e w' ⟨rfl, rfl⟩) | (go_at_call 6; refine (lives_any _).mono ?_; rintro e w' ⟨rfl, hf⟩))
    go_ret
    exact ⟨rfl, hf⟩
  have m1 : 1 ≤ R := by omega
  have m2 : R ≤ 4096 := by omega
  clear hmay
  by_cases h300 : 300 < len
  · go_enter Try.func4, Try.ntmps4
    go_wp2_with (first | (go_at_call 7; refine (new_ok _ _ m1 m2).mono ?_; rintro e w' ⟨rfl, rfl⟩) | (go_at_call 11; refine (may_yes _ _ m1 m2).mono ?_; rintro e w' ⟨rfl, rfl⟩) | (go_at_call 6; refine (lives_any _).mono ?_; rintro e w' ⟨rfl, hf⟩))
    go_ret
    exact ⟨rfl, ((Fr.refl _ w).alloc _).trans hf (fun _ h => h.elim)⟩
  have h300' : len ≤ 300 := by omega
  go_enter Try.func4, Try.ntmps4
  go_wp2_with (first | (go_at_call 7; refine (new_ok _ _ m1 m2).mono ?_; rintro e w' ⟨rfl, rfl⟩) | (go_at_call 11; refine (may_yes _ _ m1 m2).mono ?_; rintro e w' ⟨rfl, rfl⟩))
  have b0 : Two w w.heap.size (w.heap.size + 1) R ((w.alloc (.cells #[.slice none 0 0, .int .i64 R, .int .i64 0, .bool false] 41)).alloc (.cells #[.slice none 0 0, .int .i64 R, .int .i64 0, .bool false] 35)) := by
    have k1 := new_stk w R 41
    have k2 := new_stk (w.alloc (.cells #[.slice none 0 0, .int .i64 R, .int .i64 0, .bool false] 41)) R 35
    rw [World.size_alloc] at k2
    exact ⟨_, _, [], 0, false, k1.frame ((Fr.refl (fun _ => False) _).alloc _) (fun h => h) (fun _ _ h => h), k2, by simp [Value.ownBlock], by simp [Value.ownBlock], by simp; omega, ((Fr.refl _ w).alloc _).alloc _⟩
  have hb1 : w.heap.size ≤ w.heap.size := Nat.le_refl _
  have hb2 : w.heap.size ≤ w.heap.size + 1 := Nat.le_succ _
  have hb3 : w.heap.size ≠ w.heap.size + 1 := by omega
  generalize ((w.alloc (.cells #[.slice none 0 0, .int .i64 R, .int .i64 0, .bool false] 41)).alloc (.cells #[.slice none 0 0, .int .i64 R, .int .i64 0, .bool false] 35)) = w1 at b0 ⊢
  generalize HB1 : w.heap.size = b1 at b0 hb1 hb2 hb3 ⊢
  have HB1' := Lib.hid HB1
  clear HB1
  generalize b1 + 1 = b2 at b0 hb2 hb3 ⊢
  go_loopw [53] (fun i wr => ∃ k : Nat, k ≤ len ∧ i = .int .i64 k ∧ Two w b1 b2 R wr) (fun i _ => len - (intOf i).toNat)
  case atStart => exact ⟨0, Nat.zero_le _, rfl, b0⟩
  case round =>
    obtain ⟨k, hk, rfl, hT⟩ := hrel
    clear b0
    by_cases hlt : k < len
    · obtain ⟨v1, v2, xs, high, lost, s1, s2, t1, t2, hx, hf⟩ := hT
      obtain ⟨pb, off, a, n, rfl, ha0, ha1, hc, hd⟩ := hz.frame hf k hlt
      have hm : a % 8 < 4 ∨ (a % 8 = 4 ∨ a % 8 = 5 ∨ a % 8 = 6) ∨ a % 8 = 7 := by omega
      rcases hm with hm | hm | hm
      · have g4 : (a % 8 == 4) = false := by rw [beq_eq_false_iff_ne]; omega
        have g5 : (a % 8 == 5) = false := by rw [beq_eq_false_iff_ne]; omega
        have g6 : (a % 8 == 6) = false := by rw [beq_eq_false_iff_ne]; omega
        have g7 : (a % 8 == 7) = false := by rw [beq_eq_false_iff_ne]; omega
        clear hm
        go_wp2_with fail
        have hwa : Fr (fun _ => False) wr (wr.alloc (.cells #[.int .u8 a, .int .i64 n] 37)) := (Fr.refl _ wr).alloc _
        have hcl : (wr.alloc (.cells #[.int .u8 a, .int .i64 n] 37)).cell? ⟨wr.heap.size, 1, none⟩ = some (.int .i64 n) := (Blk.new wr [.int .u8 a, .int .i64 n] 37).cell 1 rfl
        have s1' := s1.frame hwa (fun h => h) (fun _ _ h => h)
        have s2' := s2.frame hwa (fun h => h) (fun _ _ h => h)
        have hfa := hf.trans hwa (fun _ h => h.elim)
        have hne1 : wr.heap.size ≠ b1 := by have := s1.1.lt; omega
        have hno1 : ∀ i, v1.ownBlock = some i → wr.heap.size ≠ i := fun i hi => by have := own_lt s1.2.1 hi; omega
        have hne2 : wr.heap.size ≠ b2 := by have := s2.1.lt; omega
        have hno2 : ∀ i, v2.ownBlock = some i → wr.heap.size ≠ i := fun i hi => by have := own_lt s2.2.1 hi; omega
        generalize wr.alloc (.cells #[.int .u8 a, .int .i64 n] 37) = wa at hwa hcl s1' s2' hfa ⊢
        generalize wr.heap.size = loc at hcl hne1 hno1 hne2 hno2 ⊢
        clear s1 s2 hwa hc hd hf
        by_cases hroom : (xs.length : Int) < R
        · have s2d := s2'.drew
          have hcd : wa.drew.cell? ⟨loc, 1, none⟩ = some (.int .i64 n) := hcl
          go_region_held3 (fun w' => w'.cell? ⟨loc, 1, none⟩ = some (.int .i64 n)) (first | exact hcd | exact hcl | exact hcl1 | exact hcl2) (first | (go_at_call 8; refine (push_room b1 v1 xs R high n lost _ (by exact s1'.drew) hroom m2).mono ?_; rintro e w1 ⟨rfl, v1', k1, f1, g1⟩; have hcl1 := f1.cell hcd (by rintro (h | h); exact hne1 h; exact hno1 _ h rfl); have k2 := s2d.frame f1 (by rintro (h | h); exact hb3 h.symm; exact (t1 _ h).2 rfl) (by rintro i hi (h | h); exact (t2 i hi).2.1 h; exact (t2 i hi).2.2 h)) | (go_at_call 14; refine (rpush_room b2 v2 xs R high n lost _ k2 hroom m2).mono ?_; rintro e w2 ⟨rfl, v2', k3, f2, g2⟩; have hcl2 := f2.cell hcl1 (by rintro (h | h); exact hne2 h; exact hno2 _ h rfl)))
          have hTwo : Two w b1 b2 R w2 := Two.pushed (s1'.drew) s2d t1 t2 hroom (hfa.drew) (Nat.le_of_eq HB1'.out) (by rw [HB1'.out]; exact hb2) hb3 k1 f1 g1 k3 f2 g2
          clear s2d hcd k1 f1 g1 hcl1 k2 k3 f2 g2 hcl2 s1' s2' hfa hcl hne1 hno1 hne2 hno2 t1 t2 hx hroom
          have hTwo' := Lib.hid hTwo
          obtain ⟨va, vb, ys, hi, lo, HS, HT, t3, t4, hy, hfz⟩ := hTwo
          obtain ⟨q, qcap, rfl⟩ := ownsRow_shape HT.2.1
          have c0 := HT.1.cell 0 rfl
          have c2 := HT.1.cell 2 rfl
          have c3 := HT.1.cell 3 rfl
          have e1 : ((ys.length : Int) != ys.length) = false := by simp
          have e2 : (hi != hi) = false := by simp
          have e3 : (lo != lo) = false := by simp
          go_wp2
          go_quiet (first | (go_at_call 15; exact Calls.quiet_of_same ((len_some _ _ _ _ _ _ _ (by exact HS.drewN _)).mono fun _ _ h => ⟨h.1, h.2.symm⟩)) | (go_at_call 16; exact Calls.quiet_of_same ((high_some _ _ _ _ _ _ _ (by exact HS.drewN _)).mono fun _ _ h => ⟨h.1, h.2.symm⟩)) | (go_at_call 9; exact Calls.quiet_of_same ((lost_some _ _ _ _ _ _ _ (by exact HS.drewN _)).mono fun _ _ h => ⟨h.1, h.2.symm⟩)))
          go_wp2
          have hTd : Two w b1 b2 R (w2.drewN nq) := hTwo'.out.frame ((Fr.refl _ _).drewN _)
          go_roundw
          case rel => exact ⟨k + 1, by omega, by go_num, hTd⟩
          case measure => simp [intOf]; omega
        · have hfull : R ≤ (xs.length : Int) := by omega
          have s2d := s2'.drew
          have hcd : wa.drew.cell? ⟨loc, 1, none⟩ = some (.int .i64 n) := hcl
          go_region_held3 (fun w' => w'.cell? ⟨loc, 1, none⟩ = some (.int .i64 n)) (first | exact hcd | exact hcl | exact hcl1 | exact hcl2) (first | (go_at_call 8; refine (push_full b1 v1 xs R high n lost _ (by exact s1'.drew) hfull).mono ?_; rintro e w1 ⟨rfl, k1, f1⟩; have hcl1 := f1.cell hcd hne1; have k2 := s2d.frame f1 (fun h => hb3 h.symm) (fun i hi h => (t2 i hi).2.1 h)) | (go_at_call 14; refine (rpush_full b2 v2 xs R high n lost _ k2 hfull).mono ?_; rintro e w2 ⟨rfl, k3, f2⟩; have hcl2 := f2.cell hcl1 hne2))
          have hTwo : Two w b1 b2 R w2 := Two.other (s1'.drew) s2d t1 t2 (hfa.drew) (Nat.le_of_eq HB1'.out) (by rw [HB1'.out]; exact hb2) hb3 hx k1 f1 rfl k3 f2 (fun _ h => .inl h)
          clear s2d hcd k1 f1 hcl1 k2 k3 f2 hcl2 s1' s2' hfa hcl hne1 hno1 hne2 hno2 t1 t2 hx hroom hfull
          have hTwo' := Lib.hid hTwo
          obtain ⟨va, vb, ys, hi, lo, HS, HT, t3, t4, hy, hfz⟩ := hTwo
          obtain ⟨q, qcap, rfl⟩ := ownsRow_shape HT.2.1
          have c0 := HT.1.cell 0 rfl
          have c2 := HT.1.cell 2 rfl
          have c3 := HT.1.cell 3 rfl
          have e1 : ((ys.length : Int) != ys.length) = false := by simp
          have e2 : (hi != hi) = false := by simp
          have e3 : (lo != lo) = false := by simp
          go_wp2
          go_quiet (first | (go_at_call 15; exact Calls.quiet_of_same ((len_some _ _ _ _ _ _ _ (by exact HS.drewN _)).mono fun _ _ h => ⟨h.1, h.2.symm⟩)) | (go_at_call 16; exact Calls.quiet_of_same ((high_some _ _ _ _ _ _ _ (by exact HS.drewN _)).mono fun _ _ h => ⟨h.1, h.2.symm⟩)) | (go_at_call 9; exact Calls.quiet_of_same ((lost_some _ _ _ _ _ _ _ (by exact HS.drewN _)).mono fun _ _ h => ⟨h.1, h.2.symm⟩)))
          go_wp2
          have hTd : Two w b1 b2 R (w2.drewN nq) := hTwo'.out.frame ((Fr.refl _ _).drewN _)
          go_roundw
          case rel => exact ⟨k + 1, by omega, by go_num, hTd⟩
          case measure => simp [intOf]; omega
      · rcases hm with hm | hm | hm
        · have g4 : (a % 8 == 4) = true := by rw [beq_iff_eq]; omega
          clear hm
          go_wp2_with fail
          have hwa : Fr (fun _ => False) wr (wr.alloc (.cells #[.int .u8 a, .int .i64 n] 37)) := (Fr.refl _ wr).alloc _
          have s1' := s1.frame hwa (fun h => h) (fun _ _ h => h)
          have s2' := s2.frame hwa (fun h => h) (fun _ _ h => h)
          have hfa := hf.trans hwa (fun _ h => h.elim)
          generalize wr.alloc (.cells #[.int .u8 a, .int .i64 n] 37) = wa at hwa s1' s2' hfa ⊢
          clear s1 s2 hwa hc hd hf
          have hx' : xs.length ≤ 4096 := by omega
          rcases List.eq_nil_or_concat xs with hxs | ⟨zs, x, hxs⟩
          · subst hxs
            refine (pop_none _ _ _ _ _ _ s1').mono ?_
            rintro e w1 ⟨rfl, rfl⟩
            go_wp2_with fail
            refine (rpop_none _ _ _ _ _ _ s2').mono ?_
            rintro e w2 ⟨rfl, rfl⟩
            have hTwo : Two w b1 b2 R wa := ⟨_, _, _, _, _, s1', s2', t1, t2, hx, hfa⟩
            clear s1' s2' hfa t1 t2 hx hx'
            have hTwo' := Lib.hid hTwo
            obtain ⟨va, vb, ys, hi, lo, HS, HT, t3, t4, hy, hfz⟩ := hTwo
            obtain ⟨q, qcap, rfl⟩ := ownsRow_shape HT.2.1
            have c0 := HT.1.cell 0 rfl
            have c2 := HT.1.cell 2 rfl
            have c3 := HT.1.cell 3 rfl
            have e1 : ((ys.length : Int) != ys.length) = false := by simp
            have e2 : (hi != hi) = false := by simp
            have e3 : (lo != lo) = false := by simp
            go_wp2
            go_quiet (first | (go_at_call 15; exact Calls.quiet_of_same ((len_some _ _ _ _ _ _ _ (by exact HS.drewN _)).mono fun _ _ h => ⟨h.1, h.2.symm⟩)) | (go_at_call 16; exact Calls.quiet_of_same ((high_some _ _ _ _ _ _ _ (by exact HS.drewN _)).mono fun _ _ h => ⟨h.1, h.2.symm⟩)) | (go_at_call 9; exact Calls.quiet_of_same ((lost_some _ _ _ _ _ _ _ (by exact HS.drewN _)).mono fun _ _ h => ⟨h.1, h.2.symm⟩)))
            go_wp2
            have hTd : Two w b1 b2 R (wa.drewN nq) := hTwo'.out.frame ((Fr.refl _ _).drewN _)
            go_roundw
            case rel => exact ⟨k + 1, by omega, by go_num, hTd⟩
            case measure => simp [intOf]; omega
          · simp only [List.concat_eq_append] at hxs
            subst hxs
            refine (pop_some _ _ zs x _ _ _ _ s1' (by simp at hx'; omega)).mono ?_
            rintro e w1 ⟨rfl, v1', k1, f1, g1⟩
            have k2 := s2'.frame f1 (fun h => hb3 h.symm) (fun i hi h => (t2 i hi).2.1 h)
            go_wp2_with fail
            refine (rpop_some _ _ zs x _ _ _ _ k2 (by simp at hx'; omega)).mono ?_
            rintro e w2 ⟨rfl, v2', k3, f2, g2⟩
            have hTwo : Two w b1 b2 R w2 := Two.other s1' s2' t1 t2 hfa (Nat.le_of_eq HB1'.out) (by rw [HB1'.out]; exact hb2) hb3 (by simp at hx; omega) k1 f1 g1 k3 f2 (fun i h => .inr (g2 i h))
            have exx : (x != x) = false := by simp
            clear s1' s2' hfa t1 t2 hx hx' k1 f1 g1 k2 k3 f2 g2
            have hTwo' := Lib.hid hTwo
            obtain ⟨va, vb, ys, hi, lo, HS, HT, t3, t4, hy, hfz⟩ := hTwo
            obtain ⟨q, qcap, rfl⟩ := ownsRow_shape HT.2.1
            have c0 := HT.1.cell 0 rfl
            have c2 := HT.1.cell 2 rfl
            have c3 := HT.1.cell 3 rfl
            have e1 : ((ys.length : Int) != ys.length) = false := by simp
            have e2 : (hi != hi) = false := by simp
            have e3 : (lo != lo) = false := by simp
            go_wp2
            go_quiet (first | (go_at_call 15; exact Calls.quiet_of_same ((len_some _ _ _ _ _ _ _ (by exact HS.drewN _)).mono fun _ _ h => ⟨h.1, h.2.symm⟩)) | (go_at_call 16; exact Calls.quiet_of_same ((high_some _ _ _ _ _ _ _ (by exact HS.drewN _)).mono fun _ _ h => ⟨h.1, h.2.symm⟩)) | (go_at_call 9; exact Calls.quiet_of_same ((lost_some _ _ _ _ _ _ _ (by exact HS.drewN _)).mono fun _ _ h => ⟨h.1, h.2.symm⟩)))
            go_wp2
            have hTd : Two w b1 b2 R (w2.drewN nq) := hTwo'.out.frame ((Fr.refl _ _).drewN _)
            go_roundw
            case rel => exact ⟨k + 1, by omega, by go_num, hTd⟩
            case measure => simp [intOf]; omega
        · have g4 : (a % 8 == 4) = false := by rw [beq_eq_false_iff_ne]; omega
          have g5 : (a % 8 == 5) = true := by rw [beq_iff_eq]; omega
          clear hm
          go_wp2_with fail
          have hwa : Fr (fun _ => False) wr (wr.alloc (.cells #[.int .u8 a, .int .i64 n] 37)) := (Fr.refl _ wr).alloc _
          have s1' := s1.frame hwa (fun h => h) (fun _ _ h => h)
          have s2' := s2.frame hwa (fun h => h) (fun _ _ h => h)
          have hfa := hf.trans hwa (fun _ h => h.elim)
          generalize wr.alloc (.cells #[.int .u8 a, .int .i64 n] 37) = wa at hwa s1' s2' hfa ⊢
          clear s1 s2 hwa hc hd hf
          have hx' : xs.length ≤ 4096 := by omega
          rcases List.eq_nil_or_concat xs with hxs | ⟨zs, x, hxs⟩
          · subst hxs
            refine (pop_none _ _ _ _ _ _ s1').mono ?_
            rintro e w1 ⟨rfl, rfl⟩
            go_wp2_with fail
            refine (rpop_none _ _ _ _ _ _ s2').mono ?_
            rintro e w2 ⟨rfl, rfl⟩
            have hTwo : Two w b1 b2 R wa := ⟨_, _, _, _, _, s1', s2', t1, t2, hx, hfa⟩
            clear s1' s2' hfa t1 t2 hx hx'
            have hTwo' := Lib.hid hTwo
            obtain ⟨va, vb, ys, hi, lo, HS, HT, t3, t4, hy, hfz⟩ := hTwo
            obtain ⟨q, qcap, rfl⟩ := ownsRow_shape HT.2.1
            have c0 := HT.1.cell 0 rfl
            have c2 := HT.1.cell 2 rfl
            have c3 := HT.1.cell 3 rfl
            have e1 : ((ys.length : Int) != ys.length) = false := by simp
            have e2 : (hi != hi) = false := by simp
            have e3 : (lo != lo) = false := by simp
            go_wp2
            go_quiet (first | (go_at_call 15; exact Calls.quiet_of_same ((len_some _ _ _ _ _ _ _ (by exact HS.drewN _)).mono fun _ _ h => ⟨h.1, h.2.symm⟩)) | (go_at_call 16; exact Calls.quiet_of_same ((high_some _ _ _ _ _ _ _ (by exact HS.drewN _)).mono fun _ _ h => ⟨h.1, h.2.symm⟩)) | (go_at_call 9; exact Calls.quiet_of_same ((lost_some _ _ _ _ _ _ _ (by exact HS.drewN _)).mono fun _ _ h => ⟨h.1, h.2.symm⟩)))
            go_wp2
            have hTd : Two w b1 b2 R (wa.drewN nq) := hTwo'.out.frame ((Fr.refl _ _).drewN _)
            go_roundw
            case rel => exact ⟨k + 1, by omega, by go_num, hTd⟩
            case measure => simp [intOf]; omega
          · simp only [List.concat_eq_append] at hxs
            subst hxs
            refine (pop_some _ _ zs x _ _ _ _ s1' (by simp at hx'; omega)).mono ?_
            rintro e w1 ⟨rfl, v1', k1, f1, g1⟩
            have k2 := s2'.frame f1 (fun h => hb3 h.symm) (fun i hi h => (t2 i hi).2.1 h)
            go_wp2_with fail
            refine (rpop_some _ _ zs x _ _ _ _ k2 (by simp at hx'; omega)).mono ?_
            rintro e w2 ⟨rfl, v2', k3, f2, g2⟩
            have hTwo : Two w b1 b2 R w2 := Two.other s1' s2' t1 t2 hfa (Nat.le_of_eq HB1'.out) (by rw [HB1'.out]; exact hb2) hb3 (by simp at hx; omega) k1 f1 g1 k3 f2 (fun i h => .inr (g2 i h))
            have exx : (x != x) = false := by simp
            clear s1' s2' hfa t1 t2 hx hx' k1 f1 g1 k2 k3 f2 g2
            have hTwo' := Lib.hid hTwo
            obtain ⟨va, vb, ys, hi, lo, HS, HT, t3, t4, hy, hfz⟩ := hTwo
            obtain ⟨q, qcap, rfl⟩ := ownsRow_shape HT.2.1
            have c0 := HT.1.cell 0 rfl
            have c2 := HT.1.cell 2 rfl
            have c3 := HT.1.cell 3 rfl
            have e1 : ((ys.length : Int) != ys.length) = false := by simp
            have e2 : (hi != hi) = false := by simp
            have e3 : (lo != lo) = false := by simp
            go_wp2
            go_quiet (first | (go_at_call 15; exact Calls.quiet_of_same ((len_some _ _ _ _ _ _ _ (by exact HS.drewN _)).mono fun _ _ h => ⟨h.1, h.2.symm⟩)) | (go_at_call 16; exact Calls.quiet_of_same ((high_some _ _ _ _ _ _ _ (by exact HS.drewN _)).mono fun _ _ h => ⟨h.1, h.2.symm⟩)) | (go_at_call 9; exact Calls.quiet_of_same ((lost_some _ _ _ _ _ _ _ (by exact HS.drewN _)).mono fun _ _ h => ⟨h.1, h.2.symm⟩)))
            go_wp2
            have hTd : Two w b1 b2 R (w2.drewN nq) := hTwo'.out.frame ((Fr.refl _ _).drewN _)
            go_roundw
            case rel => exact ⟨k + 1, by omega, by go_num, hTd⟩
            case measure => simp [intOf]; omega
        · have g4 : (a % 8 == 4) = false := by rw [beq_eq_false_iff_ne]; omega
          have g5 : (a % 8 == 5) = false := by rw [beq_eq_false_iff_ne]; omega
          have g6 : (a % 8 == 6) = true := by rw [beq_iff_eq]; omega
          clear hm
          go_wp2_with fail
          have hwa : Fr (fun _ => False) wr (wr.alloc (.cells #[.int .u8 a, .int .i64 n] 37)) := (Fr.refl _ wr).alloc _
          have s1' := s1.frame hwa (fun h => h) (fun _ _ h => h)
          have s2' := s2.frame hwa (fun h => h) (fun _ _ h => h)
          have hfa := hf.trans hwa (fun _ h => h.elim)
          generalize wr.alloc (.cells #[.int .u8 a, .int .i64 n] 37) = wa at hwa s1' s2' hfa ⊢
          clear s1 s2 hwa hc hd hf
          have hx' : xs.length ≤ 4096 := by omega
          rcases List.eq_nil_or_concat xs with hxs | ⟨zs, x, hxs⟩
          · subst hxs
            refine (pop_none _ _ _ _ _ _ s1').mono ?_
            rintro e w1 ⟨rfl, rfl⟩
            go_wp2_with fail
            refine (rpop_none _ _ _ _ _ _ s2').mono ?_
            rintro e w2 ⟨rfl, rfl⟩
            have hTwo : Two w b1 b2 R wa := ⟨_, _, _, _, _, s1', s2', t1, t2, hx, hfa⟩
            clear s1' s2' hfa t1 t2 hx hx'
            have hTwo' := Lib.hid hTwo
            obtain ⟨va, vb, ys, hi, lo, HS, HT, t3, t4, hy, hfz⟩ := hTwo
            obtain ⟨q, qcap, rfl⟩ := ownsRow_shape HT.2.1
            have c0 := HT.1.cell 0 rfl
            have c2 := HT.1.cell 2 rfl
            have c3 := HT.1.cell 3 rfl
            have e1 : ((ys.length : Int) != ys.length) = false := by simp
            have e2 : (hi != hi) = false := by simp
            have e3 : (lo != lo) = false := by simp
            go_wp2
            go_quiet (first | (go_at_call 15; exact Calls.quiet_of_same ((len_some _ _ _ _ _ _ _ (by exact HS.drewN _)).mono fun _ _ h => ⟨h.1, h.2.symm⟩)) | (go_at_call 16; exact Calls.quiet_of_same ((high_some _ _ _ _ _ _ _ (by exact HS.drewN _)).mono fun _ _ h => ⟨h.1, h.2.symm⟩)) | (go_at_call 9; exact Calls.quiet_of_same ((lost_some _ _ _ _ _ _ _ (by exact HS.drewN _)).mono fun _ _ h => ⟨h.1, h.2.symm⟩)))
            go_wp2
            have hTd : Two w b1 b2 R (wa.drewN nq) := hTwo'.out.frame ((Fr.refl _ _).drewN _)
            go_roundw
            case rel => exact ⟨k + 1, by omega, by go_num, hTd⟩
            case measure => simp [intOf]; omega
          · simp only [List.concat_eq_append] at hxs
            subst hxs
            refine (pop_some _ _ zs x _ _ _ _ s1' (by simp at hx'; omega)).mono ?_
            rintro e w1 ⟨rfl, v1', k1, f1, g1⟩
            have k2 := s2'.frame f1 (fun h => hb3 h.symm) (fun i hi h => (t2 i hi).2.1 h)
            go_wp2_with fail
            refine (rpop_some _ _ zs x _ _ _ _ k2 (by simp at hx'; omega)).mono ?_
            rintro e w2 ⟨rfl, v2', k3, f2, g2⟩
            have hTwo : Two w b1 b2 R w2 := Two.other s1' s2' t1 t2 hfa (Nat.le_of_eq HB1'.out) (by rw [HB1'.out]; exact hb2) hb3 (by simp at hx; omega) k1 f1 g1 k3 f2 (fun i h => .inr (g2 i h))
            have exx : (x != x) = false := by simp
            clear s1' s2' hfa t1 t2 hx hx' k1 f1 g1 k2 k3 f2 g2
            have hTwo' := Lib.hid hTwo
            obtain ⟨va, vb, ys, hi, lo, HS, HT, t3, t4, hy, hfz⟩ := hTwo
            obtain ⟨q, qcap, rfl⟩ := ownsRow_shape HT.2.1
            have c0 := HT.1.cell 0 rfl
            have c2 := HT.1.cell 2 rfl
            have c3 := HT.1.cell 3 rfl
            have e1 : ((ys.length : Int) != ys.length) = false := by simp
            have e2 : (hi != hi) = false := by simp
            have e3 : (lo != lo) = false := by simp
            go_wp2
            go_quiet (first | (go_at_call 15; exact Calls.quiet_of_same ((len_some _ _ _ _ _ _ _ (by exact HS.drewN _)).mono fun _ _ h => ⟨h.1, h.2.symm⟩)) | (go_at_call 16; exact Calls.quiet_of_same ((high_some _ _ _ _ _ _ _ (by exact HS.drewN _)).mono fun _ _ h => ⟨h.1, h.2.symm⟩)) | (go_at_call 9; exact Calls.quiet_of_same ((lost_some _ _ _ _ _ _ _ (by exact HS.drewN _)).mono fun _ _ h => ⟨h.1, h.2.symm⟩)))
            go_wp2
            have hTd : Two w b1 b2 R (w2.drewN nq) := hTwo'.out.frame ((Fr.refl _ _).drewN _)
            go_roundw
            case rel => exact ⟨k + 1, by omega, by go_num, hTd⟩
            case measure => simp [intOf]; omega
      · have g4 : (a % 8 == 4) = false := by rw [beq_eq_false_iff_ne]; omega
        have g5 : (a % 8 == 5) = false := by rw [beq_eq_false_iff_ne]; omega
        have g6 : (a % 8 == 6) = false := by rw [beq_eq_false_iff_ne]; omega
        have g7 : (a % 8 == 7) = true := by rw [beq_iff_eq]; omega
        clear hm
        go_wp2_with fail
        have hwa : Fr (fun _ => False) wr (wr.alloc (.cells #[.int .u8 a, .int .i64 n] 37)) := (Fr.refl _ wr).alloc _
        have s1' := s1.frame hwa (fun h => h) (fun _ _ h => h)
        have s2' := s2.frame hwa (fun h => h) (fun _ _ h => h)
        have hfa := hf.trans hwa (fun _ h => h.elim)
        generalize wr.alloc (.cells #[.int .u8 a, .int .i64 n] 37) = wa at hwa s1' s2' hfa ⊢
        clear s1 s2 hwa hc hd hf
        have m3 := s2'.1.cell 3 rfl
        refine (found_some _ _ _ _ _ _ _ s1').mono ?_
        rintro e w1 ⟨rfl, k1, f1⟩
        have k2 := s2'.frame f1 (fun h => hb3 h.symm) (fun i hi h => (t2 i hi).2.1 h)
        have d3 := k2.1.cell 3 rfl
        have e3 := k2.1.free 3
        go_wp2_with fail
        have hsf : Fr (fun k => k = b2) w1 (w1.setCell ⟨b2, 3, none⟩ (.bool false)) := (Fr.refl (fun k => k = b2) w1).setCell ⟨b2, 3, none⟩ (.inl rfl) _
        have k3 : Stk (w1.setCell ⟨b2, 3, none⟩ (.bool false)) 35 b2 v2 xs R high false := ⟨k2.1.set 3 _, ownsRow_frame k2.2.1 hsf (fun k hk e => k2.2.2 (by rw [hk, e])), k2.2.2⟩
        have hTwo : Two w b1 b2 R (w1.setCell ⟨b2, 3, none⟩ (.bool false)) := Two.other s1' s2' t1 t2 hfa (Nat.le_of_eq HB1'.out) (by rw [HB1'.out]; exact hb2) hb3 hx k1 f1 rfl k3 hsf (fun _ h => .inl h)
        generalize w1.setCell ⟨b2, 3, none⟩ (.bool false) = w2 at hTwo ⊢
        clear s1' s2' hfa t1 t2 hx k1 f1 k2 d3 e3 hsf k3 m3
        have hTwo' := Lib.hid hTwo
        obtain ⟨va, vb, ys, hi, lo, HS, HT, t3, t4, hy, hfz⟩ := hTwo
        obtain ⟨q, qcap, rfl⟩ := ownsRow_shape HT.2.1
        have c0 := HT.1.cell 0 rfl
        have c2 := HT.1.cell 2 rfl
        have c3 := HT.1.cell 3 rfl
        have e1 : ((ys.length : Int) != ys.length) = false := by simp
        have e2 : (hi != hi) = false := by simp
        have e3 : (lo != lo) = false := by simp
        go_wp2
        go_quiet (first | (go_at_call 15; exact Calls.quiet_of_same ((len_some _ _ _ _ _ _ _ (by exact HS.drewN _)).mono fun _ _ h => ⟨h.1, h.2.symm⟩)) | (go_at_call 16; exact Calls.quiet_of_same ((high_some _ _ _ _ _ _ _ (by exact HS.drewN _)).mono fun _ _ h => ⟨h.1, h.2.symm⟩)) | (go_at_call 9; exact Calls.quiet_of_same ((lost_some _ _ _ _ _ _ _ (by exact HS.drewN _)).mono fun _ _ h => ⟨h.1, h.2.symm⟩)))
        go_wp2
        have hTd : Two w b1 b2 R (w2.drewN nq) := hTwo'.out.frame ((Fr.refl _ _).drewN _)
        go_roundw
        case rel => exact ⟨k + 1, by omega, by go_num, hTd⟩
        case measure => simp [intOf]; omega
    · obtain rfl : k = len := by omega
      obtain ⟨v1, v2, xs, high, lost, s1, s2, t1, t2, hx, hf⟩ := hT
      go_wp2_with (go_at_call 6; refine (lives_any _).mono ?_; rintro e w' ⟨rfl, hf1⟩)
      go_ret
      exact ⟨rfl, hf.trans hf1 (fun _ h => h.elim)⟩

theorem acts_of {w : World} {p : Option Addr} {len : Nat} (h : RowsOf [.int .u8, .int .i64] w p len) : Acts w p len := by
  intro i hi
  obtain ⟨b, off, cs, hp, h1, h2⟩ := h i hi
  obtain ⟨c0, e0, k, rfl, h4⟩ := h1.get 0 _ rfl
  obtain ⟨c1, e1, n, rfl, _⟩ := h1.get 1 _ rfl
  have hb := bounds_u8 h4
  exact ⟨b, off, k, n, hp, hb.1, hb.2, h2 0 _ e0, h2 1 _ e1⟩

theorem plays_of (R : Int) (p : Option Addr) (len cap : Nat) (w : World) (hr : RowsOf [.int .u8, .int .i64] w p len ∧ len ≤ cap ∧ cap ≤ maxLen) :
    Calls Try.prog 4 #[.int .i64 R, .slice p len cap] w fun e w' => e = .returned (.bool true) ∧ Fr (fun _ => False) w w' :=
  plays_any R p len cap w (acts_of hr.1)
end Go.Proofs.Ytkbdlhidenmfoaa
