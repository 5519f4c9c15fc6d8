/- Operations as plain data; what stands behind a kind. -/
import Derived.Test.YtlcgmniahdngdaaGreatDoorDCuts
import Derived.Lib.OthersKept
import Derived.Great.BuildSlice
import Derived.Great.Walk
namespace Go.Proofs.YtlcgmniahdngdaaGreatDoor
open Go.RowKit

/-- An operation, plainly: kind, slots, field, header, word, the float's bits. -/
structure OpR where
  k : Int
  a : Int
  b : Int
  i : Int
  p : Int
  f : Int
  g : Int
  x : Nat
  q : Nat
deriving DecidableEq
def I64 (z : Int) : Prop := -9223372036854775808 ≤ z ∧ z ≤ 9223372036854775807
structure OpR.Ok (o : OpR) : Prop where
  k : I64 o.k
  a : I64 o.a
  b : I64 o.b
  i : I64 o.i
  p : I64 o.p
  f : I64 o.f
  g : I64 o.g
  x : o.x < 18446744073709551616
  q : o.q < 18446744073709551616
def OpR.cells (o : OpR) : List Value := [.int .i64 o.k, .int .i64 o.a, .int .i64 o.b, .int .i64 o.i, .int .i64 o.p, .int .i64 o.f, .int .i64 o.g, .int .u64 (o.x : Int), .float .f64 o.q]

/-- The letters behind a kind, in package ops and in the document. -/
def shB (k : Int) : List UInt8 :=
  if k = 1 then [97, 104] else if k = 2 then [97, 98, 105] else if k = 3 then [97, 105, 98] else if k = 4 then [97, 105] else if k = 5 then [97, 105, 119] else if k = 6 then [97, 105] else if k = 7 then [97, 105, 102]
  else if k = 8 then [97, 98] else if k = 9 then [97] else if k = 10 then [97, 98] else if k = 11 then [97] else if k = 12 then [97] else if k = 13 then [97, 105, 98, 119] else []
def isK (k : Int) : Bool := decide (1 ≤ k ∧ k ≤ 17)
theorem kind_cases {k : Int} (h : isK k = true) : k = 1 ∨ k = 2 ∨ k = 3 ∨ k = 4 ∨ k = 5 ∨ k = 6 ∨ k = 7 ∨ k = 8 ∨ k = 9 ∨ k = 10 ∨ k = 11 ∨ k = 12 ∨ k = 13 ∨ k = 14 ∨ k = 15 ∨ k = 16 ∨ k = 17 := by
  have := of_decide_eq_true h
  omega
def ShPost (w : World) (k : Int) (e : Ending) (w' : World) : Prop := e = .returned (.tuple #[.string (bytesOf (shB k)), .bool (isK k)]) ∧ Fr (fun _ => False) w w'
def ShEq (w : World) (k : Int) (e : Ending) (w' : World) : Prop := e = .returned (.tuple #[.string (bytesOf (shB k)), .bool (isK k)]) ∧ w = w'
theorem ne_dec {k n : Int} (h : k ≠ n) : (k == n) = false := by rw [beq_eq_false_iff_ne]; exact h

set_option maxRecDepth 100000 in
set_option maxHeartbeats 1600000 in
theorem rshape_any (k : Int) (w : World) : Calls Tryz.prog 13 #[.int .i64 k] w (ShEq w k) := by
  cases h : isK k
  · have hk : ¬ (1 ≤ k ∧ k ≤ 17) := of_decide_eq_false h
    have H : Hid (ShEq w k (.returned (.tuple #[.string ⟨#[]⟩, .bool false])) w) := by
      refine ⟨?_, rfl⟩
      rw [h, shB, if_neg (by omega), if_neg (by omega), if_neg (by omega), if_neg (by omega), if_neg (by omega), if_neg (by omega), if_neg (by omega), if_neg (by omega), if_neg (by omega), if_neg (by omega), if_neg (by omega), if_neg (by omega), if_neg (by omega)]
      rfl
    have n1 : (k == 1) = false := ne_dec (by omega)
    have n2 : (k == 2) = false := ne_dec (by omega)
    have n3 : (k == 3) = false := ne_dec (by omega)
    have n4 : (k == 4) = false := ne_dec (by omega)
    have n5 : (k == 5) = false := ne_dec (by omega)
    have n6 : (k == 6) = false := ne_dec (by omega)
    have n7 : (k == 7) = false := ne_dec (by omega)
    have n8 : (k == 8) = false := ne_dec (by omega)
    have n9 : (k == 9) = false := ne_dec (by omega)
    have n10 : (k == 10) = false := ne_dec (by omega)
    have n11 : (k == 11) = false := ne_dec (by omega)
    have n12 : (k == 12) = false := ne_dec (by omega)
    have n13 : (k == 13) = false := ne_dec (by omega)
    have n14 : (k == 14) = false := ne_dec (by omega)
    have n15 : (k == 15) = false := ne_dec (by omega)
    have n16 : (k == 16) = false := ne_dec (by omega)
    have n17 : (k == 17) = false := ne_dec (by omega)
    clear h hk
    go_enter Tryz.func13, Tryz.ntmps13
    go_wp2
    go_ret2
    exact H.out
  · rcases kind_cases h with rfl | rfl | rfl | rfl | rfl | rfl | rfl | rfl | rfl | rfl | rfl | rfl | rfl | rfl | rfl | rfl | rfl <;>
    · clear h
      go_enter Tryz.func13, Tryz.ntmps13
      go_wp2
      go_ret2
      exact ⟨rfl, rfl⟩
end Go.Proofs.YtlcgmniahdngdaaGreatDoor

/- The walks of ops.shape, of the names of package script, and of has. -/
namespace Go.Proofs.YtlcgmniahdngdaaGreatDoor
open Go.RowKit Go.Great

def shCells : List Value := (List.range 18).map fun (k : Nat) => Value.string (bytesOf (shB (k : Int)))
theorem shCells_at : ∀ k : Nat, k < 18 → shCells[k]? = some (.string (bytesOf (shB (k : Int)))) := by
  intro k hk
  unfold shCells
  rw [List.getElem?_map, List.getElem?_range hk]
  rfl

set_option maxRecDepth 100000 in
set_option maxHeartbeats 400000 in
theorem oshape_any (k : Int) (w : World) : Calls Tryz.prog 62 #[.int .i64 k] w (ShPost w k) := by
  have hz : ∀ w, (zeroValue 122).run Tryz.prog w = .ok (.agg (List.replicate 18 (Value.string ⟨#[]⟩)).toArray) w := fun w => by kernel_rfl
  go_enter Tryz.func62, Tryz.ntmps62
  go_upto_region 1 with fail
  apply wp_region_lit
  refine wpList_buildTo rfl 122 _ rfl (some 5) rfl shCells.toArray (by kernel_rfl) ?_
  refine wpList_allocTo rfl (some 4) rfl (.pointer (some ⟨w.heap.size, 0, none⟩)) (.cells (List.replicate 18 (Value.string ⟨#[]⟩)).toArray 122) ?_ ?_
  · unfold execOp
    simp [go_sem, hz]
  refine wpList_store_rowTo rfl 122 _ _ rfl rfl w.heap.size shCells.toArray rfl rfl 122 _ (heap_alloc_new _ _) (by kernel_rfl) (by kernel_rfl) (by kernel_rfl) ?_
  apply wpList_nil
  have hB : Blk ((w.alloc (.cells (List.replicate 18 (Value.string ⟨#[]⟩)).toArray 122)).setRow w.heap.size shCells.toArray) w.heap.size shCells 122 := setRow_heap _ _ _ _ _ _ (heap_alloc_new w _)
  have hF : Fr (fun _ => False) w ((w.alloc (.cells (List.replicate 18 (Value.string ⟨#[]⟩)).toArray 122)).setRow w.heap.size shCells.toArray) :=
    ((Fr.refl _ w).alloc _).trans (S' := fun i => i = w.heap.size) ⟨rfl, rfl, rfl, by simp, fun i _ h => setRow_other _ _ _ _ (fun e => h e)⟩ (fun i h => .inr (by omega))
  generalize (w.alloc (.cells (List.replicate 18 (Value.string ⟨#[]⟩)).toArray 122)).setRow w.heap.size shCells.toArray = W at *
  cases h : isK k
  · have hk : ¬ (1 ≤ k ∧ k ≤ 17) := of_decide_eq_false h
    have H : Hid (ShPost w k (.returned (.tuple #[.string ⟨#[]⟩, .bool false])) W) := by
      refine ⟨?_, hF⟩
      rw [h, shB, if_neg (by omega), if_neg (by omega), if_neg (by omega), if_neg (by omega), if_neg (by omega), if_neg (by omega), if_neg (by omega), if_neg (by omega), if_neg (by omega), if_neg (by omega), if_neg (by omega), if_neg (by omega), if_neg (by omega)]
      rfl
    by_cases h0 : k ≤ 0
    · clear h hk hF hB
      go_wp2
      go_ret2
      exact H.out
    · have h18 : 18 ≤ k := by omega
      have h1 : 0 < k := by omega
      clear h hk hF hB h0
      go_wp2
      go_ret2
      exact H.out
  · rcases kind_cases h with rfl | rfl | rfl | rfl | rfl | rfl | rfl | rfl | rfl | rfl | rfl | rfl | rfl | rfl | rfl | rfl | rfl
    all_goals clear h
    · have hc := hB.cell 1 rfl
      go_wp2
      go_ret2
      exact ⟨rfl, hF⟩
    · have hc := hB.cell 2 rfl
      go_wp2
      go_ret2
      exact ⟨rfl, hF⟩
    · have hc := hB.cell 3 rfl
      go_wp2
      go_ret2
      exact ⟨rfl, hF⟩
    · have hc := hB.cell 4 rfl
      go_wp2
      go_ret2
      exact ⟨rfl, hF⟩
    · have hc := hB.cell 5 rfl
      go_wp2
      go_ret2
      exact ⟨rfl, hF⟩
    · have hc := hB.cell 6 rfl
      go_wp2
      go_ret2
      exact ⟨rfl, hF⟩
    · have hc := hB.cell 7 rfl
      go_wp2
      go_ret2
      exact ⟨rfl, hF⟩
    · have hc := hB.cell 8 rfl
      go_wp2
      go_ret2
      exact ⟨rfl, hF⟩
    · have hc := hB.cell 9 rfl
      go_wp2
      go_ret2
      exact ⟨rfl, hF⟩
    · have hc := hB.cell 10 rfl
      go_wp2
      go_ret2
      exact ⟨rfl, hF⟩
    · have hc := hB.cell 11 rfl
      go_wp2
      go_ret2
      exact ⟨rfl, hF⟩
    · have hc := hB.cell 12 rfl
      go_wp2
      go_ret2
      exact ⟨rfl, hF⟩
    · have hc := hB.cell 13 rfl
      go_wp2
      go_ret2
      exact ⟨rfl, hF⟩
    · have hc := hB.cell 14 rfl
      go_wp2
      go_ret2
      exact ⟨rfl, hF⟩
    · have hc := hB.cell 15 rfl
      go_wp2
      go_ret2
      exact ⟨rfl, hF⟩
    · have hc := hB.cell 16 rfl
      go_wp2
      go_ret2
      exact ⟨rfl, hF⟩
    · have hc := hB.cell 17 rfl
      go_wp2
      go_ret2
      exact ⟨rfl, hF⟩

/-- A kind's name, and what stands behind it. -/
def nmB (k : Int) : List UInt8 :=
  if k = 1 then [97, 108, 108, 111, 99] else if k = 2 then [108, 111, 97, 100] else if k = 3 then [115, 116, 111, 114, 101] else if k = 4 then [103, 101, 116] else if k = 5 then [115, 101, 116] else if k = 6 then [103, 101, 116, 102]
  else if k = 7 then [115, 101, 116, 102] else if k = 8 then [99, 111, 112, 121] else if k = 9 then [99, 108, 101, 97, 114] else if k = 10 then [115, 97, 109, 101] else if k = 11 then [115, 104, 97, 112, 101] else if k = 12 then [115, 117, 109]
  else if k = 13 then [111, 114, 100, 101, 114] else if k = 14 then [108, 105, 118, 101] else if k = 15 then [99, 111, 108, 108, 101, 99, 116] else if k = 16 then [115, 116, 97, 114, 116] else if k = 17 then [115, 116, 101, 112] else []
def shS (k : Int) : List UInt8 :=
  if k = 1 then [97, 110, 110, 110] else if k = 2 then [97, 98, 105] else if k = 3 then [97, 105, 98] else if k = 4 then [97, 105] else if k = 5 then [97, 105, 120] else if k = 6 then [97, 105] else if k = 7 then [97, 105, 102]
  else if k = 8 then [97, 98] else if k = 9 then [97] else if k = 10 then [97, 98] else if k = 11 then [97] else if k = 12 then [97] else if k = 13 then [97, 105, 98, 100] else []
def nmCells : List Value := (List.range 18).flatMap fun (k : Nat) => [.string (bytesOf (nmB k)), .string (bytesOf (shS k))]

def NmPost (w : World) (e : Ending) (w' : World) : Prop := e = .returned (.agg nmCells.toArray) ∧ Fr (fun _ => False) w w'
set_option maxRecDepth 100000 in
set_option maxHeartbeats 1600000 in
theorem names_any (w : World) : Calls Tryz.prog 22 #[] w (NmPost w) := by
  have H : Hid (∀ w', Fr (fun _ => False) w w' → NmPost w (.returned (.agg nmCells.toArray)) w') := fun w' h => ⟨rfl, h⟩
  have hz : ∀ w, (zeroValue 64).run Tryz.prog w = .ok (.agg (List.replicate 36 (Value.string ⟨#[]⟩)).toArray) w := fun w => by kernel_rfl
  go_enter Tryz.func22, Tryz.ntmps22
  go_upto_region 1 with fail
  apply wp_region_lit
  refine wpList_buildTo rfl 63 _ rfl (some 1) rfl #[.string (bytesOf (nmB 1)), .string (bytesOf (shS 1))] (by kernel_rfl) ?_
  simp only [Act.put, List.setIfInBounds_toArray, List.set_cons_zero, List.set_cons_succ]
  refine wpList_buildTo rfl 63 _ rfl (some 2) rfl #[.string (bytesOf (nmB 2)), .string (bytesOf (shS 2))] (by kernel_rfl) ?_
  simp only [Act.put, List.setIfInBounds_toArray, List.set_cons_zero, List.set_cons_succ]
  refine wpList_buildTo rfl 63 _ rfl (some 3) rfl #[.string (bytesOf (nmB 3)), .string (bytesOf (shS 3))] (by kernel_rfl) ?_
  simp only [Act.put, List.setIfInBounds_toArray, List.set_cons_zero, List.set_cons_succ]
  refine wpList_buildTo rfl 63 _ rfl (some 4) rfl #[.string (bytesOf (nmB 4)), .string (bytesOf (shS 4))] (by kernel_rfl) ?_
  simp only [Act.put, List.setIfInBounds_toArray, List.set_cons_zero, List.set_cons_succ]
  refine wpList_buildTo rfl 63 _ rfl (some 5) rfl #[.string (bytesOf (nmB 5)), .string (bytesOf (shS 5))] (by kernel_rfl) ?_
  simp only [Act.put, List.setIfInBounds_toArray, List.set_cons_zero, List.set_cons_succ]
  refine wpList_buildTo rfl 63 _ rfl (some 6) rfl #[.string (bytesOf (nmB 6)), .string (bytesOf (shS 6))] (by kernel_rfl) ?_
  simp only [Act.put, List.setIfInBounds_toArray, List.set_cons_zero, List.set_cons_succ]
  refine wpList_buildTo rfl 63 _ rfl (some 7) rfl #[.string (bytesOf (nmB 7)), .string (bytesOf (shS 7))] (by kernel_rfl) ?_
  simp only [Act.put, List.setIfInBounds_toArray, List.set_cons_zero, List.set_cons_succ]
  refine wpList_buildTo rfl 63 _ rfl (some 8) rfl #[.string (bytesOf (nmB 8)), .string (bytesOf (shS 8))] (by kernel_rfl) ?_
  simp only [Act.put, List.setIfInBounds_toArray, List.set_cons_zero, List.set_cons_succ]
  refine wpList_buildTo rfl 63 _ rfl (some 9) rfl #[.string (bytesOf (nmB 9)), .string (bytesOf (shS 9))] (by kernel_rfl) ?_
  simp only [Act.put, List.setIfInBounds_toArray, List.set_cons_zero, List.set_cons_succ]
  refine wpList_buildTo rfl 63 _ rfl (some 10) rfl #[.string (bytesOf (nmB 10)), .string (bytesOf (shS 10))] (by kernel_rfl) ?_
  simp only [Act.put, List.setIfInBounds_toArray, List.set_cons_zero, List.set_cons_succ]
  refine wpList_buildTo rfl 63 _ rfl (some 11) rfl #[.string (bytesOf (nmB 11)), .string (bytesOf (shS 11))] (by kernel_rfl) ?_
  simp only [Act.put, List.setIfInBounds_toArray, List.set_cons_zero, List.set_cons_succ]
  refine wpList_buildTo rfl 63 _ rfl (some 12) rfl #[.string (bytesOf (nmB 12)), .string (bytesOf (shS 12))] (by kernel_rfl) ?_
  simp only [Act.put, List.setIfInBounds_toArray, List.set_cons_zero, List.set_cons_succ]
  refine wpList_buildTo rfl 63 _ rfl (some 13) rfl #[.string (bytesOf (nmB 13)), .string (bytesOf (shS 13))] (by kernel_rfl) ?_
  simp only [Act.put, List.setIfInBounds_toArray, List.set_cons_zero, List.set_cons_succ]
  refine wpList_buildTo rfl 63 _ rfl (some 14) rfl #[.string (bytesOf (nmB 14)), .string (bytesOf (shS 14))] (by kernel_rfl) ?_
  simp only [Act.put, List.setIfInBounds_toArray, List.set_cons_zero, List.set_cons_succ]
  refine wpList_buildTo rfl 63 _ rfl (some 15) rfl #[.string (bytesOf (nmB 15)), .string (bytesOf (shS 15))] (by kernel_rfl) ?_
  simp only [Act.put, List.setIfInBounds_toArray, List.set_cons_zero, List.set_cons_succ]
  refine wpList_buildTo rfl 63 _ rfl (some 16) rfl #[.string (bytesOf (nmB 16)), .string (bytesOf (shS 16))] (by kernel_rfl) ?_
  simp only [Act.put, List.setIfInBounds_toArray, List.set_cons_zero, List.set_cons_succ]
  refine wpList_buildTo rfl 63 _ rfl (some 17) rfl #[.string (bytesOf (nmB 17)), .string (bytesOf (shS 17))] (by kernel_rfl) ?_
  simp only [Act.put, List.setIfInBounds_toArray, List.set_cons_zero, List.set_cons_succ]
  refine wpList_buildTo rfl 64 _ rfl (some 18) rfl nmCells.toArray (by kernel_rfl) ?_
  simp only [Act.put, List.setIfInBounds_toArray, List.set_cons_zero, List.set_cons_succ]
  refine wpList_store_rowTo rfl 64 _ _ rfl rfl w.heap.size nmCells.toArray rfl rfl 64 _ (heap_alloc_new _ _) (by kernel_rfl) (by kernel_rfl) (by kernel_rfl) ?_
  apply wpList_nil
  have hB : Blk ((w.alloc (.cells (List.replicate 36 (Value.string ⟨#[]⟩)).toArray 64)).setRow w.heap.size nmCells.toArray) w.heap.size nmCells 64 := setRow_heap _ _ _ _ _ _ (heap_alloc_new w _)
  have hF : Fr (fun _ => False) w ((w.alloc (.cells (List.replicate 36 (Value.string ⟨#[]⟩)).toArray 64)).setRow w.heap.size nmCells.toArray) :=
    ((Fr.refl _ w).alloc _).trans (S' := fun i => i = w.heap.size) ⟨rfl, rfl, rfl, by simp, fun i _ h => setRow_other _ _ _ _ (fun e => h e)⟩ (fun i h => .inr (by omega))
  simp only [List.replicate] at hB hF
  generalize World.setRow _ w.heap.size nmCells.toArray = W at *
  have HB := Lib.hid hB
  clear hB hz
  go_wp2
  exact bodyPost_ret (results_cell_row rfl _ _ _ _ _ _ _ rfl HB.out Tryz.underlying64 rfl (by kernel_rfl)) rfl (H.out _ hF)
end Go.Proofs.YtlcgmniahdngdaaGreatDoor

/- The walk of script.kind. -/
namespace Go.Proofs.YtlcgmniahdngdaaGreatDoor
open Go.RowKit Go.Great

theorem lt18_cases {j : Nat} (h : j < 18) : j = 0 ∨ j = 1 ∨ j = 2 ∨ j = 3 ∨ j = 4 ∨ j = 5 ∨ j = 6 ∨ j = 7 ∨ j = 8 ∨ j = 9 ∨ j = 10 ∨ j = 11 ∨ j = 12 ∨ j = 13 ∨ j = 14 ∨ j = 15 ∨ j = 16 ∨ j = 17 := by omega
theorem nm_index (j : Nat) (hj : j < 18) (w : World) : (Instr.index 64 (.agg nmCells.toArray) (.int .i64 (j : Int))).run Tryz.prog w = .ok (.agg #[.string (bytesOf (nmB (j : Int))), .string (bytesOf (shS (j : Int)))]) w := by
  rcases lt18_cases hj with rfl | rfl | rfl | rfl | rfl | rfl | rfl | rfl | rfl | rfl | rfl | rfl | rfl | rfl | rfl | rfl | rfl | rfl <;> kernel_rfl
theorem nm_ne : ∀ j k : Fin 18, j ≠ k → nmB (j.val : Int) ≠ nmB (k.val : Int) := by decide
theorem nm_same {j k : Nat} (hj : j < 18) (hk : k < 18) : ((bytesOf (nmB (j : Int))).toList == (bytesOf (nmB (k : Int))).toList) = decide (j = k) := by
  by_cases h : j = k
  · subst h; rw [decide_eq_true rfl]; exact beq_self_eq_true _
  · rw [decide_eq_false h, beq_eq_false_iff_ne, bytes_toList, bytes_toList]
    exact nm_ne ⟨j, hj⟩ ⟨k, hk⟩ (fun e => h (congrArg Fin.val e))

def KiPost (w : World) (k : Nat) (e : Ending) (w' : World) : Prop := e = .returned (.int .i64 (k : Int)) ∧ Fr (fun _ => False) w w'
set_option maxRecDepth 100000 in
set_option maxHeartbeats 1600000 in
theorem skind_any (k : Nat) (h1 : 1 ≤ k) (h2 : k ≤ 17) (w : World) : Calls Tryz.prog 21 #[.string (bytesOf (nmB (k : Int)))] w (KiPost w k) := by
  have HN := Lib.hid names_any
  have HIX := Lib.hid nm_index
  have hz : ∀ w, (zeroValue 63).run Tryz.prog w = .ok (.agg #[Value.string ⟨#[]⟩, Value.string ⟨#[]⟩]) w := fun w => by kernel_rfl
  go_enter Tryz.func21, Tryz.ntmps21
  go_wp2_with fail
  refine (HN.out _).mono ?_
  rintro e w1 ⟨rfl, hf1⟩
  generalize nmCells.toArray = NM at *
  have HF1 := Lib.hid hf1
  clear hf1
  go_wp2
  go_loopw [6] (fun i wr => ∃ j : Nat, j ≤ k ∧ i = .int .i64 (j : Int) ∧ Fr (fun _ => False) w wr) (fun i _ => 18 - (intOf i).toNat)
  case atStart => exact ⟨0, Nat.zero_le _, rfl, HF1.out⟩
  case round =>
    obtain ⟨j, hj, rfl, hf⟩ := hrel
    have hlt : (j : Int) < 18 := by omega
    have hix := HIX.out j (by omega)
    have hsm := nm_same (j := j) (k := k) (by omega) (by omega)
    by_cases he : j = k
    · subst he
      have h0 : 0 < j := by omega
      rw [decide_eq_true rfl] at hsm
      go_wp2
      go_ret
      exact ⟨rfl, hf.alloc _⟩
    · rw [decide_eq_false he] at hsm
      by_cases h0 : j = 0
      · have hd1 : decide ((0 : Int) < (j : Int)) = false := by rw [h0]; rfl
        have hd2 : decide (0 < j) = false := by rw [h0]; rfl
        have HR : Hid (j + 1 ≤ k) := by show j + 1 ≤ k; omega
        clear he h0 h1 h2
        go_wp2
        go_roundw
        case rel => exact ⟨j + 1, HR.out, by go_num, hf.alloc _⟩
        case measure => simp [intOf]; omega
      · have h3 : 0 < j := by omega
        clear h0 h1 h2
        go_wp2
        go_roundw
        case rel => exact ⟨j + 1, by omega, by go_num, hf.alloc _⟩
        case measure => simp [intOf]; omega
end Go.Proofs.YtlcgmniahdngdaaGreatDoor

/- The walks of the document's has and Right. -/
namespace Go.Proofs.YtlcgmniahdngdaaGreatDoor
open Go.RowKit Go.Great

def HasPost (w : World) (r : Bool) (e : Ending) (w' : World) : Prop := e = .returned (.bool r) ∧ w = w'
set_option maxRecDepth 100000 in
theorem has_any (l : List UInt8) (c : UInt8) (hl : l.length ≤ 100) (w : World) : Calls Tryz.prog 14 #[.string (bytesOf l), .int .u8 (c.toNat : Int)] w (HasPost w (l.contains c)) := by
  have hsz : (bytesOf l).size = l.length := bytes_size l
  go_enter Tryz.func14, Tryz.ntmps14
  go_wp2
  go_loopw [5] (fun i wr => ∃ k : Nat, k ≤ l.length ∧ i = .int .i64 (k : Int) ∧ w = wr ∧ Hid (l.contains c = (l.drop k).contains c)) (fun i _ => l.length - (intOf i).toNat)
  case atStart => exact ⟨0, Nat.zero_le _, rfl, rfl, rfl⟩
  case round =>
    obtain ⟨k, hk, rfl, rfl, hc⟩ := hrel
    by_cases hlt : k < l.length
    · obtain ⟨d, hdd⟩ : ∃ d, l[k] = d := ⟨_, rfl⟩
      have hdrop : l.drop k = d :: l.drop (k + 1) := by rw [← hdd]; exact List.drop_eq_getElem_cons hlt
      have hsz2 : k < (bytesOf l).size := by omega
      have hget : (bytesOf l)[k] = d := hdd
      have hd := hc.out
      rw [hdrop, List.contains_cons] at hd
      by_cases he : d = c
      · have hr : l.contains c = true := by rw [hd, he]; simp
        have HR : Hid (HasPost w (l.contains c) (.returned (.bool true)) w) := ⟨by rw [hr], rfl⟩
        have hb : ((d.toNat : Int) == (c.toNat : Int)) = true := by rw [he]; exact beq_self_eq_true _
        clear hd hc hdrop hdd he hr
        go_wp2
        go_ret
        exact HR.out
      · have hb : ((d.toNat : Int) == (c.toNat : Int)) = false := by
          rw [beq_eq_false_iff_ne]; intro h
          exact he (UInt8.toNat_inj.1 (by omega))
        have HR : Hid (l.contains c = (l.drop (k + 1)).contains c) := by
          show _ = _
          rw [hd, show (c == d) = false by rw [beq_eq_false_iff_ne]; exact fun e => he e.symm, Bool.false_or]
        clear hd hc hdrop hdd he
        go_wp2
        go_roundw
        case rel => exact ⟨k + 1, by omega, by go_num, (by simp), HR⟩
        case measure => simp [intOf]; omega
    · obtain rfl : k = l.length := by omega
      have hr : l.contains c = false := by
        have := hc.out
        rw [List.drop_length] at this
        rw [this]; rfl
      have HR : Hid (HasPost w (l.contains c) (.returned (.bool false)) w) := ⟨by rw [hr], rfl⟩
      clear hc hr
      go_wp2
      go_ret
      exact HR.out
end Go.Proofs.YtlcgmniahdngdaaGreatDoor
