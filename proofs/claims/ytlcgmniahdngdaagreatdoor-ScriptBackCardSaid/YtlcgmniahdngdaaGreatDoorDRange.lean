/- The walk of the iterator that strings.Lines hands back. -/
import Derived.Test.YtlcgmniahdngdaaGreatDoorDSpans
import Derived.RangeFuncBox
import Derived.RangeFuncLeaves
import Derived.Shelf.Abstract
import Derived.WalkKit
import Derived.OwnWalkIn
import Derived.TacticsInMore
import Derived.LoopNIn
import Derived.LoopIn
import Derived.Maps.AppendAt
namespace Go.Proofs.YtlcgmniahdngdaaGreatDoor
open Go.RowKit Go.Shelf

/-- The lines of a text, each with its line feed. -/
def linesK : List UInt8 → List UInt8 → List (List UInt8)
  | now, [] => if now = [] then [] else [now]
  | now, c :: l => if c = 10 then (now ++ [10]) :: linesK [] l else linesK (now ++ [c]) l
theorem linesK_none : ∀ (l now : List UInt8), Lib.indexByte l 10 = -1 → linesK now l = if now ++ l = [] then [] else [now ++ l]
  | [], now, _ => by rw [linesK, List.append_nil]
  | c :: l, now, h => by
    unfold Lib.indexByte at h
    by_cases hc : (c == 10) = true
    · rw [if_pos hc] at h; cases h
    · rw [if_neg hc] at h
      have h2 : Lib.indexByte l 10 = -1 := by
        by_cases h3 : (Lib.indexByte l 10 == -1) = true
        · exact beq_iff_eq.1 h3
        · rw [if_neg h3] at h
          have := Lib.indexByte_ge l 10
          omega
      rw [linesK, if_neg (fun e => hc (by rw [e]; rfl)), linesK_none l (now ++ [c]) h2, List.append_assoc]
      rfl
theorem linesK_some : ∀ (l now : List UInt8) (i : Nat), Lib.indexByte l 10 = (i : Int) → i < l.length ∧ linesK now l = (now ++ l.take (i + 1)) :: linesK [] (l.drop (i + 1))
  | [], now, i, h => by cases h
  | c :: l, now, i, h => by
    unfold Lib.indexByte at h
    by_cases hc : (c == 10) = true
    · rw [if_pos hc] at h
      obtain rfl : i = 0 := by omega
      have hc2 : c = 10 := beq_iff_eq.1 hc
      subst hc2
      rw [linesK, if_pos rfl]
      exact ⟨by simp, rfl⟩
    · rw [if_neg hc] at h
      by_cases h3 : (Lib.indexByte l 10 == -1) = true
      · rw [if_pos h3] at h; omega
      · rw [if_neg h3] at h
        have h4 : Lib.indexByte l 10 ≠ -1 := fun e => h3 (by rw [e]; rfl)
        have h5 := Lib.indexByte_ge l 10
        obtain ⟨j, hj⟩ : ∃ j : Nat, Lib.indexByte l 10 = (j : Int) := ⟨(Lib.indexByte l 10).toNat, by omega⟩
        rw [hj] at h
        obtain rfl : i = j + 1 := by omega
        obtain ⟨i1, i2⟩ := linesK_some l (now ++ [c]) j hj
        refine ⟨by rw [List.length_cons]; omega, ?_⟩
        rw [linesK, if_neg (fun e => hc (by rw [e]; rfl)), i2]
        simp
theorem linesK_len : ∀ (l now : List UInt8), (linesK now l).length ≤ l.length + now.length
  | [], now => by
    rw [linesK]; split
    · simp
    · rename_i h; have := List.length_pos_iff.2 h; simp; omega
  | c :: l, now => by
    rw [linesK]; split
    · have := linesK_len l []; rw [List.length_nil] at this; rw [List.length_cons, List.length_cons]; omega
    · have := linesK_len l (now ++ [c]); simp at this ⊢; omega

theorem linesK_mem : ∀ (l now : List UInt8) (x : List UInt8), x ∈ linesK now l → x.length ≤ l.length + now.length
  | [], now, x, h => by
    rw [linesK] at h; split at h
    · cases h
    · rw [List.mem_singleton.1 h]; simp
  | c :: l, now, x, h => by
    rw [linesK] at h; split at h
    · rcases List.mem_cons.1 h with rfl | h
      · simp; omega
      · have := linesK_mem l [] x h; simp at this ⊢; omega
    · have := linesK_mem l _ x h; simp at this ⊢; omega

theorem ext_take (t : List UInt8) (k : Nat) : (bytesOf t).extract 0 k = bytesOf (t.take k) := by
  rw [Lib.extract_eq]; rfl
theorem ext_drop (t : List UInt8) (k : Nat) : (bytesOf t).extract k t.length = bytesOf (t.drop k) := by
  rw [Lib.extract_eq]
  show bytesOf (List.take (t.length - k) (List.drop k t)) = _
  rw [List.take_of_length_le (by rw [List.length_drop]; exact Nat.le_refl _)]
/-- How much of the text is left, read off the world. -/
def leftLen (bx : Nat) (W : World) : Nat := match W.cell? ⟨bx, 0, none⟩ with | some (.string b) => b.size | _ => 0

section
attribute [local go_sem] Oper.semAt_some
set_option maxRecDepth 100000 in
set_option maxHeartbeats 1600000 in
theorem iter_in (m : Nat) (l bx : Nat) (J : List (List UInt8) → World → Prop) (hJs : ∀ s W v, J s W → J s (W.setCell ⟨bx, 0, none⟩ v)) (hJd : ∀ s W, J s W → J s W.drew) (s0 : List UInt8) (hs : s0.length ≤ 100000)
    (hY : ∀ pre x W1, J pre W1 → (linesK [] s0)[pre.length]? = some x → YieldAt Fence.wide m Tryz.prog l #[.string (bytesOf x)] W1 fun e W' => e = .returned (.bool true) ∧ J (pre ++ [x]) W' ∧ W'.heap[bx]? = W1.heap[bx]?)
    (W : World) (hb : Blk W bx [.string (bytesOf s0)] 9) (h0 : J [] W) :
    CallsIn Fence.wide (m + 1) Tryz.prog 50 #[.func (.yield l) #[] #[], .pointer (some ⟨bx, 0, none⟩)] W fun e W' => (∃ v, e = .returned v) ∧ J (linesK [] s0) W' := by
  refine callsIn_of_wp Tryz.func50 rfl trivial ?_ rfl
  have HIX := Lib.hid (fun (t : List UInt8) w => Tryz.strings_IndexByte (bytesOf t) 10 w)
  simp only [Tryz.ntmps50, List.size_toArray, List.length_cons, List.length_nil, Nat.reduceAdd, Nat.reduceSub, Array.replicate_succ, Array.replicate_zero, List.push_toArray, List.append_toArray, List.nil_append, List.cons_append]
  gi_wp2
  gi_loopw [3] (fun p wr => ∃ (pre : List (List UInt8)) (rest : List UInt8), linesK [] s0 = pre ++ linesK [] rest ∧ rest.length ≤ 100000 ∧ Blk wr bx [.string (bytesOf rest)] 9 ∧ J pre wr)
    (fun p wr => leftLen bx wr)
  case atStart => exact ⟨[], s0, rfl, hs, hb, h0⟩
  case round =>
    obtain ⟨pre, rest, hx, hrl, hbk, hJ⟩ := hrel
    have hc := hbk.cell 0 rfl
    have hfz := hbk.free 0
    have hsz : (bytesOf rest).size = rest.length := bytes_size rest
    cases rest with
    | nil =>
      rw [List.length_nil] at hsz
      have hfin : Hid (J (linesK [] s0) wr) := by
        rw [hx, linesK, if_pos rfl, List.append_nil]; exact hJ
      generalize bytesOf [] = S at *
      gi_wp2
      go_end0
      exact ⟨⟨_, rfl⟩, hfin.out⟩
    | cons c r =>
      have hpos : 0 < (c :: r).length := by simp
      generalize hrest : c :: r = rest at *
      have hne : rest ≠ [] := by rw [← hrest]; simp
      have hix := (HIX.out rest wr)
      rw [show (Int.toNat 10).toUInt8 = 10 by rfl, bytes_list] at hix
      rcases Int.lt_or_le (Lib.indexByte rest 10) 0 with hneg | hge
      · have hi1 : Lib.indexByte rest 10 = -1 := by have := Lib.indexByte_ge rest 10; omega
        have hk := linesK_none rest [] hi1
        rw [List.nil_append, if_neg hne] at hk
        rw [hi1] at hix
        have HI := Lib.hid hix
        rw [hk] at hx
        have hJ2 := hJs pre wr (.string ⟨#[]⟩) hJ
        have hbk2 := hbk.set 0 (.string ⟨#[]⟩)
        obtain ⟨fn, tmps, assign, body, hy, hR⟩ := hY pre rest (wr.setCell ⟨bx, 0, none⟩ (.string ⟨#[]⟩)) hJ2 (by rw [hx]; simp)
        have HR := Lib.hid hR
        have HX := Lib.hid hx
        clear hR hix hx hk hneg hi1 hJ2 hY
        gi_wp2
        refine ⟨trivial, callsIn_wide.2 ((HI.out).mono ?_)⟩
        rintro e w' ⟨rfl, rfl⟩
        gi_wp2
        refine HR.out.mono ?_
        rintro e W3 ⟨rfl, hJ3, hbx⟩
        have hbk3 : Blk W3 bx [.string ⟨#[]⟩] 9 := hbx.trans hbk2
        have hc3 := hbk3.cell 0 rfl
        gi_wp2
        refine ⟨⟨pre ++ [rest], [], by rw [HX.out, linesK, if_pos rfl, List.append_nil], by simp, hbk3, hJ3⟩, ?_⟩
        unfold leftLen
        rw [hc3, hc]
        show 0 < (bytesOf rest).size
        omega
      · obtain ⟨i, hi⟩ : ∃ i : Nat, Lib.indexByte rest 10 = (i : Int) := ⟨(Lib.indexByte rest 10).toNat, by omega⟩
        obtain ⟨hil, hk⟩ := linesK_some rest [] i hi
        rw [List.nil_append] at hk
        rw [hi] at hix
        have HI := Lib.hid hix
        have HX := Lib.hid hx
        clear hix hx hge
        gi_wp2
        refine ⟨trivial, callsIn_wide.2 ((HI.out).mono ?_)⟩
        rintro e w' ⟨rfl, rfl⟩
        gi_wp2
        refine wpIn_wide.2 ?_
        have c1 : (0 : Int) ≤ (i : Int) + 1 := by omega
        have c2 : (i : Int) + 1 ≤ (rest.length : Int) := by omega
        have c3 : (i : Int) + 1 ≤ ((bytesOf rest).size : Int) := by omega
        have c4 : (i : Int) + 1 ≤ 100000 := by omega
        have mixed : Tryz.prog.follows .mixedOrders = true := by kernel_rfl
        have hcd : w'.drew.cell? ⟨bx, 0, none⟩ = some (.string (bytesOf rest)) := hc
        have hfd : w'.drew.frozen? ⟨bx, 0, none⟩ = false := hfz
        have he1 := ext_take rest (i + 1)
        have he2 := ext_drop rest (i + 1)
        have hJ2 := hJd pre _ (hJs pre w' (.string (bytesOf (rest.drop (i + 1)))) hJ)
        have hbk2 : Blk (w'.setCell ⟨bx, 0, none⟩ (.string (bytesOf (rest.drop (i + 1))))).drew bx [.string (bytesOf (rest.drop (i + 1)))] 9 := (hbk.set 0 (.string (bytesOf (rest.drop (i + 1))))).drew
        obtain ⟨fn, tmps, assign, body, hy, hR⟩ := hY pre (rest.take (i + 1)) _ hJ2 (by rw [HX.out, hk]; simp)
        have HR := Lib.hid hR
        have hx2 : linesK [] s0 = (pre ++ [rest.take (i + 1)]) ++ linesK [] (rest.drop (i + 1)) := by rw [HX.out, hk, List.append_assoc]; rfl
        have HX2 := Lib.hid hx2
        have HIL := Lib.hid hil
        clear hR hk hx2 hi hJ2 hY
        go_region_o
        gi_wp2
        refine HR.out.mono ?_
        rintro e W3 ⟨rfl, hJ3, hbx⟩
        have hbk3 : Blk W3 bx [.string (bytesOf (rest.drop (i + 1)))] 9 := hbx.trans hbk2
        have hc3 := hbk3.cell 0 rfl
        gi_wp2
        refine ⟨⟨pre ++ [rest.take (i + 1)], rest.drop (i + 1), HX2.out, by rw [List.length_drop]; omega, hbk3, hJ3⟩, ?_⟩
        unfold leftLen
        rw [hc3, hc]
        show (bytesOf (rest.drop (i + 1))).size < (bytesOf rest).size
        rw [bytes_size, bytes_size, List.length_drop]
        omega
end
end Go.Proofs.YtlcgmniahdngdaaGreatDoor

/- A range over an iterator that keeps its state in one block; the walk of digits.Lines. -/
namespace Go.Proofs.YtlcgmniahdngdaaGreatDoor
open Go.RowKit Go.Shelf

theorem setCell_heap_other {W : World} {p : Addr} {v : Value} {k : Nat} (h : k ≠ p.block) : (W.setCell p v).heap[k]? = W.heap[k]? := by
  unfold World.setCell
  simp [Array.getElem?_modify, Ne.symm h]

/-- The law: a round is walked once; the iterator may store into its own block bx between two rounds. -/
theorem range_box {g : Operand} {ps : Array Tmp} {assign body : Code} {Q : Exit → Act → World → Prop} {a : Act} {w : World} {n : Nat} {gf : Nat} {lb : Array Value} (h1 : 1 ≤ n)
    (hg : a.eval g = .func (.func gf) #[] lb) (eg : ∀ args w, (callFunc gf args).run Tryz.prog w = .ok (.enter gf args) w) (hps : ps.size = 1)
    (xs : List (List UInt8)) (bx : Nat) (hbx : bx < w.heap.size) (I : List (List UInt8) → World → Prop)
    (hIp : ∀ s W l o o', I s W → w.heap.size ≤ l → W.heap[l]? = some o → o.isCells = false → I s (W.putObj l o'))
    (hIa : ∀ s W o, I s W → I s (W.alloc o)) (hIs : ∀ s W v, I s W → I s (W.setCell ⟨bx, 0, none⟩ v)) (hId : ∀ s W, I s W → I s W.drew) (h0 : I [] w)
    (hseq : ∀ (l : Nat) (J : List (List UInt8) → World → Prop) (W : World), (∀ s W v, J s W → J s (W.setCell ⟨bx, 0, none⟩ v)) → (∀ s W, J s W → J s W.drew) →
      (∀ pre x W1, J pre W1 → xs[pre.length]? = some x → YieldAt Fence.wide (n - 1 - 1) Tryz.prog l #[.string (bytesOf x)] W1 fun e W' => e = .returned (.bool true) ∧ J (pre ++ [x]) W' ∧ W'.heap[bx]? = W1.heap[bx]?) →
      W.heap[bx]? = w.heap[bx]? → J [] W → CallsIn Fence.wide (n - 1) Tryz.prog gf (#[.func (.yield l) #[] #[]] ++ lb) W fun e W' => (∃ v, e = .returned v) ∧ J xs W')
    (a₁ : List UInt8 → Act)
    (hassign : ∀ (l : Nat) (x : List UInt8) (W : World) (K : Act → World → Prop), K (a₁ x) W →
      assign.wpIn (Fence.wide.inRound l) (n - 1 - 1) Tryz.prog (Exit.then K (fun _ _ _ => False)) { tmps := (ps.zip #[.string (bytesOf x)]).foldl (fun t (p, v) => t.setIfInBounds p v) a.tmps, defers := [] } W)
    (hbody : ∀ (l : Nat) (pre : List (List UInt8)) (x : List UInt8) (W : World), I pre W → xs[pre.length]? = some x → body.wpIn (Fence.wide.inRound l) (n - 1 - 1) Tryz.prog
      (fun e _ W' => e = .normal ∧ (∀ k o, w.heap.size ≤ k → W.heap[k]? = some o → o.isCells = false → W'.heap[k]? = some o) ∧ W'.heap[bx]? = W.heap[bx]? ∧ I (pre ++ [x]) W') (a₁ x) W)
    (hdone : ∀ (D : Nat) (W : World), I xs W → W.heap[D]? = some (.deferred (some [])) → w.heap.size ≤ D → Q .normal { a with defers := { target := .collected D, args := #[] } :: a.defers } W) :
    (Code.rangeFunc g ps assign body).wpIn Fence.wide n Tryz.prog Q a w := by
  refine wpIn_rangeFunc ?_
  intro fn hfn
  obtain ⟨rec, hrec⟩ : ∃ rec : LoopState → Option Code → Loop, rec = fun st pe => { state := st, pending := pe, fn, tmps := a.tmps, params := ps, assign, body, defers := w.heap.size } := ⟨_, rfl⟩
  obtain ⟨W1, hW1⟩ : ∃ W1, (w.alloc (.deferred (some []))).alloc (.loop (rec .ready none)) = W1 := ⟨_, rfl⟩
  have hL1 : W1.heap[w.heap.size + 1]? = some (.loop (rec .ready none)) := by
    rw [← hW1]; have := World.alloc_heap_new (w.alloc (.deferred (some []))) (.loop (rec .ready none)); rwa [World.size_alloc] at this
  have hK1 : W1.heap[w.heap.size]? = some (.deferred (some [])) := by
    rw [← hW1]; exact (Below.heap_alloc _ _ _ (by simp)).trans (World.alloc_heap_new w _)
  have hB1 : W1.heap[bx]? = w.heap[bx]? := by
    rw [← hW1]; exact (Below.heap_alloc _ _ _ (by simp; omega)).trans (Below.heap_alloc _ _ _ hbx)
  have hI1 : I [] W1 := by rw [← hW1]; exact hIa _ _ _ (hIa _ _ _ h0)
  refine ⟨w.heap.size + 1, [{ target := .collected w.heap.size, args := #[] }], W1, { target := .fn (.func gf) lb, args := #[.func (.yield (w.heap.size + 1)) #[] #[]] }, W1, gf,
    #[.func (.yield (w.heap.size + 1)) #[] #[]] ++ lb, W1, ?_, ?_, fun _ _ => trivial, ?_, fun _ => h1, ?_⟩
  · rw [← hW1, hrec]; exact run_enterLoop_outer _ _ _ _ _
  · simp only [resolve, hg]
    simp [go_sem]
  · simp [invoke, go_sem, eg]
  · refine (hseq (w.heap.size + 1)
      (fun pre W => I pre W ∧ W.heap[w.heap.size + 1]? = some (.loop (rec .ready none)) ∧ W.heap[w.heap.size]? = some (.deferred (some [])))
      W1 (fun s W v h => ⟨hIs s W v h.1, (setCell_heap_other (by show w.heap.size + 1 ≠ bx; omega)).trans h.2.1, (setCell_heap_other (by show w.heap.size ≠ bx; omega)).trans h.2.2⟩)
      (fun s W h => ⟨hId s W h.1, h.2.1, h.2.2⟩) ?_ hB1 ⟨hI1, hL1, hK1⟩).mono ?_
    · rintro pre x W ⟨hi, hl, hk⟩ hlen
      have hlt : w.heap.size + 1 < W.heap.size := (Array.getElem?_eq_some_iff.1 hl).1
      have hy := run_yield (P := Tryz.prog) (args := #[.string (bytesOf x)]) hl (by rw [hrec]; exact hps.symm)
      rw [hrec] at hy
      refine ⟨fn, _, assign, body, hy, roundIn_of_wpIn hfn (hassign _ x W _ ⟨_, run_beginRound hl (by rw [hrec]), ?_⟩)⟩
      have hl2 : (W.putObj (w.heap.size + 1) (.loop { rec .ready none with state := .busy })).heap[w.heap.size + 1]? = some (.loop { rec .ready none with state := .busy }) := World.putObj_heap_same hlt
      have hk2 : (W.putObj (w.heap.size + 1) (.loop { rec .ready none with state := .busy })).heap[w.heap.size]? = some (.deferred (some [])) := (World.putObj_heap_other (by omega)).trans hk
      have hb2 : (W.putObj (w.heap.size + 1) (.loop { rec .ready none with state := .busy })).heap[bx]? = W.heap[bx]? := World.putObj_heap_other (by omega)
      refine wpIn_mono (hbody _ pre x _ (hIp _ _ _ _ _ hi (by omega) hl rfl) hlen) ?_
      rintro e a3 W3 ⟨rfl, hkeep, hbx3, hi3⟩
      have hl3 := hkeep _ _ (by omega) hl2 rfl
      have hk3 := hkeep _ _ (Nat.le_refl _) hk2 rfl
      have hr := run_endRound (P := Tryz.prog) none hl3
      rw [hrec] at hr
      refine ⟨_, _, hr, rfl, ⟨hIp _ _ _ _ _ hi3 (by omega) hl3 rfl, ?_, (World.putObj_heap_other (by omega)).trans hk3⟩, (World.putObj_heap_other (by omega)).trans (hbx3.trans hb2)⟩
      rw [hrec]
      exact World.putObj_heap_same (Array.getElem?_eq_some_iff.1 hl3).1
    · rintro e W2 ⟨⟨v, rfl⟩, hi, hl, hk⟩
      exact ⟨none, _, by have := run_endLoop (P := Tryz.prog) hl (by rw [hrec]; simp); rw [hrec] at this; exact this, hdone _ _ (hIp _ _ _ _ _ hi (by omega) hl rfl) ((World.putObj_heap_other (by omega)).trans hk) (Nat.le_refl _)⟩
end Go.Proofs.YtlcgmniahdngdaaGreatDoor
