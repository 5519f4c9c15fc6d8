/- The walk of ops.only. -/
import Derived.Test.YtlcgmniahdngdaaGreatDoorSSame
import Derived.Laws.ResultCell
namespace Go.Proofs.YtlcgmniahdngdaaGreatDoor
open Go.RowKit Go.Great

attribute [local go_sem] run_store_float

theorem Fr.iterAt {S : Nat → Prop} {a w : World} (h : Fr S a w) {k : Nat} (hk : a.heap.size ≤ k) (s : ByteArray) (p : Nat) : Fr S a (w.iterAt k s p) :=
  h.trans (S' := fun i => i = k) ⟨rfl, rfl, rfl, by rw [Lib.iterAt_size]; exact Nat.le_refl _, fun i _ hn => Lib.iterAt_other _ _ _ _ _ hn⟩ (fun i hi => by subst hi; exact .inr hk)
theorem Blk.iterAt {w : World} {b k : Nat} {c : List Value} {t : TypeId} (h : Blk w b c t) (hk : b ≠ k) (s : ByteArray) (p : Nat) : Blk (w.iterAt k s p) b c t := (Lib.iterAt_other _ _ _ _ _ hk).trans h

/-- The results of a function whose first one is a struct that lies in a block. -/
theorem results_row_tmp {P : Program} {fn : Func} {p u : Tmp} {ty : TypeId} (h : fn.results = #[.cell p ty, .tmp u]) (tmps : Array Value) (w : World) (g : Nat) (t : TypeId) (cs : Array Value) (fr : Nat × Nat) (d : TypeDesc)
    (hp : tmps.getD p undef = .pointer (some ⟨g, 0, none⟩)) (hg : w.heap[g]? = some (.cells cs t fr))
    (hu : P.underlying ty = some d) (hd : (match d with | .struct _ | .array _ _ => true | _ => false) = true) (hi : (P.info? ty).map (·.size) = some cs.size) :
    (results fn tmps).run P w = .ok (.tuple #[.agg cs, tmps.getD u undef]) w := by
  rw [results_cell_tmp h, hp]
  simp [asAddr, run_loadVar_row w g t ty cs fr d hg hu hd hi, Result.andThen]
theorem iterPos_of {w : World} {k : Nat} {s : ByteArray} {p : Nat} (h : w.heap[k]? = some (.stringIter s p)) : w.iterPos k = p := by simp [World.iterPos, h]
theorem Fr.setCells {S : Nat → Prop} {a : World} {g : Nat} (hp : S g ∨ a.heap.size ≤ g) : ∀ (vs : List Value) (o : Nat) {w : World}, Fr S a w → Fr S a (w.setCells g o vs)
  | [], _, _, h => h
  | v :: r, o, _, h => Fr.setCells hp r (o + 1) (h.setCell ⟨g, o, none⟩ hp v)
/-- An operation's field goes over by its letter. -/
def setL (o y : OpR) (c : UInt8) : OpR :=
  if c = 97 then { y with a := o.a } else if c = 98 then { y with b := o.b } else if c = 105 then { y with i := o.i } else if c = 104 then { y with p := o.p, f := o.f, g := o.g }
  else if c = 119 then { y with x := o.x } else if c = 102 then { y with q := o.q } else y
def onlyR (o : OpR) (s : List UInt8) : OpR := s.foldl (setL o) ⟨o.k, 0, 0, 0, 0, 0, 0, 0, 0⟩
def okL (c : UInt8) : Bool := c = 97 || c = 98 || c = 105 || c = 104 || c = 119 || c = 102
theorem okL_cases {c : UInt8} (h : okL c = true) : c = 97 ∨ c = 98 ∨ c = 105 ∨ c = 104 ∨ c = 119 ∨ c = 102 := by
  unfold okL at h
  simp only [Bool.or_eq_true, decide_eq_true_eq, or_assoc] at h
  exact h
theorem shB_ok (k : Int) (h : isK k = true) : ∀ c ∈ shB k, okL c = true := by
  rcases kind_cases h with rfl | rfl | rfl | rfl | rfl | rfl | rfl | rfl | rfl | rfl | rfl | rfl | rfl | rfl | rfl | rfl | rfl <;> decide
theorem shB_none (k : Int) (h : isK k = false) : shB k = [] := by
  have hk : ¬ (1 ≤ k ∧ k ≤ 17) := of_decide_eq_false h
  rw [shB, if_neg (by omega), if_neg (by omega), if_neg (by omega), if_neg (by omega), if_neg (by omega), if_neg (by omega), if_neg (by omega), if_neg (by omega), if_neg (by omega), if_neg (by omega), if_neg (by omega), if_neg (by omega), if_neg (by omega)]
theorem shB_all (k : Int) : ∀ c ∈ shB k, okL c = true := by
  cases h : isK k
  · rw [shB_none k h]; intro c hc; cases hc
  · exact shB_ok k h
theorem only_step (o : OpR) (s : List UInt8) (j : Nat) (hj : j < s.length) : onlyR o (s.take (j + 1)) = setL o (onlyR o (s.take j)) s[j] := by
  unfold onlyR
  rw [← List.take_append_getElem hj, List.foldl_append]; rfl
def OnPost (w : World) (o : OpR) (e : Ending) (w' : World) : Prop := e = .returned (.tuple #[(onlyR o (shB o.k)).val, .bool (isK o.k)]) ∧ Fr (fun _ => False) w w'

set_option maxRecDepth 100000 in
set_option maxHeartbeats 3200000 in
theorem only_any (o : OpR) (w : World) : Calls Tryz.prog 41 #[o.val] w (OnPost w o) := by
  have HSH := Lib.hid (oshape_any o.k)
  have hall := Lib.hid (shB_all o.k)
  have HR : Hid (∀ w', Fr (fun _ => False) w w' → OnPost w o (.returned (.tuple #[(onlyR o (shB o.k)).val, .bool (isK o.k)])) w') := fun w' hf => ⟨rfl, hf⟩
  unfold ShPost at HSH
  unfold OpR.val
  generalize shB o.k = s at *
  generalize isK o.k = is at *
  go_enter Tryz.func41, Tryz.ntmps41
  go_upto_region 1 with fail
  generalize hW : World.alloc (World.alloc w _) _ = W
  have hsz : W.heap.size = w.heap.size + 2 := by rw [← hW]; simp
  have hb0 : Blk W w.heap.size o.cells 32 := by rw [← hW]; exact (Blk.new w o.cells 32).alloc _
  have hb1 : Blk W (w.heap.size + 1) (OpR.cells ⟨0, 0, 0, 0, 0, 0, 0, 0, 0⟩) 32 := by
    rw [← hW]
    have := Blk.new (w.alloc (.cells o.cells.toArray 32)) (OpR.cells ⟨0, 0, 0, 0, 0, 0, 0, 0, 0⟩) 32
    rw [World.size_alloc] at this
    exact this
  have hF : Fr (fun _ => False) w W := by rw [← hW]; exact ((Fr.refl _ w).alloc _).alloc _
  clear hW
  have c0 := hb0.cell 0 rfl
  go_wp2_with fail
  refine (HSH.out _).mono ?_
  rintro e w1 ⟨rfl, hf1⟩
  have hsz1 := hf1.size
  have hb0' := hb0.frame hf1 (fun h => h)
  have hb1' := hb1.frame hf1 (fun h => h)
  have hF1 := hF.then hf1
  clear c0 hb0 hb1 hF hf1
  have c0 := hb0'.cell 0 rfl
  go_upto_region 3 with fail
  generalize hW : World.alloc w1 _ = W1
  have hsz2 : W1.heap.size = w1.heap.size + 1 := by rw [← hW]; simp
  have hb6 : Blk W1 w1.heap.size (OpR.cells ⟨o.k, 0, 0, 0, 0, 0, 0, 0, 0⟩) 32 := by rw [← hW]; exact Blk.new w1 (OpR.cells ⟨o.k, 0, 0, 0, 0, 0, 0, 0, 0⟩) 32
  have hg0 : Blk W1 w.heap.size o.cells 32 := by rw [← hW]; exact hb0'.alloc _
  have hg1 : Blk W1 (w.heap.size + 1) (OpR.cells ⟨0, 0, 0, 0, 0, 0, 0, 0, 0⟩) 32 := by rw [← hW]; exact hb1'.alloc _
  have hF2 : Fr (fun _ => False) w W1 := by rw [← hW]; exact hF1.alloc _
  clear hW hb0' hb1' hF1 c0
  go_upto_region 4 with fail
  have hit : (W1.iter (bytesOf s) 0).heap[w1.heap.size + 1]? = some (.stringIter (bytesOf s) 0) := by rw [← hsz2]; exact World.iter_heap _ _ _
  have hi0 : Blk (W1.iter (bytesOf s) 0) w.heap.size o.cells 32 := hg0.alloc _
  have hi1 : Blk (W1.iter (bytesOf s) 0) (w.heap.size + 1) (OpR.cells ⟨0, 0, 0, 0, 0, 0, 0, 0, 0⟩) 32 := hg1.alloc _
  have hi6 : Blk (W1.iter (bytesOf s) 0) w1.heap.size (OpR.cells ⟨o.k, 0, 0, 0, 0, 0, 0, 0, 0⟩) 32 := hb6.alloc _
  have hFi : Fr (fun _ => False) w (W1.iter (bytesOf s) 0) := hF2.alloc _
  clear hg0 hg1 hb6 hF2
  generalize W1.iter (bytesOf s) 0 = W2 at *
  have HIT := Lib.hid hit
  have hz2 : w1.heap.size + 1 < W2.heap.size := (Array.getElem?_eq_some_iff.1 hit).1
  clear hit
  go_loopw [8] (fun _ wr => ∃ j : Nat, j ≤ s.length ∧ wr.heap[w1.heap.size + 1]? = some (.stringIter (bytesOf s) j) ∧ Blk wr w.heap.size o.cells 32 ∧ Blk wr w1.heap.size (onlyR o (s.take j)).cells 32 ∧ Blk wr (w.heap.size + 1) (OpR.cells ⟨0, 0, 0, 0, 0, 0, 0, 0, 0⟩) 32 ∧ Fr (fun _ => False) w wr) (fun _ wr => s.length - wr.iterPos (w1.heap.size + 1))
  case atStart => exact ⟨0, Nat.zero_le _, HIT.out, hi0, hi6, hi1, hFi⟩
  case round =>
    obtain ⟨j, hj, hit, hb0, hb6, hb1, hF⟩ := hrel
    clear hi0 hi1 hi6 hFi HIT hz2
    have hp0 := iterPos_of hit
    by_cases hlt : j < s.length
    · have hsz3 : j < (bytesOf s).size := by rw [bytes_size]; exact hlt
      obtain ⟨c, hc⟩ : ∃ c, s[j] = c := ⟨_, rfl⟩
      have hget : (bytesOf s)[j] = c := hc
      have hok := okL_cases (hall.out c (by rw [← hc]; exact List.getElem_mem hlt))
      have h128 : c.toNat < 128 := by rcases hok with rfl | rfl | rfl | rfl | rfl | rfl <;> decide
      have hnx : ∀ ty, (Instr.next (.pointer (some ⟨w1.heap.size + 1, 0, none⟩)) true ty).run Tryz.prog wr = .ok (.tuple #[.bool true, .int .i64 j, .int .i32 c.toNat]) (wr.iterAt (w1.heap.size + 1) (bytesOf s) (j + 1)) := fun ty => by
        rw [Lib.run_next_ascii_at wr _ _ j ty hit hsz3 (by rw [hget]; exact h128), hget]
      have hst : onlyR o (s.take (j + 1)) = setL o (onlyR o (s.take j)) c := (only_step o s j hlt).trans (congrArg _ hc)
      have hit2 := Lib.iterAt_heap wr (w1.heap.size + 1) (bytesOf s) j (j + 1) hit
      have e0 := hb0.iterAt (k := w1.heap.size + 1) (by omega) (bytesOf s) (j + 1)
      have e6 := hb6.iterAt (k := w1.heap.size + 1) (by omega) (bytesOf s) (j + 1)
      have e1 := hb1.iterAt (k := w1.heap.size + 1) (by omega) (bytesOf s) (j + 1)
      have eF := hF.iterAt (k := w1.heap.size + 1) (by omega) (bytesOf s) (j + 1)
      generalize onlyR o (s.take j) = y at *
      generalize wr.iterAt (w1.heap.size + 1) (bytesOf s) (j + 1) = W3 at *
      have hmes : s.length - (j + 1) < s.length - j := by omega
      have HM := Lib.hid hmes
      have HJ : Hid (j + 1 ≤ s.length) := hlt
      have HST := Lib.hid hst
      have HI2 := Lib.hid hit2
      have HP0 := Lib.hid hp0
      have E1 := Lib.hid e1
      have EF := Lib.hid eF
      clear hst hmes hlt hit hb0 hb6 hb1 hF hc hget hsz3 h128 hj hit2 hp0 e1 eF
      obtain ⟨p0, p1, p2, p3, p4, p5, p6, p7, p8⟩ := cells9 e0
      have E0 := Lib.hid e0
      clear e0 p0
      have HT : Hid (W3.there w1.heap.size 4 3) := fun i hi => by
        match i, hi with
        | 0, _ => exact ⟨by rw [e6.cell 4 rfl]; rfl, e6.free 4⟩
        | 1, _ => exact ⟨by rw [e6.cell 5 rfl]; rfl, e6.free 5⟩
        | 2, _ => exact ⟨by rw [e6.cell 6 rfl]; rfl, e6.free 6⟩
      have HRG : Hid (W3.rangeAt w.heap.size 4 [.int .i64 o.p, .int .i64 o.f, .int .i64 o.g]) := fun i v hv => by
        match i, hv with
        | 0, hv => cases hv; exact p4
        | 1, hv => cases hv; exact p5
        | 2, hv => cases hv; exact p6
      rcases hok with rfl | rfl | rfl | rfl | rfl | rfl
      · have E6 := Lib.hid (e6.set 1 (.int .i64 o.a))
        have f6 := e6.free 1
        have c6 := e6.cell 1 rfl
        clear e6
        go_wp2
        go_roundw
        case rel => exact ⟨j + 1, HJ.out, (Below.heap_setCell _ _ _ _ (by simp)).trans HI2.out, E0.out.setOther _ _ (by simp; omega), (by rw [HST.out]; exact E6.out), E1.out.setOther _ _ (by simp; omega), EF.out.setCell _ (.inr (by simp; omega)) _⟩
        case measure => rw [iterPos_of ((Below.heap_setCell _ _ _ _ (by simp)).trans HI2.out), HP0.out]; exact HM.out
      · have E6 := Lib.hid (e6.set 2 (.int .i64 o.b))
        have f6 := e6.free 2
        have c6 := e6.cell 2 rfl
        clear e6
        go_wp2
        go_roundw
        case rel => exact ⟨j + 1, HJ.out, (Below.heap_setCell _ _ _ _ (by simp)).trans HI2.out, E0.out.setOther _ _ (by simp; omega), (by rw [HST.out]; exact E6.out), E1.out.setOther _ _ (by simp; omega), EF.out.setCell _ (.inr (by simp; omega)) _⟩
        case measure => rw [iterPos_of ((Below.heap_setCell _ _ _ _ (by simp)).trans HI2.out), HP0.out]; exact HM.out
      · have E6 := Lib.hid (e6.set 3 (.int .i64 o.i))
        have f6 := e6.free 3
        have c6 := e6.cell 3 rfl
        clear e6
        go_wp2
        go_roundw
        case rel => exact ⟨j + 1, HJ.out, (Below.heap_setCell _ _ _ _ (by simp)).trans HI2.out, E0.out.setOther _ _ (by simp; omega), (by rw [HST.out]; exact E6.out), E1.out.setOther _ _ (by simp; omega), EF.out.setCell _ (.inr (by simp; omega)) _⟩
        case measure => rw [iterPos_of ((Below.heap_setCell _ _ _ _ (by simp)).trans HI2.out), HP0.out]; exact HM.out
      · have E6 := Lib.hid (((e6.set 4 (.int .i64 o.p)).set 5 (.int .i64 o.f)).set 6 (.int .i64 o.g))
        have HS3 : Hid ((Tryz.prog.info? 28).map (·.size) = some 3) := by show _ = _; kernel_rfl
        have HON3 : Hid ((#[.int .i64 o.p, .int .i64 o.f, .int .i64 o.g] : Array Value).all (·.oneCell') = true) := Go.all_oneCell_toArray (cs := [.int .i64 o.p, .int .i64 o.f, .int .i64 o.g]) (fun v hv => by simp only [List.mem_cons, List.not_mem_nil, or_false] at hv; rcases hv with rfl | rfl | rfl <;> rfl)
        clear e6 p1 p2 p3 p4 p5 p6 p7 p8
        go_wp2_with (first | refine wpList_load_mid rfl 28 _ rfl w.heap.size 4 rfl [.int .i64 o.p, .int .i64 o.f, .int .i64 o.g] _ HRG.out Tryz.underlying28 rfl HS3.out ?_ | refine wpList_store_mid rfl 28 _ _ rfl w1.heap.size 4 #[.int .i64 o.p, .int .i64 o.f, .int .i64 o.g] rfl rfl HT.out HS3.out HON3.out ?_)
        refine ⟨?_, ?measure⟩
        (repeat' apply Exists.intro)
        refine ⟨?rel, rfl⟩
        case rel => exact ⟨j + 1, HJ.out, (Below.heap_setCell _ _ _ _ (by simp)).trans ((Below.heap_setCell _ _ _ _ (by simp)).trans ((Below.heap_setCell _ _ _ _ (by simp)).trans HI2.out)), ((E0.out.setOther ⟨w1.heap.size, 4, none⟩ _ (by simp; omega)).setOther ⟨w1.heap.size, 5, none⟩ _ (by simp; omega)).setOther ⟨w1.heap.size, 6, none⟩ _ (by simp; omega), (by rw [HST.out]; exact E6.out), ((E1.out.setOther ⟨w1.heap.size, 4, none⟩ _ (by simp; omega)).setOther ⟨w1.heap.size, 5, none⟩ _ (by simp; omega)).setOther ⟨w1.heap.size, 6, none⟩ _ (by simp; omega), ((EF.out.setCell ⟨w1.heap.size, 4, none⟩ (.inr (by simp; omega)) _).setCell ⟨w1.heap.size, 5, none⟩ (.inr (by simp; omega)) _).setCell ⟨w1.heap.size, 6, none⟩ (.inr (by simp; omega)) _⟩
        case measure =>
          have hq : (W3.setCells w1.heap.size 4 [.int .i64 o.p, .int .i64 o.f, .int .i64 o.g]).iterPos (w1.heap.size + 1) = j + 1 := iterPos_of (s := bytesOf s) ((Below.heap_setCell _ _ _ _ (by simp)).trans ((Below.heap_setCell _ _ _ _ (by simp)).trans ((Below.heap_setCell _ _ _ _ (by simp)).trans HI2.out)))
          rw [hq, HP0.out]; exact HM.out
      · have E6 := Lib.hid (e6.set 7 (.int .u64 (o.x : Int)))
        have f6 := e6.free 7
        have c6 := e6.cell 7 rfl
        clear e6
        go_wp2
        go_roundw
        case rel => exact ⟨j + 1, HJ.out, (Below.heap_setCell _ _ _ _ (by simp)).trans HI2.out, E0.out.setOther _ _ (by simp; omega), (by rw [HST.out]; exact E6.out), E1.out.setOther _ _ (by simp; omega), EF.out.setCell _ (.inr (by simp; omega)) _⟩
        case measure => rw [iterPos_of ((Below.heap_setCell _ _ _ _ (by simp)).trans HI2.out), HP0.out]; exact HM.out
      · have E6 := Lib.hid (e6.set 8 (.float .f64 o.q))
        have f6 := e6.free 8
        have c6 := e6.cell 8 rfl
        clear e6
        go_wp2
        go_roundw
        case rel => exact ⟨j + 1, HJ.out, (Below.heap_setCell _ _ _ _ (by simp)).trans HI2.out, E0.out.setOther _ _ (by simp; omega), (by rw [HST.out]; exact E6.out), E1.out.setOther _ _ (by simp; omega), EF.out.setCell _ (.inr (by simp; omega)) _⟩
        case measure => rw [iterPos_of ((Below.heap_setCell _ _ _ _ (by simp)).trans HI2.out), HP0.out]; exact HM.out
    · obtain rfl : j = s.length := by omega
      have hnx : ∀ ty, (Instr.next (.pointer (some ⟨w1.heap.size + 1, 0, none⟩)) true ty).run Tryz.prog wr = .ok (.tuple #[.bool false]) wr := fun ty => Lib.run_next_end_at wr _ _ _ ty hit (by rw [bytes_size]; omega)
      rw [List.take_length] at hb6
      generalize onlyR o s = y at *
      have HR2 := Lib.hid (HR.out)
      have HRG : Hid (wr.rangeAt w1.heap.size 0 y.cells) := fun i v hv => by rw [Nat.zero_add]; exact hb6.cell i hv
      have HT : Hid (wr.there (w.heap.size + 1) 0 y.cells.toArray.size) := fun i hi => by
        rw [Nat.zero_add]
        have h9 : i < 9 := hi
        refine ⟨?_, hb1.free i⟩
        obtain ⟨v, hv⟩ : ∃ v, (OpR.cells ⟨0, 0, 0, 0, 0, 0, 0, 0, 0⟩)[i]? = some v := ⟨_, List.getElem?_eq_getElem (by exact h9)⟩
        rw [hb1.cell i hv]; rfl
      have HS9 : Hid ((Tryz.prog.info? 32).map (·.size) = some 9) := by show _ = _; kernel_rfl
      have hb4 : Blk (wr.setCells (w.heap.size + 1) 0 y.cells.toArray.toList) (w.heap.size + 1) y.cells 32 := ((((((((hb1.set 0 _).set 1 _).set 2 _).set 3 _).set 4 _).set 5 _).set 6 _).set 7 _).set 8 _
      have hf4 : Fr (fun _ => False) w (wr.setCells (w.heap.size + 1) 0 y.cells.toArray.toList) := Fr.setCells (.inr (by omega)) _ _ hF
      obtain ⟨W4, hW4⟩ : ∃ W4, wr.setCells (w.heap.size + 1) 0 y.cells.toArray.toList = W4 := ⟨_, rfl⟩
      rw [hW4] at hb4 hf4
      have HW4 := Lib.hid hW4
      have HF4 := Lib.hid hf4
      have HB4 := Lib.hid hb4
      clear hW4 hf4 hb4 hb0 hb1 hb6 hF hit hlt hj hp0
      obtain ⟨C, hC⟩ : ∃ C, y.cells = C := ⟨_, rfl⟩
      rw [hC] at HRG HT HW4 HB4
      have HSC : Hid ((Tryz.prog.info? 32).map (·.size) = some C.length) := by rw [← hC]; exact HS9.out
      have HSC2 : Hid ((Tryz.prog.info? 32).map (·.size) = some C.toArray.size) := by rw [← hC]; exact HS9.out
      have HON : Hid (C.toArray.all (·.oneCell') = true) := by rw [← hC]; exact Go.all_oneCell_toArray (fun v hv => by unfold OpR.cells at hv; simp only [List.mem_cons, List.not_mem_nil, or_false] at hv; rcases hv with rfl | rfl | rfl | rfl | rfl | rfl | rfl | rfl | rfl <;> rfl)
      have HC := Lib.hid hC
      clear hC
      go_wp2_with (first | refine wpList_load_mid rfl 32 _ rfl w1.heap.size 0 rfl C _ HRG.out Tryz.underlying32 rfl HSC.out ?_ | refine wpList_store_mid rfl 32 _ _ rfl (w.heap.size + 1) 0 C.toArray rfl rfl HT.out HSC2.out HON.out ?_; rw [HW4.out])
      have HRES : OnPost w o (.returned (.tuple #[.agg C.toArray, .bool is])) W4 := by
        have := HR2.out _ HF4.out
        rw [← HC.out]; exact this
      refine bodyPost_ret (results_row_tmp rfl _ _ _ _ _ _ _ rfl HB4.out Tryz.underlying32 rfl HSC2.out) rfl ?_
      simpa using HRES
end Go.Proofs.YtlcgmniahdngdaaGreatDoor
