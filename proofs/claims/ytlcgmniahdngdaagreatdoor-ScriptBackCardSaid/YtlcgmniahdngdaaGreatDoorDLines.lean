/- The walk of digits.Lines. -/
import Derived.Test.YtlcgmniahdngdaaGreatDoorDRange
namespace Go.Proofs.YtlcgmniahdngdaaGreatDoor
open Go.RowKit Go.Shelf

/-- A line without its line feed. -/
def chop (l : List UInt8) : List UInt8 := Lib.trimSuffix l [10]
theorem Fr.putObj {S : Nat → Prop} {a w : World} (h : Fr S a w) (l : Nat) (o : Obj) (hl : a.heap.size ≤ l) : Fr S a (w.putObj l o) :=
  ⟨h.os, h.tape, h.output, by show a.heap.size ≤ (w.putObj l o).heap.size; rw [World.putObj]; simp; exact h.size, fun k hk hn => (World.putObj_heap_other (by omega)).trans (h.block k hk hn)⟩

/-- What the loop keeps: the box of the result, and the row that it owns. -/
def LinI (w : World) (pre : List (List UInt8)) (W : World) : Prop :=
  ∃ v, Blk W w.heap.size [v] 60 ∧ SRow w v (pre.map chop) W ∧ (∀ i, v.ownBlock = some i → i ≠ w.heap.size ∧ i ≠ w.heap.size + 1) ∧ w.heap.size + 1 < W.heap.size
theorem LinI.put {w : World} {s : List (List UInt8)} {W : World} {l : Nat} {o o' : Obj} (h : LinI w s W) (hl : w.heap.size ≤ l) (ho : W.heap[l]? = some o) (hc : o.isCells = false) : LinI w s (W.putObj l o') := by
  obtain ⟨v, hb, ⟨hr, hob, hf⟩, hn⟩ := h
  have hne : w.heap.size ≠ l := fun e => by
    subst e
    rw [show W.heap[w.heap.size]? = _ from hb] at ho
    cases ho; cases hc
  exact ⟨v, (World.putObj_heap_other hne).trans hb, ⟨ownsRow_putObj hr o' ho hc, hob, hf.putObj l o' hl⟩, hn.1, by rw [World.putObj]; simpa using hn.2⟩
theorem LinI.alloc {w : World} {s : List (List UInt8)} {W : World} (o : Obj) (h : LinI w s W) : LinI w s (W.alloc o) := by
  obtain ⟨v, hb, ⟨hr, hob, hf⟩, hn⟩ := h
  have hfa : Fr (fun _ => False) W (W.alloc o) := (Fr.refl (fun _ => False) W).alloc o
  exact ⟨v, hb.frame hfa (fun h => h), ⟨ownsRow_frame hr hfa (fun _ _ h => h), hob, hf.alloc o⟩, hn.1, by have := hn.2; simp; omega⟩
theorem LinI.drew {w : World} {s : List (List UInt8)} {W : World} (h : LinI w s W) : LinI w s W.drew := by
  obtain ⟨v, hb, ⟨hr, hob, hf⟩, hn⟩ := h
  exact ⟨v, hb, ⟨ownsRow_frame hr ((Fr.refl (fun _ => False) W).drew) (fun _ _ h => h), hob, hf.drew⟩, hn.1, hn.2⟩
theorem LinI.set {w : World} {s : List (List UInt8)} {W : World} (v' : Value) (h : LinI w s W) : LinI w s (W.setCell ⟨w.heap.size + 1, 0, none⟩ v') := by
  obtain ⟨v, hb, ⟨hr, hob, hf⟩, hn⟩ := h
  have hfs : Fr (fun i => i = w.heap.size + 1) W (W.setCell ⟨w.heap.size + 1, 0, none⟩ v') := Fr.setCell (S := fun i => i = w.heap.size + 1) (Fr.refl _ W) ⟨w.heap.size + 1, 0, none⟩ (.inl rfl) v'
  exact ⟨v, hb.frame hfs (by omega), ⟨ownsRow_frame hr hfs (fun i hi e => (hn.1 i hi).2 e), hob, hf.setCell _ (.inr (by show w.heap.size ≤ w.heap.size + 1; omega)) v'⟩, hn.1, by rw [World.setCell]; simpa using hn.2⟩

set_option maxRecDepth 100000 in
theorem mklines (S : ByteArray) (w : World) : Calls Tryz.prog 33 #[.string S] w fun e w' => e = .returned (.func (.func 50) #[] #[.pointer (some ⟨w.heap.size, 0, none⟩)]) ∧ w' = w.alloc (.cells #[.string S] 9) := by
  go_enter Tryz.func33, Tryz.ntmps33
  go_wp2
  go_ret
  exact ⟨rfl, rfl⟩

/-- append of one element to a row that is owned, as one step of a region that draws, in a fence. -/
theorem step_append_one_in {F : Fence} {n : Nat} {P : Program} {ops : Array Oper} {o : Oper} {a : Act} {w : World} {K : Act → World → Prop} {Q : Exit → Act → World → Prop} {E : Prop} (hgd : o.guard = none) (s x : Operand) (t : TypeId)
    (ho : o.op = .call { callee := .builtin .append, args := #[s, x], argTypes := #[t, t] })
    (e : TypeId) (i : TypeInfo) (z : Value) (bytes : Nat) (ht : P.underlying t = some (.slice e)) (hi : P.info? e = some i) (hz : i.zero = some z)
    (hsize : i.size = 1) (hby : i.bytes = bytes) (hzs : z.cells.size = 1)
    (v : Value) (k : Nat) (xs : List Value) (hs : a.eval s = v) (hown : w.ownsRow 0 e 1 v k xs)
    (ad : Addr) (c : Nat) (u : Value) (hx : a.eval x = .slice (some ad) 1 c) (hu : w.cell? ad = some u) (h1 : u.oneCell' = true)
    (h63 : k + 1 ≤ maxLen) (hbytes : (k + 1) * bytes ≤ 140737488355328)
    (h : ∀ g cap w', w'.ownsRow 0 e 1 (.slice (some ⟨g, 0, none⟩) (k + 1) cap) (k + 1) (xs ++ [u]) → Fr (fun k => v.ownBlock = some k) w w' → (v.ownBlock = some g ∨ w.heap.size ≤ g) →
      K (a.put o.dst (.slice (some ⟨g, 0, none⟩) (k + 1) cap)) w') : if Region.wanted o (yielded ops a.tmps) = true then Oper.wpIn F n P o a w K Q else E := by
  have hw : Region.wanted o (yielded ops a.tmps) = true := by simp [Region.wanted, hgd]
  rw [if_pos hw]
  obtain ⟨g, cap, w', hr, h2, h3, h4⟩ := run_append_one (P := P) w t o.type e i z bytes ht hi hz hsize hby hzs v k xs hown ad c u hu h1 h63 hbytes
  unfold Oper.wpIn
  refine ⟨?_, ?_⟩
  · simp [Oper.about, ho, resolve, Target.leads, Sem.run_pure]
  · rw [Oper.semAt_plain F _ _ (by rw [ho]; intro c hc'; cases hc')]
    simp [execOp, ho, resolve, invoke, builtin, hs, hx, hr, Result.andThen]
    exact h g cap w' h2 h3 h4

/-- What the store into the box leaves. -/
def LinEnd (w W : World) (s : List (List UInt8)) (W3 : World) : Prop :=
  (∀ k o, w.heap.size ≤ k → W.heap[k]? = some o → o.isCells = false → W3.heap[k]? = some o) ∧ W3.heap[w.heap.size + 1]? = W.heap[w.heap.size + 1]? ∧ LinI w s W3
theorem lin_step {w W W1 w1 : World} {q : Option Addr} {qc g cap' : Nat} {pre : List (List UInt8)} {x : List UInt8} (hsz : w.heap.size + 1 < W.heap.size)
    (hb : Blk W w.heap.size [.slice q (pre.map chop).length qc] 60) (hrow : SRow w (.slice q (pre.map chop).length qc) (pre.map chop) W) (hn : ∀ i, (Value.slice q (pre.map chop).length qc).ownBlock = some i → i ≠ w.heap.size ∧ i ≠ w.heap.size + 1)
    (hW1 : Fr (fun _ => False) W W1)
    (ho1 : w1.ownsRow 0 9 1 (.slice (some ⟨g, 0, none⟩) ((pre.map chop).length + 1) cap') ((pre.map chop).length + 1) (svals (pre.map chop) ++ [.string (bytesOf (chop x))]))
    (hf1 : Fr (fun i => (Value.slice q (pre.map chop).length qc).ownBlock = some i) W1 w1) (hg1 : (Value.slice q (pre.map chop).length qc).ownBlock = some g ∨ W1.heap.size ≤ g) :
    w1.cell? ⟨w.heap.size, 0, none⟩ = some (.slice q (pre.map chop).length qc) ∧ w1.frozen? ⟨w.heap.size, 0, none⟩ = false ∧
      LinEnd w W (pre ++ [x]) (w1.setCell ⟨w.heap.size, 0, none⟩ (.slice (some ⟨g, 0, none⟩) ((pre.map chop).length + 1) cap')) := by
  have hb1 : Blk w1 w.heap.size [.slice q (pre.map chop).length qc] 60 := (hb.frame hW1 (fun h => h)).frame hf1 (fun h => (hn _ h).1 rfl)
  have hrow1 := hrow.step ho1 rfl _ hW1 hf1 hg1
  have hgn : g ≠ w.heap.size ∧ g ≠ w.heap.size + 1 := by
    rcases hg1 with h | h
    · exact hn _ h
    · have := hW1.size; omega
  refine ⟨hb1.cell 0 rfl, hb1.free 0, ?_, ?_, .slice (some ⟨g, 0, none⟩) ((pre.map chop).length + 1) cap', hb1.set 0 _, ?_, ?_⟩
  · intro k o hk ho hc
    have hlt := (Array.getElem?_eq_some_iff.1 ho).1
    have hkb : k ≠ w.heap.size := fun e => by
      subst e
      rw [show W.heap[w.heap.size]? = _ from hb] at ho
      cases ho; cases hc
    have hko : ¬ (Value.slice q (pre.map chop).length qc).ownBlock = some k := fun e => by
      rcases hrow.1.2 with ⟨hv, _⟩ | ⟨g', cap2, cur, hv, _, hg, _⟩
      · rw [hv] at e; cases e
      · rw [hv] at e
        simp only [Value.ownBlock, Option.some.injEq] at e
        subst e
        rw [hg] at ho
        cases ho; cases hc
    rw [setCell_heap_other hkb, hf1.block k (Nat.lt_of_lt_of_le hlt hW1.size) hko, hW1.block k hlt (fun h => h), ho]
  · rw [setCell_heap_other (by show w.heap.size + 1 ≠ w.heap.size; omega), hf1.block _ (Nat.lt_of_lt_of_le hsz hW1.size) (fun h => (hn _ h).2 rfl), hW1.block _ hsz (fun h => h)]
  · rw [show (pre ++ [x]).map chop = pre.map chop ++ [chop x] by simp]
    obtain ⟨ho, hbk, hf⟩ := hrow1
    have hfs : Fr (fun i => i = w.heap.size) w1 (w1.setCell ⟨w.heap.size, 0, none⟩ (.slice (some ⟨g, 0, none⟩) ((pre.map chop).length + 1) cap')) := Fr.setCell (S := fun i => i = w.heap.size) (Fr.refl _ w1) ⟨w.heap.size, 0, none⟩ (.inl rfl) _
    refine ⟨?_, ?_, hf.setCell _ (.inr (Nat.le_refl _)) _⟩
    · have := ownsRow_frame ho hfs (fun i hi e => by
        simp only [Value.ownBlock, Option.some.injEq] at hi
        subst hi
        exact hgn.1 e)
      simpa using this
    · exact hbk
  · refine ⟨fun i hi => ?_, ?_⟩
    · simp only [Value.ownBlock, Option.some.injEq] at hi
      subst hi
      exact hgn
    · have h1 := hW1.size
      have h2 := hf1.size
      rw [World.setCell]
      simp
      omega

section
attribute [local go_sem] Oper.semAt_some
set_option maxRecDepth 100000 in
set_option maxHeartbeats 3200000 in
theorem lines_in (l : List UInt8) (hl : l.length ≤ 100000) (w : World) : CallsIn Fence.wide 6 Tryz.prog 19 #[.string (bytesOf l)] w (StrsPost w ((linesK [] l).map chop)) := by
  have HMK := Lib.hid (mklines (bytesOf l))
  refine callsIn_of_wp_marks Tryz.func19 rfl trivial ?_ rfl
  simp only [Tryz.ntmps19, List.size_toArray, List.length_cons, List.length_nil, Nat.reduceAdd, Nat.reduceSub, Array.replicate_succ, Array.replicate_zero, List.push_toArray, List.append_toArray, List.nil_append, List.cons_append]
  gi_wp2
  refine ⟨trivial, callsIn_wide.2 ((HMK.out _).mono ?_)⟩
  rintro e w' ⟨rfl, rfl⟩
  gi_wp2
  have hbo : Blk ((w.alloc (.cells #[.slice none 0 0] 60)).alloc (.cells #[.string (bytesOf l)] 9)) w.heap.size [.slice none 0 0] 60 := (Blk.new w [.slice none 0 0] 60).alloc _
  have hbs : Blk ((w.alloc (.cells #[.slice none 0 0] 60)).alloc (.cells #[.string (bytesOf l)] 9)) (w.heap.size + 1) [.string (bytesOf l)] 9 := by
    have := Blk.new (w.alloc (.cells #[.slice none 0 0] 60)) [.string (bytesOf l)] 9
    rwa [World.size_alloc] at this
  have hI0 : LinI w [] ((w.alloc (.cells #[.slice none 0 0] 60)).alloc (.cells #[.string (bytesOf l)] 9)) :=
    ⟨_, hbo, ⟨World.ownsRow_nil _ _ _ _, by simp [Value.ownBlock], ((Fr.refl _ w).alloc _).alloc _⟩, by simp [Value.ownBlock], by simp⟩
  have hW0 : ((w.alloc (.cells #[.slice none 0 0] 60)).alloc (.cells #[.string (bytesOf l)] 9)).heap.size = w.heap.size + 2 := by simp
  obtain ⟨i0, hi, hz0, hz1, hz2⟩ := info_parts info_string
  generalize (w.alloc (.cells #[.slice none 0 0] 60)).alloc (.cells #[.string (bytesOf l)] 9) = W0 at *
  refine range_box (n := 6) (gf := 50) (lb := #[.pointer (some ⟨w.heap.size + 1, 0, none⟩)]) (by omega) rfl (enters_of Tryz.func50 (by kernel_rfl) rfl) rfl (linesK [] l) (w.heap.size + 1) (by omega) (LinI w)
    (fun s W k o o' h hk ho hc => h.put (by omega) ho hc) (fun s W o h => h.alloc o) (fun s W v h => h.set v) (fun s W h => h.drew) hI0
    (fun k J W hJs hJd hY hbx h0 => iter_in 4 k (w.heap.size + 1) J hJs hJd l hl hY W (hbx.trans hbs) h0)
    (fun x => { tmps := #[.string (bytesOf l), undef, .slice none 0 0, .pointer (some ⟨w.heap.size, 0, none⟩), .string (bytesOf x), .string (bytesOf l), .func (.func 50) #[] #[.pointer (some ⟨w.heap.size + 1, 0, none⟩)], .string (bytesOf x), undef, undef, undef, undef, undef, undef], defers := [] }) ?assign ?body ?done
  case assign =>
    intro k x W K hK
    gi_wp2
    exact hK
  case body =>
    intro k pre x W hI hlen
    obtain ⟨v, hb, hrow, hn, hsz⟩ := hI
    obtain ⟨q, qc, rfl⟩ := srow_shape hrow.1
    have hc : W.drew.cell? ⟨w.heap.size, 0, none⟩ = _ := hb.cell 0 rfl
    have hc2 : (W.alloc (.cells #[.string (bytesOf (chop x))] 9)).cell? ⟨w.heap.size, 0, none⟩ = _ := (hb.alloc _).cell 0 rfl
    have hfz : W.drew.frozen? ⟨w.heap.size, 0, none⟩ = false := hb.free 0
    have hW1 : Fr (fun _ => False) W (W.drew.alloc (.cells #[.string (bytesOf (chop x))] 9)) := ((Fr.refl _ W).drew).alloc _
    have hown := ownsRow_frame hrow.1 hW1 (fun _ _ h => h)
    have hnew : (W.drew.alloc (.cells #[.string (bytesOf (chop x))] 9)).cell? ⟨W.heap.size, 0, none⟩ = some (.string (bytesOf (chop x))) := (Blk.new W.drew [.string (bytesOf (chop x))] 9).cell 0 rfl
    have HAPP := Lib.hid (fun g cap' w1 ho1 hf1 hg1 => lin_step (x := x) (g := g) (cap' := cap') (w1 := w1) hsz hb hrow hn hW1 ho1 hf1 hg1)
    have hxs : (bytesOf x).size ≤ 9223372036854775807 := by
      have := linesK_mem l [] x (List.mem_of_getElem? hlen)
      rw [List.length_nil] at this
      rw [bytes_size]
      omega
    have hTS : Hid (∀ w, CallsIn (Fence.wide.inRound k) 3 Tryz.prog 34 #[.string (bytesOf x), .string ⟨#[10]⟩] w fun e w' => e = .returned (.string (bytesOf (chop x))) ∧ w' = w) := fun w => callsIn_wide.2 (Tryz.strings_TrimSuffix (bytesOf x) ⟨#[10]⟩ w hxs)
    have hlk := linesK_len l []
    rw [List.length_nil] at hlk
    have hpl := (List.getElem?_eq_some_iff.1 hlen).1
    have hmax : (pre.map chop).length + 1 ≤ maxLen := by rw [List.length_map]; unfold maxLen; omega
    have hbts : ((pre.map chop).length + 1) * 16 ≤ 140737488355328 := by rw [List.length_map]; omega
    clear hlk hpl hsz hW1 hrow hb hn
    generalize (pre.map chop).length = len at *
    gi_wp2
    refine wpIn_region_any (by kernel_rfl) ?_
    change wpAnyIn _ _ _ _ _ _ _ _ _ (World.drew _)
    refine wpAnyIn_ready (rs := [0, 1]) (by kernel_rfl) (by simp) ?_
    refine AllReadyIn.cons rfl (fun K hK => ?_) (AllReadyIn.cons rfl (fun K hK => ?_) AllReadyIn.nil)
    · go_simp
      refine hK _ _ ?_
      clear hK K
      refine wpAnyIn_ready (rs := [1]) (by kernel_rfl) (by simp) ?_
      refine AllReadyIn.cons rfl (fun K hK => ?_) AllReadyIn.nil
      go_simp
      refine hK _ _ ?_
      clear hK K
      refine wpAnyIn_ready (rs := [2]) (by kernel_rfl) (by simp) ?_
      refine AllReadyIn.cons rfl (fun K hK => ?_) AllReadyIn.nil
      go_simp
      refine ⟨trivial, (hTS.out _).mono ?_⟩
      rintro e w' ⟨rfl, rfl⟩
      refine hK _ _ ?_
      clear hK K
      refine wpAnyIn_ready (rs := [3]) (by kernel_rfl) (by simp) ?_
      refine AllReadyIn.cons rfl (fun K hK => ?_) AllReadyIn.nil
      go_simp
      refine hK _ _ ?_
      clear hK K
      refine wpAnyIn_ready (rs := [4]) (by kernel_rfl) (by simp) ?_
      refine AllReadyIn.cons rfl (fun K hK => ?_) AllReadyIn.nil
      refine step_append_one_in rfl _ _ 60 rfl 9 i0 (.string ⟨#[]⟩) 16 Tryz.underlying60 hi hz0 hz1 hz2 rfl (.slice q len qc) len (svals (pre.map chop)) rfl hown ⟨W.heap.size, 0, none⟩ _ (.string (bytesOf (chop x))) rfl hnew rfl hmax hbts ?_
      intro g cap' w1 ho1 hf1 hg1
      refine hK _ _ ?_
      clear hK K
      obtain ⟨f1, f2, f3, f4, f5⟩ := HAPP.out g cap' w1 ho1 hf1 hg1
      clear ho1 hf1 hg1 HAPP hTS
      refine wpAnyIn_ready (rs := [5]) (by kernel_rfl) (by simp) ?_
      refine AllReadyIn.cons rfl (fun K hK => ?_) AllReadyIn.nil
      go_simp
      refine hK _ _ ?_
      clear hK K
      refine wpAnyIn_done (by kernel_rfl) ?_ _
      gi_wp2
      exact fun k o hk => f3 k o (by omega)
    · go_simp
      refine hK _ _ ?_
      clear hK K
      refine wpAnyIn_ready (rs := [0, 2]) (by kernel_rfl) (by simp) ?_
      refine AllReadyIn.cons rfl (fun K hK => ?_) (AllReadyIn.cons rfl (fun K hK => ?_) AllReadyIn.nil)
      · go_simp
        refine hK _ _ ?_
        clear hK K
        refine wpAnyIn_ready (rs := [2]) (by kernel_rfl) (by simp) ?_
        refine AllReadyIn.cons rfl (fun K hK => ?_) AllReadyIn.nil
        go_simp
        refine ⟨trivial, (hTS.out _).mono ?_⟩
        rintro e w' ⟨rfl, rfl⟩
        refine hK _ _ ?_
        clear hK K
        refine wpAnyIn_ready (rs := [3]) (by kernel_rfl) (by simp) ?_
        refine AllReadyIn.cons rfl (fun K hK => ?_) AllReadyIn.nil
        go_simp
        refine hK _ _ ?_
        clear hK K
        refine wpAnyIn_ready (rs := [4]) (by kernel_rfl) (by simp) ?_
        refine AllReadyIn.cons rfl (fun K hK => ?_) AllReadyIn.nil
        refine step_append_one_in rfl _ _ 60 rfl 9 i0 (.string ⟨#[]⟩) 16 Tryz.underlying60 hi hz0 hz1 hz2 rfl (.slice q len qc) len (svals (pre.map chop)) rfl hown ⟨W.heap.size, 0, none⟩ _ (.string (bytesOf (chop x))) rfl hnew rfl hmax hbts ?_
        intro g cap' w1 ho1 hf1 hg1
        refine hK _ _ ?_
        clear hK K
        obtain ⟨f1, f2, f3, f4, f5⟩ := HAPP.out g cap' w1 ho1 hf1 hg1
        clear ho1 hf1 hg1 HAPP hTS
        refine wpAnyIn_ready (rs := [5]) (by kernel_rfl) (by simp) ?_
        refine AllReadyIn.cons rfl (fun K hK => ?_) AllReadyIn.nil
        go_simp
        refine hK _ _ ?_
        clear hK K
        refine wpAnyIn_done (by kernel_rfl) ?_ _
        gi_wp2
        exact fun k o hk => f3 k o (by omega)
      · go_simp
        refine ⟨trivial, (hTS.out _).mono ?_⟩
        rintro e w' ⟨rfl, rfl⟩
        refine hK _ _ ?_
        clear hK K
        refine wpAnyIn_ready (rs := [0, 3]) (by kernel_rfl) (by simp) ?_
        refine AllReadyIn.cons rfl (fun K hK => ?_) (AllReadyIn.cons rfl (fun K hK => ?_) AllReadyIn.nil)
        · go_simp
          refine hK _ _ ?_
          clear hK K
          refine wpAnyIn_ready (rs := [3]) (by kernel_rfl) (by simp) ?_
          refine AllReadyIn.cons rfl (fun K hK => ?_) AllReadyIn.nil
          go_simp
          refine hK _ _ ?_
          clear hK K
          refine wpAnyIn_ready (rs := [4]) (by kernel_rfl) (by simp) ?_
          refine AllReadyIn.cons rfl (fun K hK => ?_) AllReadyIn.nil
          refine step_append_one_in rfl _ _ 60 rfl 9 i0 (.string ⟨#[]⟩) 16 Tryz.underlying60 hi hz0 hz1 hz2 rfl (.slice q len qc) len (svals (pre.map chop)) rfl hown ⟨W.heap.size, 0, none⟩ _ (.string (bytesOf (chop x))) rfl hnew rfl hmax hbts ?_
          intro g cap' w1 ho1 hf1 hg1
          refine hK _ _ ?_
          clear hK K
          obtain ⟨f1, f2, f3, f4, f5⟩ := HAPP.out g cap' w1 ho1 hf1 hg1
          clear ho1 hf1 hg1 HAPP hTS
          refine wpAnyIn_ready (rs := [5]) (by kernel_rfl) (by simp) ?_
          refine AllReadyIn.cons rfl (fun K hK => ?_) AllReadyIn.nil
          go_simp
          refine hK _ _ ?_
          clear hK K
          refine wpAnyIn_done (by kernel_rfl) ?_ _
          gi_wp2
          exact fun k o hk => f3 k o (by omega)
        · go_simp
          refine hK _ _ ?_
          clear hK K
          refine wpAnyIn_ready (rs := [0]) (by kernel_rfl) (by simp) ?_
          refine AllReadyIn.cons rfl (fun K hK => ?_) AllReadyIn.nil
          go_simp
          refine hK _ _ ?_
          clear hK K
          refine wpAnyIn_ready (rs := [4]) (by kernel_rfl) (by simp) ?_
          refine AllReadyIn.cons rfl (fun K hK => ?_) AllReadyIn.nil
          refine step_append_one_in rfl _ _ 60 rfl 9 i0 (.string ⟨#[]⟩) 16 Tryz.underlying60 hi hz0 hz1 hz2 rfl (.slice q len qc) len (svals (pre.map chop)) rfl hown ⟨W.heap.size, 0, none⟩ _ (.string (bytesOf (chop x))) rfl hnew rfl hmax hbts ?_
          intro g cap' w1 ho1 hf1 hg1
          refine hK _ _ ?_
          clear hK K
          obtain ⟨f1, f2, f3, f4, f5⟩ := HAPP.out g cap' w1 ho1 hf1 hg1
          clear ho1 hf1 hg1 HAPP hTS
          refine wpAnyIn_ready (rs := [5]) (by kernel_rfl) (by simp) ?_
          refine AllReadyIn.cons rfl (fun K hK => ?_) AllReadyIn.nil
          go_simp
          refine hK _ _ ?_
          clear hK K
          refine wpAnyIn_done (by kernel_rfl) ?_ _
          gi_wp2
          exact fun k o hk => f3 k o (by omega)
  case done =>
    intro D W hI hK hD
    obtain ⟨v, hb, hrow, hn, hsz⟩ := hI
    have hc := hb.cell 0 rfl
    gi_wp2
    refine ⟨by simp, .inl ⟨_, _, rfl, run_takeDeferred hK, ?_⟩⟩
    have hI2 : LinI w (linesK [] l) (W.putObj D (.deferred none)) := LinI.put ⟨v, hb, hrow, hn, hsz⟩ (by omega) hK rfl
    obtain ⟨v2, hb2, ⟨ho2, hbk2, hf2⟩, _⟩ := hI2
    obtain rfl : v2 = v := by
      have := (hb2.cell 0 rfl).symm.trans (((World.cell?_of_block (w := W) (World.putObj_heap_other (by show w.heap.size ≠ D; omega))).trans hc))
      simpa using this
    exact ⟨_, results_tmp rfl _ _ _, v2, rfl, strs_of (by simpa using ho2), hf2⟩
end
end Go.Proofs.YtlcgmniahdngdaaGreatDoor
