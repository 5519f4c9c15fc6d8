/- The walk of the law StatsOrder. -/
import Derived.Test.YtmllbdiljjimmaaStatsNobody
namespace Go.Proofs.Ytmllbdiljjimmaa
open Go.RowKit

/-- The kinds of a row. -/
theorem rkinds_rowO {W w : World} {b : Nat} {v : Value} {fs : List Nat} (h : RowB W w b v fs) (hl : fs.length ≤ 100000) : Calls Try.prog 48 #[.pointer (some ⟨b, 0, none⟩)] w (KPost w fs) := by
  obtain ⟨q, qc, hv, hf, _⟩ := flts_of_row h.2.1
  exact rkinds_of _ v q fs.length qc fs w (fun w' hf => all_any (h.keep hf)) hv hf hl

/-! ### A new row of words beside a row of floats -/
def wvals (fs : List Nat) : List Value := fs.map (fun f : Nat => Value.int .u64 (f : Int))
theorem wvals_cells (fs : List Nat) : ∀ u ∈ wvals fs, u.oneCell' = true := by
  intro u hu
  obtain ⟨x, _, rfl⟩ := List.mem_map.1 hu
  rfl
theorem info_word : (Try.prog.info? 35).map (fun i => (i.zero, i.size, i.bytes)) = some (some (.int .u64 0), 1, 8) := by kernel_rfl
def OrdB (W w : World) (b : Nat) (v : Value) (fs : List Nat) (g : Nat) (v2 : Value) (n : Nat) (xs : List Value) : Prop :=
  RowB W w b v fs ∧ w.ownsRow 0 35 1 v2 n xs ∧ v2.ownBlock = some g ∧ W.heap.size ≤ g ∧ g ≠ b ∧ v.ownBlock ≠ some g
theorem RowB.base {W W' w : World} {b : Nat} {v : Value} {fs : List Nat} (h : RowB W' w b v fs) (hf : Fr (fun _ => False) W W') : RowB W w b v fs :=
  ⟨h.1, ⟨h.2.1.1, fun i hi => Nat.le_trans hf.size (h.2.1.2.1 i hi), h.2.1.2.2.1, hf.then h.2.1.2.2.2⟩, h.2.2.1, Nat.le_trans hf.size h.2.2.2⟩
theorem ord_step {W w w' : World} {b : Nat} {v : Value} {fs : List Nat} {g : Nat} {v2 : Value} {n : Nat} {xs : List Value} {g1 n' c' : Nat} {xs' : List Value} (h : OrdB W w b v fs g v2 n xs)
    (ho : w'.ownsRow 0 35 1 (.slice (some ⟨g1, 0, none⟩) n' c') n' xs') (hf : Fr (fun k => v2.ownBlock = some k) w w') (hg : v2.ownBlock = some g1 ∨ w.heap.size ≤ g1) : OrdB W w' b v fs g1 (.slice (some ⟨g1, 0, none⟩) n' c') n' xs' := by
  obtain ⟨hr, _, h3, h4, h5, h6⟩ := h
  have hsz : W.heap.size ≤ w.heap.size := hr.2.1.2.2.2.size
  have hb : b < w.heap.size := cell_lt (hr.1.cell 0 rfl)
  have hv := hr.2.1.lt
  rw [h3] at hg
  refine ⟨hr.frame hf ?_ ?_ ?_, ho, rfl, ?_, ?_, ?_⟩
  · intro e
    rw [h3] at e
    cases e
    exact h5 rfl
  · intro i hi e
    rw [h3] at e
    cases e
    exact h6 hi
  · intro i e
    rw [h3] at e
    cases e
    exact h4
  · rcases hg with e | e
    · cases e; exact h4
    · omega
  · rintro rfl
    rcases hg with e | e
    · cases e; exact h5 rfl
    · omega
  · intro e
    rcases hg with e' | e'
    · cases e'; exact h6 e
    · have := hv _ e; omega
theorem ord_a {W w : World} {b : Nat} {v : Value} {fs : List Nat} (h : RowB W w b v fs) : OrdB W (w.alloc (.cells #[] 35)) b v fs w.heap.size (.slice (some ⟨w.heap.size, 0, none⟩) 0 0) 0 [] := by
  have hb : b < w.heap.size := cell_lt (h.1.cell 0 rfl)
  exact ⟨h.keep ((Fr.refl _ _).alloc _), World.ownsRow_lit w #[] 0 (Nat.zero_le _) (by decide) rfl, rfl, h.2.1.2.2.2.size, by omega, fun e => by have := h.2.1.lt _ e; omega⟩
theorem ord_b {W w : World} {b : Nat} {v : Value} {fs : List Nat} (h : RowB (W.alloc (.cells #[] 35)) w b v fs) : OrdB W w b v fs W.heap.size (.slice (some ⟨W.heap.size, 0, none⟩) 0 0) 0 [] := by
  have hs : (W.alloc (.cells #[] 35)).heap.size = W.heap.size + 1 := by simp
  have hb := h.2.2.2
  rw [hs] at hb
  exact ⟨h.base ((Fr.refl _ _).alloc _), ownsRow_frame (World.ownsRow_lit W #[] 0 (Nat.zero_le _) (by decide) rfl) h.2.1.2.2.2 (fun _ _ h => h), rfl, Nat.le_refl _, by omega, fun e => by have := h.2.1.2.1 _ e; omega⟩
theorem addr_add (b o j : Nat) : (⟨b, o, none⟩ : Addr).add j = ⟨b, o + j, none⟩ := by unfold Addr.add; split <;> simp_all
theorem news_drop {w : World} {pb off len : Nat} {fs : List Nat} (h : Words w (some ⟨pb, off, none⟩) len fs) (t : Nat) : ∀ j u, (wvals (fs.drop t))[j]? = some u → w.cell? ((⟨pb, off + t, none⟩ : Addr).add j) = some u := by
  intro j u hj
  unfold wvals at hj
  rw [List.getElem?_map, List.getElem?_drop] at hj
  cases hx : fs[t + j]? with
  | none => rw [hx] at hj; cases hj
  | some f =>
    have hl : t + j < len := by rw [← h.len]; exact (List.getElem?_eq_some_iff.1 hx).1
    obtain ⟨b', o', f', e, hf', _, hc⟩ := h.at hl
    cases e
    rw [hx] at hf' hj
    cases hf'
    cases hj
    rw [addr_add, show off + t + j = off + (t + j) by omega]
    exact hc
theorem news_take {w : World} {pb off len : Nat} {fs : List Nat} (h : Words w (some ⟨pb, off, none⟩) len fs) (t : Nat) : ∀ j u, (wvals (fs.take t))[j]? = some u → w.cell? ((⟨pb, off, none⟩ : Addr).add j) = some u := by
  intro j u hj
  have hjl := (List.getElem?_eq_some_iff.1 hj).1
  have h2 : j < t := by unfold wvals at hjl; rw [List.length_map, List.length_take] at hjl; omega
  unfold wvals at hj
  rw [List.getElem?_map, List.getElem?_take_of_lt h2] at hj
  cases hx : fs[j]? with
  | none => rw [hx] at hj; cases hj
  | some f =>
    have hl : j < len := by rw [← h.len]; exact (List.getElem?_eq_some_iff.1 hx).1
    obtain ⟨b', o', f', e, hf', _, hc⟩ := h.at hl
    cases e
    rw [hx] at hf' hj
    cases hf'
    cases hj
    rw [addr_add]
    exact hc
theorem words_of_own {w : World} {g n c : Nat} {fs : List Nat} (h : w.ownsRow 0 35 1 (.slice (some ⟨g, 0, none⟩) n c) n (wvals fs)) (hl : fs.length = n) (lo : Low fs) : Words w (some ⟨g, 0, none⟩) n fs := by
  refine ⟨⟨by rw [List.length_map]; exact hl, fun i hi => ?_⟩, lo⟩
  have hi' : i < fs.length := by omega
  refine ⟨g, 0, (fs[i] : Int), rfl, by rw [List.getElem?_map, List.getElem?_eq_getElem hi']; rfl, ?_⟩
  have := h.cellAt i (by omega)
  rw [Nat.zero_add, this]
  unfold wvals
  rw [List.getElem?_map, List.getElem?_eq_getElem hi']
  rfl

theorem turn_ofI (k : Int) (len : Nat) (h : 0 < len) (h2 : len ≤ 80) : ∃ t : Nat, wrap64 ((IntKind.u64.wrap k).tmod (len : Int)) = (t : Int) ∧ t < len := by
  have hw : 0 ≤ IntKind.u64.wrap k := by rw [IntKind.wrap_u64]; omega
  obtain ⟨u, hu⟩ : ∃ u : Nat, IntKind.u64.wrap k = (u : Int) := ⟨(IntKind.u64.wrap k).toNat, by omega⟩
  rw [hu, Int.tmod_eq_emod_of_nonneg (by omega)]
  have hlt := Nat.mod_lt u h
  refine ⟨u % len, ?_, hlt⟩
  rw [show ((u : Int) % (len : Int)) = ((u % len : Nat) : Int) by omega]
  generalize u % len = m at *
  first | (unfold wrap64; omega) | (simp only [wrap64]; omega)


set_option maxRecDepth 100000 in
set_option maxHeartbeats 6400000 in
theorem StatsOrder_any (p : Option Addr) (len cap : Nat) (l : List Nat) (k : Int) (hcap : len ≤ cap) (W : World) (h : Words W p len l) :
    Calls Try.prog 12 #[.slice p len cap, .int .i64 k] W (LawPost W) := by
  have HL := Lib.hid lives35_any
  rcases Nat.eq_zero_or_pos len with h0 | h0
  · subst h0
    clear h hcap
    go_enter Try.func12, Try.ntmps12
    go_wp2_with fail
    refine (HL.out _).mono ?_
    rintro e w1 ⟨rfl, hf⟩
    have HF := Lib.hid hf
    clear hf
    go_wp2
    go_ret
    exact ⟨rfl, HF.out⟩
  by_cases h80 : 80 < len
  · have hi : (80 : Int) < len := by omega
    have hz : ((len : Int) == 0) = false := by rw [beq_eq_false_iff_ne]; omega
    clear h h80 h0 hcap
    go_enter Try.func12, Try.ntmps12
    go_wp2_with fail
    refine (HL.out _).mono ?_
    rintro e w1 ⟨rfl, hf⟩
    have HF := Lib.hid hf
    clear hf
    go_wp2
    go_ret
    exact ⟨rfl, HF.out⟩
  have hi : (len : Int) ≤ 80 := by omega
  have hp : (1 : Int) ≤ len := by omega
  have hz : ((len : Int) == 0) = false := by rw [beq_eq_false_iff_ne]; omega
  have HLE : Hid (len ≤ 80 ∧ 0 < len) := ⟨Nat.le_of_not_lt h80, h0⟩
  obtain ⟨pb, off, _, hpp, _, _, _⟩ := h.at h0
  subst hpp
  have HW := Lib.hid h
  have hll := h.len
  have HLOW : Hid (Low l) := h.2
  obtain ⟨t, ht, htl⟩ := turn_ofI k len h0 (Nat.le_of_not_lt h80)
  have HT := Lib.hid ht
  have HTL := Lib.hid htl
  have hti : (t : Int) < len := by omega
  have hcapi : (len : Int) ≤ cap := by omega
  have HC : Hid (len ≤ cap) := hcap
  have HLL := Lib.hid hll
  clear h h80 h0 hcap ht htl hll
  go_enter Try.func12, Try.ntmps12
  go_upto_region 4 with fail
  rw [HT.out]
  clear HT
  have HFD : Hid (Fr (fun _ => False) W W.drew) := (Fr.refl _ W).drew
  have HWD : Hid (Words W.drew (some ⟨pb, off, none⟩) len l) := HW.out.frame HFD.out
  clear HW
  refine wp_region_any (by kernel_rfl) ?_
  change wpAny _ _ _ _ _ _ _ (World.drew _)
  generalize W.drew = W1 at *
  have f1 : t ≤ len := by have := HTL.out; omega
  have f2 : ¬ (cap = t) := by have := HTL.out; have := HC.out; omega
  have f3 : ¬ (cap < t) := by have := HTL.out; have := HC.out; omega
  have f4 : t ≤ cap := by have := HTL.out; have := HC.out; omega
  refine takeA (i := 0) (d := 32) (v := .slice (some ⟨pb, off, none⟩) len cap) rfl rfl (by kernel_rfl) (by kernel_rfl) (by kernel_rfl) (fun _ _ _ h => h) (Or.inl ⟨by rfl, fun w => by go_simp⟩) ?_
  simp only [Act.put, List.setIfInBounds_toArray, List.set_cons_zero, List.set_cons_succ]
  refine takeA (i := 3) (d := 35) (v := .slice (some ⟨pb, off, none⟩) len cap) rfl rfl (by kernel_rfl) (by kernel_rfl) (by kernel_rfl) (fun _ _ _ h => h) (Or.inl ⟨by rfl, fun w => by go_simp⟩) ?_
  simp only [Act.put, List.setIfInBounds_toArray, List.set_cons_zero, List.set_cons_succ]
  refine takeA (i := 4) (d := 36) (v := .int .i64 (t : Int)) rfl rfl (by kernel_rfl) (by kernel_rfl) (by kernel_rfl) (fun _ _ _ h => h) (Or.inl ⟨by rfl, fun w => by go_simp⟩) ?_
  simp only [Act.put, List.setIfInBounds_toArray, List.set_cons_zero, List.set_cons_succ]
  refine takeA (i := 5) (d := 37) (v := .slice (some ⟨pb, off + t, none⟩) (len - t) (cap - t)) rfl rfl (by kernel_rfl) (by kernel_rfl) (by kernel_rfl) (fun _ _ _ h => h) (Or.inl ⟨by rfl, fun w => by go_simp⟩) ?_
  simp only [Act.put, List.setIfInBounds_toArray, List.set_cons_zero, List.set_cons_succ]
  refine takeA (i := 7) (d := 39) (v := .slice (some ⟨pb, off, none⟩) len cap) rfl rfl (by kernel_rfl) (by kernel_rfl) (by kernel_rfl) (fun _ _ _ h => h) (Or.inl ⟨by rfl, fun w => by go_simp⟩) ?_
  simp only [Act.put, List.setIfInBounds_toArray, List.set_cons_zero, List.set_cons_succ]
  refine takeA (i := 8) (d := 40) (v := .int .i64 (t : Int)) rfl rfl (by kernel_rfl) (by kernel_rfl) (by kernel_rfl) (fun _ _ _ h => h) (Or.inl ⟨by rfl, fun w => by go_simp⟩) ?_
  simp only [Act.put, List.setIfInBounds_toArray, List.set_cons_zero, List.set_cons_succ]
  refine takeA (i := 9) (d := 41) (v := .slice (some ⟨pb, off, none⟩) t cap) rfl rfl (by kernel_rfl) (by kernel_rfl) (by kernel_rfl) (fun _ _ _ h => h) (Or.inl ⟨by rfl, fun w => by go_simp⟩) ?_
  simp only [Act.put, List.setIfInBounds_toArray, List.set_cons_zero, List.set_cons_succ]
  refine wpAny_ready (rs := [1, 2]) (by kernel_rfl) (by simp) ?_
  obtain ⟨i0, hi0, hz0, hz1, hz2⟩ := info_parts info_word
  have HI0 := Lib.hid hi0
  have HZ0 := Lib.hid hz0
  have HZ1 := Lib.hid hz1
  have HZ2 := Lib.hid hz2
  clear hi0 hz0 hz1 hz2
  refine AllReady.cons rfl (fun K hK => ?_) (AllReady.cons rfl (fun K hK => ?_) AllReady.nil)
  · have HRO := Lib.hid (rowof_any (some ⟨pb, off, none⟩) len cap l W1 HWD.out (by have := HLE.out.1; omega))
    go_simp
    refine (HRO.out).mono ?_
    rintro e w2 ⟨b, v, rfl, hrow⟩
    dsimp only
    refine hK _ _ ?_
    clear hK K HRO
    try simp only [Act.put, List.setIfInBounds_toArray, List.set_cons_zero, List.set_cons_succ]
    have HOB := Lib.hid (ord_a hrow)
    clear hrow
    refine wpAny_ready (rs := [2]) (by kernel_rfl) (by simp) ?_
    refine AllReady.cons rfl (fun K hK => ?_) AllReady.nil
    go_simp
    refine hK _ _ ?_
    clear hK K
    try simp only [Act.put, List.setIfInBounds_toArray, List.set_cons_zero, List.set_cons_succ]
    generalize w2.alloc (.cells #[] 35) = w3 at *
    generalize w2.heap.size = g at *
    refine wpAny_ready (rs := [6]) (by kernel_rfl) (by simp) ?_
    refine AllReady.cons rfl (fun K hK => ?_) AllReady.nil
    refine step_append_some rfl (.tmp 34) (.tmp 37) 22 rfl 35 i0 (.int .u64 0) 8 Try.underlying22 HI0.out HZ0.out HZ1.out HZ2.out rfl (.slice (some ⟨g, 0, none⟩) 0 0) 0 [] rfl HOB.out.2.1 ⟨pb, off + t, none⟩ (len - t) (cap - t) (wvals (l.drop t)) rfl (by unfold wvals; rw [List.length_map, List.length_drop, HLL.out]) (news_drop (HWD.out.frame HOB.out.1.2.1.2.2.2) t) (wvals_cells _) (.inl (by have := HTL.out; omega)) (by have := HLE.out.1; unfold maxLen; omega) (by have := HLE.out.1; omega) ?_
    intro g1 cap1 w4 ho4 hf4 hg4
    refine hK _ _ ?_
    clear hK K
    try simp only [Act.put, List.setIfInBounds_toArray, List.set_cons_zero, List.set_cons_succ]
    have HOB1 := Lib.hid (ord_step HOB.out ho4 hf4 hg4)
    clear ho4 hf4 hg4 HOB
    refine wpAny_ready (rs := [10]) (by kernel_rfl) (by simp) ?_
    refine AllReady.cons rfl (fun K hK => ?_) AllReady.nil
    refine step_append_some rfl (.tmp 38) (.tmp 41) 22 rfl 35 i0 (.int .u64 0) 8 Try.underlying22 HI0.out HZ0.out HZ1.out HZ2.out rfl (.slice (some ⟨g1, 0, none⟩) (0 + (len - t)) cap1) (0 + (len - t)) ([] ++ wvals (l.drop t)) rfl HOB1.out.2.1 ⟨pb, off, none⟩ t cap (wvals (l.take t)) rfl (by unfold wvals; rw [List.length_map, List.length_take, HLL.out]; have := HTL.out; omega) (news_take (HWD.out.frame HOB1.out.1.2.1.2.2.2) t) (wvals_cells _) (.inr (by intro h; cases h)) (by have := HLE.out.1; unfold maxLen; omega) (by have := HLE.out.1; omega) ?_
    intro g2 cap2 w5 ho5 hf5 hg5
    refine hK _ _ ?_
    clear hK K
    try simp only [Act.put, List.setIfInBounds_toArray, List.set_cons_zero, List.set_cons_succ]
    have HOB2 := Lib.hid (ord_step HOB1.out ho5 hf5 hg5)
    clear ho5 hf5 hg5 HOB1
    have HROT : Hid (Words w5 (some ⟨g2, 0, none⟩) (0 + (len - t) + t) (l.drop t ++ l.take t)) := by
      have := HOB2.out.2.1
      rw [List.nil_append, show wvals (l.drop t) ++ wvals (l.take t) = wvals (l.drop t ++ l.take t) by unfold wvals; rw [List.map_append]] at this
      refine words_of_own this ?_ ?_
      · rw [List.length_append, List.length_drop, List.length_take, HLL.out]
        have := HTL.out
        omega
      · intro f hf
        rcases List.mem_append.1 hf with h | h
        · exact HLOW.out f (List.mem_of_mem_drop h)
        · exact HLOW.out f (List.mem_of_mem_take h)
    have hn : 0 + (len - t) + t = len := by have := HTL.out; omega
    rw [hn] at HROT ⊢
    clear hn
    have HPERM : Hid ((l.drop t ++ l.take t).Perm l) := (List.perm_append_comm).trans (by rw [List.take_append_drop])
    have HRO2 := Lib.hid (rowof_any (some ⟨g2, 0, none⟩) len cap2 _ w5 HROT.out (by have := HLE.out.1; omega))
    refine wpAny_ready (rs := [11]) (by kernel_rfl) (by simp) ?_
    refine AllReady.cons rfl (fun K hK => ?_) AllReady.nil
    go_simp
    refine (HRO2.out).mono ?_
    rintro e w6 ⟨b2, v2, rfl, hrow⟩
    dsimp only
    refine hK _ _ ?_
    clear hK K HRO2 HROT
    try simp only [Act.put, List.setIfInBounds_toArray, List.set_cons_zero, List.set_cons_succ]
    rw [isort_eq HPERM.out (fun f hf => HLOW.out f (HPERM.out.mem_iff.1 hf))] at hrow
    have HRB : Hid (∀ w', Fr (fun _ => False) w6 w' → RowB w5 w' b2 v2 (isort l)) := fun w' hf => hrow.keep hf
    have HRA : Hid (∀ w', Fr (fun _ => False) w6 w' → RowB W1 w' b v (isort l)) := fun w' hf => (HOB2.out.1.keep hrow.2.1.2.2.2).keep hf
    have HF6 : Hid (Fr (fun _ => False) W w6) := HFD.out.then (HRA.out w6 (Fr.refl _ _)).2.1.2.2.2
    clear hrow HOB2 HPERM HI0 HZ0 HZ1 HZ2 HWD HFD
    refine wpAny_ready (rs := [12]) (by kernel_rfl) (by simp) ?_
    refine AllReady.cons rfl (fun K hK => ?_) AllReady.nil
    go_simp
    refine hK _ _ ?_
    clear hK K
    try simp only [Act.put, List.setIfInBounds_toArray, List.set_cons_zero, List.set_cons_succ]
    refine wpAny_ready (rs := [13]) (by kernel_rfl) (by simp) ?_
    refine AllReady.cons rfl (fun K hK => ?_) AllReady.nil
    go_simp
    refine hK _ _ ?_
    clear hK K
    try simp only [Act.put, List.setIfInBounds_toArray, List.set_cons_zero, List.set_cons_succ]
    refine wpAny_done (by kernel_rfl) ?_ _
    have HFL : Hid ((isort l).length = len) := by
      have := isort_len l
      exact this.trans HLL.out
    have hfl := HFL.out
    have hle := HLE.out.1
    have HSA : Hid (∀ w', Fr (fun _ => False) w6 w' → Calls Try.prog 46 #[.pointer (some ⟨b, 0, none⟩)] w' (FPost w' (Got.of (isort l)).whole)) := fun w' hf => rsum_any (HRA.out w' hf) (by omega)
    have HSB : Hid (∀ w', Fr (fun _ => False) w6 w' → Calls Try.prog 46 #[.pointer (some ⟨b2, 0, none⟩)] w' (FPost w' (Got.of (isort l)).whole)) := fun w' hf => rsum_any (HRB.out w' hf) (by omega)
    have HMA : Hid (∀ w', Fr (fun _ => False) w6 w' → Calls Try.prog 47 #[.pointer (some ⟨b, 0, none⟩)] w' (FPost w' (meanF (isort l)))) := fun w' hf => rmean_any (HRA.out w' hf) (by omega)
    have HMB : Hid (∀ w', Fr (fun _ => False) w6 w' → Calls Try.prog 47 #[.pointer (some ⟨b2, 0, none⟩)] w' (FPost w' (meanF (isort l)))) := fun w' hf => rmean_any (HRB.out w' hf) (by omega)
    have HKA : Hid (∀ w', Fr (fun _ => False) w6 w' → Calls Try.prog 48 #[.pointer (some ⟨b, 0, none⟩)] w' fun e w'' => e = .returned (.agg #[.int .i64 (kc (isort l) 0 : Int), .int .i64 (kc (isort l) 1 : Int), .int .i64 (kc (isort l) 2 : Int), .int .i64 (kc (isort l) 3 : Int), .int .i64 (kc (isort l) 4 : Int)]) ∧ Fr (fun _ => False) w' w'') := fun w' hf => rkinds_rowO (HRA.out w' hf) (by omega)
    have HKB : Hid (∀ w', Fr (fun _ => False) w6 w' → Calls Try.prog 48 #[.pointer (some ⟨b2, 0, none⟩)] w' fun e w'' => e = .returned (.agg #[.int .i64 (kc (isort l) 0 : Int), .int .i64 (kc (isort l) 1 : Int), .int .i64 (kc (isort l) 2 : Int), .int .i64 (kc (isort l) 3 : Int), .int .i64 (kc (isort l) 4 : Int)]) ∧ Fr (fun _ => False) w' w'') := fun w' hf => rkinds_rowO (HRB.out w' hf) (by omega)
    generalize (Got.of (isort l)).whole = V1 at *
    generalize meanF (isort l) = V2 at *
    generalize kc (isort l) 0 = c0 at *
    generalize kc (isort l) 1 = c1 at *
    generalize kc (isort l) 2 = c2 at *
    generalize kc (isort l) 3 = c3 at *
    generalize kc (isort l) 4 = c4 at *
    have HS : Hid (∀ y w', Calls Try.prog 19 #[.float .f64 y, .float .f64 y] w' fun e w'' => e = .returned (.bool true) ∧ w' = w'') := fun y w' => by
      have := same_any y y w'
      rwa [beq_self_eq_true] at this
    have h5 := fun w => eq_five (c0 : Int) (c1 : Int) (c2 : Int) (c3 : Int) (c4 : Int) w
    clear hfl hle
    go_wp2_with fail
    refine (HSA.out _ (Fr.refl _ _)).mono ?_
    rintro e w7 ⟨rfl, hf7⟩
    have HF7 := Lib.hid hf7
    clear hf7
    go_wp2_with fail
    refine (HSB.out _ HF7.out).mono ?_
    rintro e w8 ⟨rfl, hf8⟩
    have HF8 := Lib.hid (HF7.out.then hf8)
    clear hf8 HF7
    go_wp2_with fail
    refine (HS.out _ _).mono ?_
    rintro e w' ⟨rfl, rfl⟩
    go_wp2_with fail
    refine (HMA.out _ HF8.out).mono ?_
    rintro e w9 ⟨rfl, hf9⟩
    have HF9 := Lib.hid (HF8.out.then hf9)
    clear hf9 HF8
    go_wp2_with fail
    refine (HMB.out _ HF9.out).mono ?_
    rintro e w10 ⟨rfl, hf10⟩
    have HF10 := Lib.hid (HF9.out.then hf10)
    clear hf10 HF9
    go_wp2_with fail
    refine (HS.out _ _).mono ?_
    rintro e w' ⟨rfl, rfl⟩
    go_wp2_with fail
    refine (HKA.out _ HF10.out).mono ?_
    rintro e w11 ⟨rfl, hf11⟩
    have HF11 := Lib.hid (HF10.out.then hf11)
    clear hf11 HF10
    go_wp2_with fail
    refine (HKB.out _ HF11.out).mono ?_
    rintro e w12 ⟨rfl, hf12⟩
    have HF12 := Lib.hid (HF11.out.then hf12)
    clear hf12 HF11 HSA HSB HMA HMB HKA HKB
    go_wp2_with fail
    clear h5 f1 f2 f3 f4 hti hcapi hp
    have HSORT : Hid (SortF (isort l)) := isort_sort l
    have HLO2 : Hid (Low (isort l)) := isort_low HLOW.out
    generalize isort l = fs at *
    go_loopw [8, 75] (fun last i wr => ∃ (n x : Nat), n ≤ len ∧ i = .int .i64 (n : Int) ∧ last = .float .f64 x ∧ Hid (Fr (fun _ => False) w12 wr ∧ (0 < n → x = fs.getD (n - 1) 0))) (fun _ i _ => len - (intOf i).toNat)
    case atStart => exact ⟨0, 0, Nat.zero_le _, rfl, rfl, ⟨Fr.refl _ _, fun h => absurd h (Nat.lt_irrefl _)⟩⟩
    case round =>
      obtain ⟨n, x, hn, rfl, rfl, hr⟩ := hrel
      by_cases hlt : n < len
      · obtain ⟨hfr, hlast⟩ := hr.out
        have hnl : n < fs.length := by rw [HFL.out]; exact hlt
        have hfw := HF12.out.then hfr
        have hl80 := HLE.out.1
        have hfl := HFL.out
        have hlow := HLO2.out
        have hsort := HSORT.out
        have hp : pickV fs (n : Int) = .tuple #[.float .f64 (fs.getD n 0), .int .i64 0] := by
          unfold pickV
          rw [if_pos ⟨by omega, by omega⟩]
          rfl
        have hyn : fs.getD n 0 = fs[n] := getD_at hnl
        have hyl : fs.getD n 0 < 18446744073709551616 := by rw [hyn]; exact hlow _ (List.getElem_mem hnl)
        obtain ⟨hA, hU⟩ := (place_iff hsort hlow hnl hyl).2 hyn.symm
        have hpa := rpick_any (HRA.out _ hfw) (by omega) (n : Int)
        have hpb := rpick_any (HRB.out _ hfw) (by omega) (n : Int)
        rw [hp] at hpa hpb
        have HPA := Lib.hid hpa
        have HPB := Lib.hid hpb
        have HRK := Lib.hid (ranks_any (HRA.out _ hfw) hsort (by omega) (fs.getD n 0) hyl)
        have hbf : 0 < n → aheadF (fs.getD n 0) x = false ∧ x < 18446744073709551616 := fun h0 => by
          have hx := hlast h0
          have hn1 : n - 1 < fs.length := by omega
          rw [getD_at hn1] at hx
          subst hx
          refine ⟨?_, hlow _ (List.getElem_mem hn1)⟩
          have := sort_at hsort hnl (show n - 1 ≤ n by omega)
          rw [hyn]
          unfold aheadF
          rw [decide_eq_false_iff_not]
          omega
        have HNEW : Hid (∀ w', Fr (fun _ => False) wr w' → Fr (fun _ => False) w12 w' ∧ (0 < n + 1 → fs.getD n 0 = fs.getD (n + 1 - 1) 0)) := fun w' hf => ⟨hfr.then hf, fun _ => rfl⟩
        generalize rankA fs (fs.getD n 0) = A at *
        generalize rankU fs (fs.getD n 0) = U at *
        have d1 : decide ((n : Int) < (A : Int)) = false := by rw [decide_eq_false_iff_not]; omega
        have d2 : decide ((U : Int) ≤ (n : Int)) = false := by rw [decide_eq_false_iff_not]; omega
        have hlti : (n : Int) < len := by omega
        rcases Nat.eq_zero_or_pos n with h0 | h0
        · have d0 : decide ((0 : Int) < (n : Int)) = false := by rw [decide_eq_false_iff_not]; omega
          have d3 : decide (0 < n) = false := by rw [decide_eq_false_iff_not]; omega
          have d4 : decide (n < A) = false := by rw [decide_eq_false_iff_not]; omega
          have d5 : decide (U ≤ n) = false := by rw [decide_eq_false_iff_not]; omega
          generalize fs.getD n 0 = y at *
          clear hpa hpb hbf hA hU hyl hyn hp hsort hlow hfl hl80 hfw hnl hfr hlast hr h0 hn hlt
          go_wp2_with fail
          refine (HPA.out).mono ?_
          rintro e w' ⟨rfl, rfl⟩
          go_wp2_with fail
          refine (HPB.out).mono ?_
          rintro e w' ⟨rfl, rfl⟩
          go_wp2_with fail
          refine (HRK.out).mono ?_
          rintro e w13 ⟨rfl, hf13⟩
          have HREL := Lib.hid (HNEW.out _ hf13)
          clear hf13 HPA HPB HRK HNEW
          go_wp2_with fail
          refine (HS.out _ _).mono ?_
          rintro e w' ⟨rfl, rfl⟩
          go_wp2
          go_roundw
          case rel => exact ⟨n + 1, y, by omega, by go_num, rfl, HREL⟩
          case measure => simp [intOf]; omega
        · have d0 : decide ((0 : Int) < (n : Int)) = true := by rw [decide_eq_true_eq]; omega
          have d3 : decide (0 < n) = true := by rw [decide_eq_true_eq]; omega
          have d4 : decide (n < A) = false := by rw [decide_eq_false_iff_not]; omega
          have d5 : decide (U ≤ n) = false := by rw [decide_eq_false_iff_not]; omega
          have HBF : Hid (∀ w', Calls Try.prog 43 #[.float .f64 (fs.getD n 0), .float .f64 x] w' fun e w'' => e = .returned (.bool false) ∧ w' = w'') := fun w' => by
            have := before_any (fs.getD n 0) x hyl (hbf h0).2 w'
            rwa [(hbf h0).1] at this
          generalize fs.getD n 0 = y at *
          clear hpa hpb hbf hA hU hyl hyn hp hsort hlow hfl hl80 hfw hnl hfr hlast hr h0 hn hlt
          go_wp2_with fail
          refine (HPA.out).mono ?_
          rintro e w' ⟨rfl, rfl⟩
          go_wp2_with fail
          refine (HPB.out).mono ?_
          rintro e w' ⟨rfl, rfl⟩
          go_wp2_with fail
          refine (HRK.out).mono ?_
          rintro e w13 ⟨rfl, hf13⟩
          have HREL := Lib.hid (HNEW.out _ hf13)
          clear hf13 HPA HPB HRK HNEW
          go_wp2_with fail
          refine (HS.out _ _).mono ?_
          rintro e w' ⟨rfl, rfl⟩
          go_wp2_with fail
          refine (HBF.out _).mono ?_
          rintro e w' ⟨rfl, rfl⟩
          go_wp2
          go_roundw
          case rel => exact ⟨n + 1, y, by omega, by go_num, rfl, HREL⟩
          case measure => simp [intOf]; omega
      · obtain rfl : n = len := by omega
        have HE : Hid (Fr (fun _ => False) W wr) := HF6.out.then (HF12.out.then hr.out.1)
        clear hr hlt hn
        go_wp2_with fail
        refine (HL.out _).mono ?_
        rintro e w13 ⟨rfl, hf13⟩
        have HEND := Lib.hid (HE.out.then hf13)
        clear hf13 HE
        go_wp2
        go_ret
        exact ⟨rfl, HEND.out⟩
  · have HRO := Lib.hid (rowof_any (some ⟨pb, off, none⟩) len cap l (W1.alloc (.cells #[] 35)) (HWD.out.frame ((Fr.refl _ W1).alloc _)) (by have := HLE.out.1; omega))
    go_simp
    refine hK _ _ ?_
    clear hK K
    try simp only [Act.put, List.setIfInBounds_toArray, List.set_cons_zero, List.set_cons_succ]
    refine wpAny_ready (rs := [1]) (by kernel_rfl) (by simp) ?_
    refine AllReady.cons rfl (fun K hK => ?_) AllReady.nil
    go_simp
    refine (HRO.out).mono ?_
    rintro e w3 ⟨b, v, rfl, hrow⟩
    dsimp only
    refine hK _ _ ?_
    clear hK K HRO
    try simp only [Act.put, List.setIfInBounds_toArray, List.set_cons_zero, List.set_cons_succ]
    have HOB := Lib.hid (ord_b hrow)
    clear hrow
    generalize W1.heap.size = g at *
    refine wpAny_ready (rs := [6]) (by kernel_rfl) (by simp) ?_
    refine AllReady.cons rfl (fun K hK => ?_) AllReady.nil
    refine step_append_some rfl (.tmp 34) (.tmp 37) 22 rfl 35 i0 (.int .u64 0) 8 Try.underlying22 HI0.out HZ0.out HZ1.out HZ2.out rfl (.slice (some ⟨g, 0, none⟩) 0 0) 0 [] rfl HOB.out.2.1 ⟨pb, off + t, none⟩ (len - t) (cap - t) (wvals (l.drop t)) rfl (by unfold wvals; rw [List.length_map, List.length_drop, HLL.out]) (news_drop (HWD.out.frame HOB.out.1.2.1.2.2.2) t) (wvals_cells _) (.inl (by have := HTL.out; omega)) (by have := HLE.out.1; unfold maxLen; omega) (by have := HLE.out.1; omega) ?_
    intro g1 cap1 w4 ho4 hf4 hg4
    refine hK _ _ ?_
    clear hK K
    try simp only [Act.put, List.setIfInBounds_toArray, List.set_cons_zero, List.set_cons_succ]
    have HOB1 := Lib.hid (ord_step HOB.out ho4 hf4 hg4)
    clear ho4 hf4 hg4 HOB
    refine wpAny_ready (rs := [10]) (by kernel_rfl) (by simp) ?_
    refine AllReady.cons rfl (fun K hK => ?_) AllReady.nil
    refine step_append_some rfl (.tmp 38) (.tmp 41) 22 rfl 35 i0 (.int .u64 0) 8 Try.underlying22 HI0.out HZ0.out HZ1.out HZ2.out rfl (.slice (some ⟨g1, 0, none⟩) (0 + (len - t)) cap1) (0 + (len - t)) ([] ++ wvals (l.drop t)) rfl HOB1.out.2.1 ⟨pb, off, none⟩ t cap (wvals (l.take t)) rfl (by unfold wvals; rw [List.length_map, List.length_take, HLL.out]; have := HTL.out; omega) (news_take (HWD.out.frame HOB1.out.1.2.1.2.2.2) t) (wvals_cells _) (.inr (by intro h; cases h)) (by have := HLE.out.1; unfold maxLen; omega) (by have := HLE.out.1; omega) ?_
    intro g2 cap2 w5 ho5 hf5 hg5
    refine hK _ _ ?_
    clear hK K
    try simp only [Act.put, List.setIfInBounds_toArray, List.set_cons_zero, List.set_cons_succ]
    have HOB2 := Lib.hid (ord_step HOB1.out ho5 hf5 hg5)
    clear ho5 hf5 hg5 HOB1
    have HROT : Hid (Words w5 (some ⟨g2, 0, none⟩) (0 + (len - t) + t) (l.drop t ++ l.take t)) := by
      have := HOB2.out.2.1
      rw [List.nil_append, show wvals (l.drop t) ++ wvals (l.take t) = wvals (l.drop t ++ l.take t) by unfold wvals; rw [List.map_append]] at this
      refine words_of_own this ?_ ?_
      · rw [List.length_append, List.length_drop, List.length_take, HLL.out]
        have := HTL.out
        omega
      · intro f hf
        rcases List.mem_append.1 hf with h | h
        · exact HLOW.out f (List.mem_of_mem_drop h)
        · exact HLOW.out f (List.mem_of_mem_take h)
    have hn : 0 + (len - t) + t = len := by have := HTL.out; omega
    rw [hn] at HROT ⊢
    clear hn
    have HPERM : Hid ((l.drop t ++ l.take t).Perm l) := (List.perm_append_comm).trans (by rw [List.take_append_drop])
    have HRO2 := Lib.hid (rowof_any (some ⟨g2, 0, none⟩) len cap2 _ w5 HROT.out (by have := HLE.out.1; omega))
    refine wpAny_ready (rs := [11]) (by kernel_rfl) (by simp) ?_
    refine AllReady.cons rfl (fun K hK => ?_) AllReady.nil
    go_simp
    refine (HRO2.out).mono ?_
    rintro e w6 ⟨b2, v2, rfl, hrow⟩
    dsimp only
    refine hK _ _ ?_
    clear hK K HRO2 HROT
    try simp only [Act.put, List.setIfInBounds_toArray, List.set_cons_zero, List.set_cons_succ]
    rw [isort_eq HPERM.out (fun f hf => HLOW.out f (HPERM.out.mem_iff.1 hf))] at hrow
    have HRB : Hid (∀ w', Fr (fun _ => False) w6 w' → RowB w5 w' b2 v2 (isort l)) := fun w' hf => hrow.keep hf
    have HRA : Hid (∀ w', Fr (fun _ => False) w6 w' → RowB W1 w' b v (isort l)) := fun w' hf => (HOB2.out.1.keep hrow.2.1.2.2.2).keep hf
    have HF6 : Hid (Fr (fun _ => False) W w6) := HFD.out.then (HRA.out w6 (Fr.refl _ _)).2.1.2.2.2
    clear hrow HOB2 HPERM HI0 HZ0 HZ1 HZ2 HWD HFD
    refine wpAny_ready (rs := [12]) (by kernel_rfl) (by simp) ?_
    refine AllReady.cons rfl (fun K hK => ?_) AllReady.nil
    go_simp
    refine hK _ _ ?_
    clear hK K
    try simp only [Act.put, List.setIfInBounds_toArray, List.set_cons_zero, List.set_cons_succ]
    refine wpAny_ready (rs := [13]) (by kernel_rfl) (by simp) ?_
    refine AllReady.cons rfl (fun K hK => ?_) AllReady.nil
    go_simp
    refine hK _ _ ?_
    clear hK K
    try simp only [Act.put, List.setIfInBounds_toArray, List.set_cons_zero, List.set_cons_succ]
    refine wpAny_done (by kernel_rfl) ?_ _
    have HFL : Hid ((isort l).length = len) := by
      have := isort_len l
      exact this.trans HLL.out
    have hfl := HFL.out
    have hle := HLE.out.1
    have HSA : Hid (∀ w', Fr (fun _ => False) w6 w' → Calls Try.prog 46 #[.pointer (some ⟨b, 0, none⟩)] w' (FPost w' (Got.of (isort l)).whole)) := fun w' hf => rsum_any (HRA.out w' hf) (by omega)
    have HSB : Hid (∀ w', Fr (fun _ => False) w6 w' → Calls Try.prog 46 #[.pointer (some ⟨b2, 0, none⟩)] w' (FPost w' (Got.of (isort l)).whole)) := fun w' hf => rsum_any (HRB.out w' hf) (by omega)
    have HMA : Hid (∀ w', Fr (fun _ => False) w6 w' → Calls Try.prog 47 #[.pointer (some ⟨b, 0, none⟩)] w' (FPost w' (meanF (isort l)))) := fun w' hf => rmean_any (HRA.out w' hf) (by omega)
    have HMB : Hid (∀ w', Fr (fun _ => False) w6 w' → Calls Try.prog 47 #[.pointer (some ⟨b2, 0, none⟩)] w' (FPost w' (meanF (isort l)))) := fun w' hf => rmean_any (HRB.out w' hf) (by omega)
    have HKA : Hid (∀ w', Fr (fun _ => False) w6 w' → Calls Try.prog 48 #[.pointer (some ⟨b, 0, none⟩)] w' fun e w'' => e = .returned (.agg #[.int .i64 (kc (isort l) 0 : Int), .int .i64 (kc (isort l) 1 : Int), .int .i64 (kc (isort l) 2 : Int), .int .i64 (kc (isort l) 3 : Int), .int .i64 (kc (isort l) 4 : Int)]) ∧ Fr (fun _ => False) w' w'') := fun w' hf => rkinds_rowO (HRA.out w' hf) (by omega)
    have HKB : Hid (∀ w', Fr (fun _ => False) w6 w' → Calls Try.prog 48 #[.pointer (some ⟨b2, 0, none⟩)] w' fun e w'' => e = .returned (.agg #[.int .i64 (kc (isort l) 0 : Int), .int .i64 (kc (isort l) 1 : Int), .int .i64 (kc (isort l) 2 : Int), .int .i64 (kc (isort l) 3 : Int), .int .i64 (kc (isort l) 4 : Int)]) ∧ Fr (fun _ => False) w' w'') := fun w' hf => rkinds_rowO (HRB.out w' hf) (by omega)
    generalize (Got.of (isort l)).whole = V1 at *
    generalize meanF (isort l) = V2 at *
    generalize kc (isort l) 0 = c0 at *
    generalize kc (isort l) 1 = c1 at *
    generalize kc (isort l) 2 = c2 at *
    generalize kc (isort l) 3 = c3 at *
    generalize kc (isort l) 4 = c4 at *
    have HS : Hid (∀ y w', Calls Try.prog 19 #[.float .f64 y, .float .f64 y] w' fun e w'' => e = .returned (.bool true) ∧ w' = w'') := fun y w' => by
      have := same_any y y w'
      rwa [beq_self_eq_true] at this
    have h5 := fun w => eq_five (c0 : Int) (c1 : Int) (c2 : Int) (c3 : Int) (c4 : Int) w
    clear hfl hle
    go_wp2_with fail
    refine (HSA.out _ (Fr.refl _ _)).mono ?_
    rintro e w7 ⟨rfl, hf7⟩
    have HF7 := Lib.hid hf7
    clear hf7
    go_wp2_with fail
    refine (HSB.out _ HF7.out).mono ?_
    rintro e w8 ⟨rfl, hf8⟩
    have HF8 := Lib.hid (HF7.out.then hf8)
    clear hf8 HF7
    go_wp2_with fail
    refine (HS.out _ _).mono ?_
    rintro e w' ⟨rfl, rfl⟩
    go_wp2_with fail
    refine (HMA.out _ HF8.out).mono ?_
    rintro e w9 ⟨rfl, hf9⟩
    have HF9 := Lib.hid (HF8.out.then hf9)
    clear hf9 HF8
    go_wp2_with fail
    refine (HMB.out _ HF9.out).mono ?_
    rintro e w10 ⟨rfl, hf10⟩
    have HF10 := Lib.hid (HF9.out.then hf10)
    clear hf10 HF9
    go_wp2_with fail
    refine (HS.out _ _).mono ?_
    rintro e w' ⟨rfl, rfl⟩
    go_wp2_with fail
    refine (HKA.out _ HF10.out).mono ?_
    rintro e w11 ⟨rfl, hf11⟩
    have HF11 := Lib.hid (HF10.out.then hf11)
    clear hf11 HF10
    go_wp2_with fail
    refine (HKB.out _ HF11.out).mono ?_
    rintro e w12 ⟨rfl, hf12⟩
    have HF12 := Lib.hid (HF11.out.then hf12)
    clear hf12 HF11 HSA HSB HMA HMB HKA HKB
    go_wp2_with fail
    clear h5 f1 f2 f3 f4 hti hcapi hp
    have HSORT : Hid (SortF (isort l)) := isort_sort l
    have HLO2 : Hid (Low (isort l)) := isort_low HLOW.out
    generalize isort l = fs at *
    go_loopw [8, 75] (fun last i wr => ∃ (n x : Nat), n ≤ len ∧ i = .int .i64 (n : Int) ∧ last = .float .f64 x ∧ Hid (Fr (fun _ => False) w12 wr ∧ (0 < n → x = fs.getD (n - 1) 0))) (fun _ i _ => len - (intOf i).toNat)
    case atStart => exact ⟨0, 0, Nat.zero_le _, rfl, rfl, ⟨Fr.refl _ _, fun h => absurd h (Nat.lt_irrefl _)⟩⟩
    case round =>
      obtain ⟨n, x, hn, rfl, rfl, hr⟩ := hrel
      by_cases hlt : n < len
      · obtain ⟨hfr, hlast⟩ := hr.out
        have hnl : n < fs.length := by rw [HFL.out]; exact hlt
        have hfw := HF12.out.then hfr
        have hl80 := HLE.out.1
        have hfl := HFL.out
        have hlow := HLO2.out
        have hsort := HSORT.out
        have hp : pickV fs (n : Int) = .tuple #[.float .f64 (fs.getD n 0), .int .i64 0] := by
          unfold pickV
          rw [if_pos ⟨by omega, by omega⟩]
          rfl
        have hyn : fs.getD n 0 = fs[n] := getD_at hnl
        have hyl : fs.getD n 0 < 18446744073709551616 := by rw [hyn]; exact hlow _ (List.getElem_mem hnl)
        obtain ⟨hA, hU⟩ := (place_iff hsort hlow hnl hyl).2 hyn.symm
        have hpa := rpick_any (HRA.out _ hfw) (by omega) (n : Int)
        have hpb := rpick_any (HRB.out _ hfw) (by omega) (n : Int)
        rw [hp] at hpa hpb
        have HPA := Lib.hid hpa
        have HPB := Lib.hid hpb
        have HRK := Lib.hid (ranks_any (HRA.out _ hfw) hsort (by omega) (fs.getD n 0) hyl)
        have hbf : 0 < n → aheadF (fs.getD n 0) x = false ∧ x < 18446744073709551616 := fun h0 => by
          have hx := hlast h0
          have hn1 : n - 1 < fs.length := by omega
          rw [getD_at hn1] at hx
          subst hx
          refine ⟨?_, hlow _ (List.getElem_mem hn1)⟩
          have := sort_at hsort hnl (show n - 1 ≤ n by omega)
          rw [hyn]
          unfold aheadF
          rw [decide_eq_false_iff_not]
          omega
        have HNEW : Hid (∀ w', Fr (fun _ => False) wr w' → Fr (fun _ => False) w12 w' ∧ (0 < n + 1 → fs.getD n 0 = fs.getD (n + 1 - 1) 0)) := fun w' hf => ⟨hfr.then hf, fun _ => rfl⟩
        generalize rankA fs (fs.getD n 0) = A at *
        generalize rankU fs (fs.getD n 0) = U at *
        have d1 : decide ((n : Int) < (A : Int)) = false := by rw [decide_eq_false_iff_not]; omega
        have d2 : decide ((U : Int) ≤ (n : Int)) = false := by rw [decide_eq_false_iff_not]; omega
        have hlti : (n : Int) < len := by omega
        rcases Nat.eq_zero_or_pos n with h0 | h0
        · have d0 : decide ((0 : Int) < (n : Int)) = false := by rw [decide_eq_false_iff_not]; omega
          have d3 : decide (0 < n) = false := by rw [decide_eq_false_iff_not]; omega
          have d4 : decide (n < A) = false := by rw [decide_eq_false_iff_not]; omega
          have d5 : decide (U ≤ n) = false := by rw [decide_eq_false_iff_not]; omega
          generalize fs.getD n 0 = y at *
          clear hpa hpb hbf hA hU hyl hyn hp hsort hlow hfl hl80 hfw hnl hfr hlast hr h0 hn hlt
          go_wp2_with fail
          refine (HPA.out).mono ?_
          rintro e w' ⟨rfl, rfl⟩
          go_wp2_with fail
          refine (HPB.out).mono ?_
          rintro e w' ⟨rfl, rfl⟩
          go_wp2_with fail
          refine (HRK.out).mono ?_
          rintro e w13 ⟨rfl, hf13⟩
          have HREL := Lib.hid (HNEW.out _ hf13)
          clear hf13 HPA HPB HRK HNEW
          go_wp2_with fail
          refine (HS.out _ _).mono ?_
          rintro e w' ⟨rfl, rfl⟩
          go_wp2
          go_roundw
          case rel => exact ⟨n + 1, y, by omega, by go_num, rfl, HREL⟩
          case measure => simp [intOf]; omega
        · have d0 : decide ((0 : Int) < (n : Int)) = true := by rw [decide_eq_true_eq]; omega
          have d3 : decide (0 < n) = true := by rw [decide_eq_true_eq]; omega
          have d4 : decide (n < A) = false := by rw [decide_eq_false_iff_not]; omega
          have d5 : decide (U ≤ n) = false := by rw [decide_eq_false_iff_not]; omega
          have HBF : Hid (∀ w', Calls Try.prog 43 #[.float .f64 (fs.getD n 0), .float .f64 x] w' fun e w'' => e = .returned (.bool false) ∧ w' = w'') := fun w' => by
            have := before_any (fs.getD n 0) x hyl (hbf h0).2 w'
            rwa [(hbf h0).1] at this
          generalize fs.getD n 0 = y at *
          clear hpa hpb hbf hA hU hyl hyn hp hsort hlow hfl hl80 hfw hnl hfr hlast hr h0 hn hlt
          go_wp2_with fail
          refine (HPA.out).mono ?_
          rintro e w' ⟨rfl, rfl⟩
          go_wp2_with fail
          refine (HPB.out).mono ?_
          rintro e w' ⟨rfl, rfl⟩
          go_wp2_with fail
          refine (HRK.out).mono ?_
          rintro e w13 ⟨rfl, hf13⟩
          have HREL := Lib.hid (HNEW.out _ hf13)
          clear hf13 HPA HPB HRK HNEW
          go_wp2_with fail
          refine (HS.out _ _).mono ?_
          rintro e w' ⟨rfl, rfl⟩
          go_wp2_with fail
          refine (HBF.out _).mono ?_
          rintro e w' ⟨rfl, rfl⟩
          go_wp2
          go_roundw
          case rel => exact ⟨n + 1, y, by omega, by go_num, rfl, HREL⟩
          case measure => simp [intOf]; omega
      · obtain rfl : n = len := by omega
        have HE : Hid (Fr (fun _ => False) W wr) := HF6.out.then (HF12.out.then hr.out.1)
        clear hr hlt hn
        go_wp2_with fail
        refine (HL.out _).mono ?_
        rintro e w13 ⟨rfl, hf13⟩
        have HEND := Lib.hid (HE.out.then hf13)
        clear hf13 HE
        go_wp2
        go_ret
        exact ⟨rfl, HEND.out⟩
set_option maxRecDepth 100000 in
theorem StatsOrder_of {a : Option Addr} {len cap : Nat} {z : List Int} {k : Int} {W : World} {base : Nat} (hv : Value.okWide Try.prog W .any base 22 (.slice a len cap)) (h : Nums .u64 W a len z) (hz : ∀ n ∈ z, (Lit.int .u64 n).wf = true) :
    Calls Try.prog 12 #[.slice a len cap, .int .i64 k] W (LawPost W) := by
  refine StatsOrder_any a len cap _ k ?_ W (words_of h hz)
  simp only [Value.okWide, Try.underlying22, Cell.okWide, Cell.ok] at hv
  cases a with
  | none => cases len <;> cases cap <;> simp_all
  | some a => simp_all
end Go.Proofs.Ytmllbdiljjimmaa
