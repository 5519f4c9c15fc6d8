/- The walk of slices.Insert at one float. -/
import Derived.Test.YtmllbdiljjimmaaCancels
import Derived.Test.YtmllbdiljjimmaaRegion
import Derived.Shelf.Spec.SlicesInsert
import Derived.Lib.AppendZerosOnto
namespace Go.Proofs.Ytmllbdiljjimmaa
open Go.RowKit

theorem takeA {P : Program} {ops : Array Oper} {md : Region.Mode} {Q : Exit → Act → World → Prop} {i : Nat} {d : Tmp} {oi : Oper} {v : Value} {fuel : Nat} {listed : Array Bool} {a : Act} {w : World} (hi : ops[i]? = some oi) (hd : oi.dst = some d)
    (hs : Region.noSelect ops = true) (hf : Region.free md ops listed i = true) (hr : (Region.ready md ops listed).contains i = true)
    (hQ : ∀ c a w, Q (.panic c) (a.put (some d) v) w → Q (.panic c) a w) (hy : Yields P ops oi v a)
    (h : wpAny P md ops Q fuel (listed.setIfInBounds i true) (a.put (some d) v) w) : wpAny P md ops Q (fuel + 1) listed a w :=
  wpAny_take hi hs hf hr (by rw [hd]; exact hQ) hy (by rw [hd]; exact h)
theorem news_at {w : World} {b : Nat} {u : Value} {t : TypeId} (h : Blk w b [u] t) : ∀ j x, [u][j]? = some x → w.cell? ((⟨b, 0, none⟩ : Addr).add j) = some x := blk_news h
/-! ### Cells written one behind the other -/
def putL (c : List Value) : Nat → List Value → List Value
  | _, [] => c
  | o, v :: r => putL (c.set o v) (o + 1) r
theorem putL_len : ∀ (vs : List Value) (o : Nat) (c : List Value), (putL c o vs).length = c.length
  | [], _, _ => rfl
  | v :: r, o, c => by unfold putL; rw [putL_len r]; simp
theorem putL_get : ∀ (vs : List Value) (o : Nat) (c : List Value) (i : Nat), o + vs.length ≤ c.length → (putL c o vs)[i]? = if o ≤ i ∧ i < o + vs.length then vs[i - o]? else c[i]?
  | [], o, c, i, _ => by rw [if_neg (by simp)]; rfl
  | v :: r, o, c, i, h => by
    simp only [List.length_cons] at h
    unfold putL
    rw [putL_get r (o + 1) (c.set o v) i (by simp; omega)]
    by_cases h1 : o + 1 ≤ i ∧ i < o + 1 + r.length
    · rw [if_pos h1, if_pos (by simp only [List.length_cons]; omega), show i - o = (i - (o + 1)) + 1 by omega, List.getElem?_cons_succ]
    · rw [if_neg h1]
      by_cases h2 : i = o
      · subst h2
        rw [if_pos (by simp only [List.length_cons]; omega), Nat.sub_self, List.getElem?_set_self (by omega)]; rfl
      · rw [if_neg (by simp only [List.length_cons]; omega), List.getElem?_set_ne (Ne.symm h2)]
theorem Blk.setCells {b : Nat} {t : TypeId} : ∀ (vs : List Value) (o : Nat) {w : World} {c : List Value}, Blk w b c t → Blk (w.setCells b o vs) b (putL c o vs) t
  | [], _, _, _, h => h
  | v :: r, o, _, _, h => Blk.setCells r (o + 1) (h.set o v)
theorem Blk.setCellsOther {b g : Nat} {t : TypeId} (hn : b ≠ g) : ∀ (vs : List Value) (o : Nat) {w : World} {c : List Value}, Blk w b c t → Blk (w.setCells g o vs) b c t
  | [], _, _, _, h => h
  | v :: r, o, _, _, h => Blk.setCellsOther hn r (o + 1) (h.setOther ⟨g, o, none⟩ v hn)
theorem Fr.setCells {S : Nat → Prop} {a : World} {g : Nat} (hp : S g ∨ a.heap.size ≤ g) : ∀ (vs : List Value) (o : Nat) {w : World}, Fr S a w → Fr S a (w.setCells g o vs)
  | [], _, _, h => h
  | v :: r, o, _, h => Fr.setCells hp r (o + 1) (h.setCell ⟨g, o, none⟩ hp v)
theorem own_of_blk {w : World} {g cap n : Nat} {c xs : List Value} {e : TypeId} (h : Blk w g c e) (hc : c.length = cap) (hn : n ≤ cap) (hm : cap ≤ maxLen) (ht : c.take n = xs) : w.ownsRow 0 e 1 (.slice (some ⟨g, 0, none⟩) n cap) n xs := by
  have hl : xs.length = n := by rw [← ht, List.length_take]; omega
  exact ⟨by simp [hl], .inr ⟨g, cap, c.toArray, rfl, Nat.zero_le _, h, hn, hm, by simp [hc], by simpa using ht⟩⟩
theorem blk_of_own {w : World} {g cap n : Nat} {xs : List Value} {e : TypeId} (h : w.ownsRow 0 e 1 (.slice (some ⟨g, 0, none⟩) n cap) n xs) : ∃ c, Blk w g c e ∧ c.length = cap ∧ n ≤ cap ∧ cap ≤ maxLen ∧ c.take n = xs ∧ xs.length = n := by
  obtain ⟨hl, hh⟩ := h
  rcases hh with ⟨h0, _⟩ | ⟨g', cap', cur, hv, _, hg, hn, hm, hs, ht⟩
  · cases h0
  · cases hv
    exact ⟨cur.toList, by unfold Blk; simpa using hg, by simpa using hs, hn, hm, by simpa using ht, by simpa using hl⟩

/-- Behind an insertion: the row, and what may have changed. -/
def InsPost (W w : World) (v : Value) (fs : List Nat) (e : Ending) (w' : World) : Prop :=
  ∃ v', e = .returned v' ∧ FRow W v' fs w' ∧ Fr (fun i => v.ownBlock = some i) w w' ∧ ∀ i, v'.ownBlock = some i → v.ownBlock = some i ∨ w.heap.size ≤ i
theorem frow_of_own {W w w' : World} {v v' : Value} {fs gs : List Nat} {n : Nat} (h : FRow W v fs w) (hn : n = gs.length) (ho : w'.ownsRow 0 26 1 v' n (fvals gs)) (hf : Fr (fun k => v.ownBlock = some k) w w') (hg : ∀ g, v'.ownBlock = some g → v.ownBlock = some g ∨ w.heap.size ≤ g) (hl : ∀ y ∈ gs, y < 18446744073709551616) : FRow W v' gs w' := by
  subst hn
  refine ⟨ho, fun i hi => ?_, hl, h.2.2.2.trans hf (fun i hi => .inr (h.2.1 i hi))⟩
  rcases hg i hi with k | k
  · exact h.2.1 i k
  · exact Nat.le_trans h.2.2.2.size k

theorem ins_all {fs : List Nat} {f k : Nat} (h : ∀ y ∈ fs, y < 18446744073709551616) (hf : f < 18446744073709551616) : ∀ y ∈ fs.take k ++ f :: fs.drop k, y < 18446744073709551616 := by
  intro y hy
  rcases List.mem_append.1 hy with h1 | h1
  · exact h y (List.mem_of_mem_take h1)
  · rcases List.mem_cons.1 h1 with h2 | h2
    · rw [h2]; exact hf
    · exact h y (List.mem_of_mem_drop h2)

set_option maxRecDepth 100000 in
set_option maxHeartbeats 3200000 in
/-- At the end. -/
theorem ins_end {W w : World} {v : Value} {fs : List Nat} (h : FRow W v fs w) (hl : fs.length ≤ 100000) (vb f : Nat) (hf : f < 18446744073709551616) (hb : Blk w vb [.float .f64 f] 26) :
    Calls Try.prog 90 #[v, .int .i64 (fs.length : Int), .slice (some ⟨vb, 0, none⟩) 1 1] w (InsPost W w v (fs ++ [f])) := by
  obtain ⟨i0, hi, hz0, hz1, hz2⟩ := info_parts info_float
  have ho := h.1
  have hc := hb.cell 0 rfl
  have HW := Lib.hid h
  have hall : ∀ y ∈ fs ++ [f], y < 18446744073709551616 := fun y hy => by
    rcases List.mem_append.1 hy with h1 | h1
    · exact h.2.2.1 y h1
    · rw [List.mem_singleton.1 h1]; exact hf
  have HALL := Lib.hid hall
  have hne : ∀ g cap w', w'.ownsRow 0 26 1 (.slice (some ⟨g, 0, none⟩) (fs.length + 1) cap) (fs.length + 1) (fvals fs ++ [.float .f64 f]) → Fr (fun k => v.ownBlock = some k) w w' → (v.ownBlock = some g ∨ w.heap.size ≤ g) → InsPost W w v (fs ++ [f]) (.returned (.slice (some ⟨g, 0, none⟩) (fs.length + 1) cap)) w' := fun g cap w' h1 h2 h3 => by
    have hg : ∀ i, (Value.slice (some ⟨g, 0, none⟩) (fs.length + 1) cap).ownBlock = some i → v.ownBlock = some i ∨ w.heap.size ≤ i := fun i hi => by
      simp only [Value.ownBlock, Option.some.injEq] at hi; subst hi; exact h3
    refine ⟨_, rfl, frow_of_own HW.out (n := fs.length + 1) (by simp) ?_ h2 hg HALL.out, h2, hg⟩
    rw [show fvals (fs ++ [f]) = fvals fs ++ [.float .f64 f] by unfold fvals; simp]; exact h1
  have HNE := Lib.hid hne
  clear hall hne h hb
  rcases ho.2 with ⟨rfl, h0⟩ | ⟨g, cap, cur, rfl, _, hg, hn, hm, _⟩
  · have h1 : fs = [] := List.eq_nil_of_length_eq_zero h0
    subst h1
    clear h0
    go_enter Try.func90, Try.ntmps90
    go_wp2_with (at_builtin; refine Hid.out ?_)
    unfold Hid
    refine wpList_append_one rfl _ _ 24 rfl 26 i0 (.float .f64 0) 8 Try.underlying24 hi hz0 hz1 hz2 rfl (.slice none 0 0) 0 (fvals []) rfl ho ⟨vb, 0, none⟩ _ (.float .f64 f) rfl hc rfl (by decide) (by decide) ?_
    intro g c' w1 ho1 hf1 hg1
    have HF := Lib.hid (HNE.out g c' w1 ho1 hf1 hg1)
    clear ho1 hf1 hg1
    go_wp2
    go_ret
    exact HF.out
  · generalize hN : fs.length = n at *
    unfold maxLen at hm
    have hi1 : (n : Int) ≤ cap := by omega
    have hi2 : (cap : Int) ≤ 9223372036854775807 := by omega
    have HG := Lib.hid hg
    clear hg
    by_cases hcn : cap = n
    · subst hcn
      go_enter Try.func90, Try.ntmps90
      go_wp2_with (at_builtin; refine Hid.out ?_)
      unfold Hid
      refine wpList_append_one rfl _ _ 24 rfl 26 i0 (.float .f64 0) 8 Try.underlying24 hi hz0 hz1 hz2 rfl (.slice (some ⟨g, 0, none⟩) cap cap) cap (fvals fs) rfl ho ⟨vb, 0, none⟩ _ (.float .f64 f) rfl hc rfl (by unfold maxLen; omega) (by omega) ?_
      intro g c' w1 ho1 hf1 hg1
      have HF := Lib.hid (HNE.out g c' w1 ho1 hf1 hg1)
      clear ho1 hf1 hg1
      go_wp2
      go_ret
      exact HF.out
    · go_enter Try.func90, Try.ntmps90
      go_wp2_with (at_builtin; refine Hid.out ?_)
      unfold Hid
      refine wpList_append_one rfl _ _ 24 rfl 26 i0 (.float .f64 0) 8 Try.underlying24 hi hz0 hz1 hz2 rfl (.slice (some ⟨g, 0, none⟩) n cap) n (fvals fs) rfl ho ⟨vb, 0, none⟩ _ (.float .f64 f) rfl hc rfl (by unfold maxLen; omega) (by omega) ?_
      intro g c' w1 ho1 hf1 hg1
      have HF := Lib.hid (HNE.out g c' w1 ho1 hf1 hg1)
      clear ho1 hf1 hg1
      go_wp2
      go_ret
      exact HF.out

theorem room_cells {cur xs : List Value} {x : Value} {n k : Nat} (ht : cur.take n = xs) (hl : xs.length = n) (hr : n + 1 ≤ cur.length) (hk : k ≤ n) : (putL (putL cur (k + 1) (xs.drop k)) k [x]).take (n + 1) = xs.take k ++ x :: xs.drop k := by
  have hd : (xs.drop k).length = n - k := by rw [List.length_drop, hl]
  have h0 : ∀ j, j < n → cur[j]? = xs[j]? := fun j hj => by rw [← ht, List.getElem?_take, if_pos hj]
  apply List.ext_getElem?
  intro i
  rw [List.getElem?_take]
  by_cases hi : i < n + 1
  · rw [if_pos hi, putL_get [x] k _ i (by rw [putL_len]; simp; omega)]
    by_cases h1 : i < k
    · rw [if_neg (by omega), putL_get _ _ _ _ (by rw [hd]; omega), if_neg (by omega), h0 i (by omega), List.getElem?_append_left (by rw [List.length_take]; omega), List.getElem?_take, if_pos h1]
    · rw [List.getElem?_append_right (by rw [List.length_take]; omega), List.length_take, Nat.min_eq_left (by omega)]
      by_cases h2 : i = k
      · subst h2
        rw [if_pos (by simp), Nat.sub_self]; rfl
      · rw [if_neg (by simp; omega), putL_get _ _ _ _ (by rw [hd]; omega), if_pos (by rw [hd]; omega), show i - k = (i - (k + 1)) + 1 by omega, List.getElem?_cons_succ]
  · rw [if_neg hi, List.getElem?_eq_none (by simp; omega)]

theorem info_one : (Try.prog.info? 26).map (·.size) = some 1 := by kernel_rfl
theorem size_float : ∀ w, (sizeOf 26).run Try.prog w = .ok 1 w := fun w => by kernel_rfl

set_option maxRecDepth 100000 in
set_option maxHeartbeats 3200000 in
/-- In the midst, where there is room. -/
theorem ins_room {W w : World} {g cap : Nat} {fs : List Nat} (h : FRow W (.slice (some ⟨g, 0, none⟩) fs.length cap) fs w) (hl : fs.length ≤ 100000) (hroom : fs.length + 1 ≤ cap) (k : Nat) (hk : k < fs.length) (vb f : Nat) (hf : f < 18446744073709551616) (hb : Blk w vb [.float .f64 f] 26) (hne : vb ≠ g) :
    Calls Try.prog 90 #[.slice (some ⟨g, 0, none⟩) fs.length cap, .int .i64 (k : Int), .slice (some ⟨vb, 0, none⟩) 1 1] w (InsPost W w (.slice (some ⟨g, 0, none⟩) fs.length cap) (fs.take k ++ f :: fs.drop k)) := by
  obtain ⟨cur, hg, hcl, hn, hm, ht, hxl⟩ := blk_of_own h.1
  have HW := Lib.hid h
  have hfl : (fvals fs).length = fs.length := by unfold fvals; simp
  have hdl : ((fvals fs).drop k).length = fs.length - k := by rw [List.length_drop, hfl]
  have h1c : ∀ v ∈ fvals fs, v.oneCell' = true := fun v hv => by unfold fvals at hv; obtain ⟨y, _, rfl⟩ := List.mem_map.1 hv; rfl
  have hat : ∀ j, j < fs.length → (fvals fs)[j]? = cur[j]? := fun j hj => by rw [← ht, List.getElem?_take, if_pos hj]
  have hov : ∀ lb cb, (callFunc 100 #[.slice (some ⟨vb, 0, none⟩) 1 1, .slice (some ⟨g, k + 1, none⟩) lb cb]).run Try.prog w = .ok (.value (.bool false)) w := fun lb cb => by
    rw [run_callFunc_extern Try.func100 (by kernel_rfl) (by kernel_rfl) (by kernel_rfl) (e := Extern.SlicesOverlaps.overlaps #[24, 24] #[4]) (by kernel_rfl),
      Lib.run_overlaps_apart w 24 4 26 Try.underlying24 1 size_float ⟨vb, 0, none⟩ ⟨g, k + 1, none⟩ 1 1 lb cb hne 26 26 1 cur.length (by unfold Blk at hb; simp [World.shape?, hb]) (by unfold Blk at hg; simp [World.shape?, hg]) (by omega) (hb.free 0) (hb.free 1)]
    rfl
  have hcp1 : ∀ ty dc sc, (Builtin.copy_ #[24, 24] ty #[.slice (some ⟨g, k + 1, none⟩) (fs.length + 1 - (k + 1)) dc, .slice (some ⟨g, k, none⟩) (fs.length + 1 - k) sc]).run Try.prog w.drew = .ok (goInt ((fvals fs).drop k).length) (w.drew.setCells g (k + 1) ((fvals fs).drop k)) := fun ty dc sc =>
    run_copy_cells w.drew _ _ ty 26 g (k + 1) (fs.length + 1 - (k + 1)) dc ⟨g, k, none⟩ (fs.length + 1 - k) sc ((fvals fs).drop k) Try.underlying24 info_one (by rw [hdl]; simp only [Nat.min_def]; split <;> omega)
      (fun j v hj => by
        have hj2 : j < fs.length - k := by rw [← hdl]; exact (List.getElem?_eq_some_iff.1 hj).1
        rw [List.getElem?_drop, hat _ (by omega)] at hj
        have hadd : (⟨g, k, none⟩ : Addr).add j = ⟨g, k + j, none⟩ := by unfold Addr.add; split <;> simp_all
        rw [hadd]
        exact hg.drew.cell _ hj)
      (fun j hj => by rw [hg.drew.cell _ (List.getElem?_eq_getElem (by omega))]; rfl) (fun j hj => hg.drew.free _) (fun v hv => h1c v (List.mem_of_mem_drop hv))
  obtain ⟨W1, hW1⟩ : ∃ W1, W1 = w.drew.setCells g (k + 1) ((fvals fs).drop k) := ⟨_, rfl⟩
  have hg1 : Blk W1 g (putL cur (k + 1) ((fvals fs).drop k)) 26 := by rw [hW1]; exact hg.drew.setCells _ _
  have hb1 : Blk W1 vb [.float .f64 f] 26 := by rw [hW1]; exact hb.drew.setCellsOther hne _ _
  have hf1 : Fr (fun i => (Value.slice (some ⟨g, 0, none⟩) fs.length cap).ownBlock = some i) w W1 := by rw [hW1]; exact Fr.setCells (S := fun i => (Value.slice (some ⟨g, 0, none⟩) fs.length cap).ownBlock = some i) (.inl rfl) _ _ (Fr.refl _ w).drew
  have hcp2 : ∀ ty dc, (Builtin.copy_ #[24, 24] ty #[.slice (some ⟨g, k, none⟩) (fs.length + 1 - k) dc, .slice (some ⟨vb, 0, none⟩) 1 1]).run Try.prog W1 = .ok (goInt 1) (W1.setCells g k [.float .f64 f]) := fun ty dc =>
    run_copy_cells W1 _ _ ty 26 g k (fs.length + 1 - k) dc ⟨vb, 0, none⟩ 1 1 [.float .f64 f] Try.underlying24 info_one (by simp only [List.length_singleton, Nat.min_def]; split <;> omega)
      (news_at hb1)
      (fun j hj => by rw [hg1.cell _ (List.getElem?_eq_getElem (by rw [putL_len]; simp at hj; omega))]; rfl) (fun j hj => hg1.free _) (fun v hv => by rw [List.mem_singleton.1 hv]; rfl)
  have hend : InsPost W w (.slice (some ⟨g, 0, none⟩) fs.length cap) (fs.take k ++ f :: fs.drop k) (.returned (.slice (some ⟨g, 0, none⟩) (fs.length + 1) cap)) (W1.setCells g k [.float .f64 f]) := by
    have h3 := hg1.setCells [.float .f64 f] k
    have ho := own_of_blk h3 (by rw [putL_len, putL_len]; exact hcl) hroom hm (room_cells ht hxl (by omega) (by omega))
    have hfr : Fr (fun i => (Value.slice (some ⟨g, 0, none⟩) fs.length cap).ownBlock = some i) w (W1.setCells g k [.float .f64 f]) := Fr.setCells (S := fun i => (Value.slice (some ⟨g, 0, none⟩) fs.length cap).ownBlock = some i) (.inl rfl) _ _ hf1
    have hgg : ∀ i, (Value.slice (some ⟨g, 0, none⟩) (fs.length + 1) cap).ownBlock = some i → (Value.slice (some ⟨g, 0, none⟩) fs.length cap).ownBlock = some i ∨ w.heap.size ≤ i := fun i hi => .inl hi
    refine ⟨_, rfl, frow_of_own h (n := fs.length + 1) (by simp; omega) ?_ hfr hgg (ins_all h.2.2.1 hf), hfr, hgg⟩
    rw [show fvals (fs.take k ++ f :: fs.drop k) = (fvals fs).take k ++ .float .f64 f :: (fvals fs).drop k by unfold fvals; simp]
    exact ho
  have HEND := Lib.hid hend
  rw [← hW1] at hcp1
  have HC1 := Lib.hid hcp1
  have HC2 := Lib.hid hcp2
  unfold maxLen at hm
  generalize fs.length = n at *
  generalize ((fvals fs).drop k).length = dl at *
  have hz2 : ((k : Int) == (n : Int)) = false := by rw [beq_eq_false_iff_ne]; omega
  have hki : (k : Int) < n := by omega
  have hri : (n : Int) + 1 ≤ cap := by omega
  have hmi : (cap : Int) ≤ 9223372036854775807 := by omega
  have hk1 : (k : Int) ≤ (n : Int) + 1 := by omega
  have hk2 : (k : Int) + 1 ≤ (n : Int) + 1 := by omega
  have hk3 : (0 : Int) ≤ (k : Int) + 1 := by omega
  have hnc1 : ¬ cap = k := by omega
  have hnc2 : ¬ cap = k + 1 := by omega
  have hw1 : IntKind.i64.wrap ((k : Int) + 1) = (k : Int) + 1 := by rw [IntKind.wrap_i64]; omega
  have htn : ((k : Int) + 1).toNat = k + 1 := by omega
  clear hW1 hcp1 hcp2 hend hg1 hb1 hf1 h hg ht hxl hfl hdl h1c hat hb hcl
  go_enter Try.func90, Try.ntmps90
  go_wp2_with (simp only [hov])
  refine wp_region_any (by kernel_rfl) ?_
  change wpAny _ _ _ _ _ _ _ (World.drew _)
  refine takeA (i := 0) (d := 69) (v := .slice (some ⟨g, 0, none⟩) (n + 1) cap) rfl rfl (by kernel_rfl) (by kernel_rfl) (by kernel_rfl) (fun _ _ _ h => h) (Or.inl ⟨by rfl, fun w => by go_simp⟩) ?_
  simp only [Act.put, List.setIfInBounds_toArray, List.set_cons_zero, List.set_cons_succ]
  refine takeA (i := 1) (d := 70) (v := .int .i64 (k : Int)) rfl rfl (by kernel_rfl) (by kernel_rfl) (by kernel_rfl) (fun _ _ _ h => h) (Or.inl ⟨by rfl, fun w => by go_simp⟩) ?_
  simp only [Act.put, List.setIfInBounds_toArray, List.set_cons_zero, List.set_cons_succ]
  refine takeA (i := 2) (d := 71) (v := .int .i64 1) rfl rfl (by kernel_rfl) (by kernel_rfl) (by kernel_rfl) (fun _ _ _ h => h) (Or.inl ⟨by rfl, fun w => by go_simp⟩) ?_
  simp only [Act.put, List.setIfInBounds_toArray, List.set_cons_zero, List.set_cons_succ]
  refine takeA (i := 3) (d := 72) (v := .int .i64 ((k : Int) + 1)) rfl rfl (by kernel_rfl) (by kernel_rfl) (by kernel_rfl) (fun _ _ _ h => h) (Or.inl ⟨by rfl, fun w => by go_simp⟩) ?_
  simp only [Act.put, List.setIfInBounds_toArray, List.set_cons_zero, List.set_cons_succ]
  refine takeA (i := 4) (d := 73) (v := .slice (some ⟨g, k + 1, none⟩) (n + 1 - (k + 1)) (cap - (k + 1))) rfl rfl (by kernel_rfl) (by kernel_rfl) (by kernel_rfl) (fun _ _ _ h => h) (Or.inl ⟨by rfl, fun w => by go_simp⟩) ?_
  simp only [Act.put, List.setIfInBounds_toArray, List.set_cons_zero, List.set_cons_succ]
  refine takeA (i := 5) (d := 74) (v := .slice (some ⟨g, 0, none⟩) (n + 1) cap) rfl rfl (by kernel_rfl) (by kernel_rfl) (by kernel_rfl) (fun _ _ _ h => h) (Or.inl ⟨by rfl, fun w => by go_simp⟩) ?_
  simp only [Act.put, List.setIfInBounds_toArray, List.set_cons_zero, List.set_cons_succ]
  refine takeA (i := 6) (d := 75) (v := .int .i64 (k : Int)) rfl rfl (by kernel_rfl) (by kernel_rfl) (by kernel_rfl) (fun _ _ _ h => h) (Or.inl ⟨by rfl, fun w => by go_simp⟩) ?_
  simp only [Act.put, List.setIfInBounds_toArray, List.set_cons_zero, List.set_cons_succ]
  refine takeA (i := 7) (d := 76) (v := .slice (some ⟨g, k, none⟩) (n + 1 - k) (cap - k)) rfl rfl (by kernel_rfl) (by kernel_rfl) (by kernel_rfl) (fun _ _ _ h => h) (Or.inl ⟨by rfl, fun w => by go_simp⟩) ?_
  simp only [Act.put, List.setIfInBounds_toArray, List.set_cons_zero, List.set_cons_succ]
  refine wpAny_ready (rs := [8]) (by kernel_rfl) (by simp) ?_
  refine AllReady.cons rfl (fun K hK => ?_) AllReady.nil
  refine step_copy_runI rfl (.tmp 73) (.tmp 76) 24 24 rfl (.slice (some ⟨g, k + 1, none⟩) (n + 1 - (k + 1)) (cap - (k + 1))) (.slice (some ⟨g, k, none⟩) (n + 1 - k) (cap - k)) rfl rfl (HC1.out _ _ _) ?_
  refine hK _ _ ?_
  clear hK K
  simp only [Act.put]
  refine wpAny_done (by kernel_rfl) ?_ _
  go_wp2_with (with_reducible refine wpList_copy_runI _ rfl _ _ 24 24 rfl (.slice (some ⟨g, k, none⟩) (n + 1 - k) (cap - k)) (.slice (some ⟨vb, 0, none⟩) 1 1) rfl rfl (HC2.out _ _) ?_)
  go_ret
  exact HEND.out

theorem grow_cells {R xs : List Value} {x : Value} {n k : Nat} (ht : R.take k = xs.take k) (hl : xs.length = n) (hr : n + 1 ≤ R.length) (hk : k ≤ n) : (putL (putL R k [x]) (k + 1) (xs.drop k)).take (n + 1) = xs.take k ++ x :: xs.drop k := by
  have hd : (xs.drop k).length = n - k := by rw [List.length_drop, hl]
  have h0 : ∀ j, j < k → R[j]? = xs[j]? := fun j hj => by
    have := congrArg (fun l => l[j]?) ht
    simpa [List.getElem?_take, hj] using this
  apply List.ext_getElem?
  intro i
  rw [List.getElem?_take]
  by_cases hi : i < n + 1
  · rw [if_pos hi, putL_get _ _ _ _ (by rw [putL_len, hd]; omega)]
    by_cases h1 : i < k
    · rw [if_neg (by omega), putL_get [x] _ _ _ (by simp; omega), if_neg (by omega), h0 i h1, List.getElem?_append_left (by rw [List.length_take]; omega), List.getElem?_take, if_pos h1]
    · rw [List.getElem?_append_right (by rw [List.length_take]; omega), List.length_take, Nat.min_eq_left (by omega)]
      by_cases h2 : i = k
      · subst h2
        rw [if_neg (by omega), putL_get [x] _ _ _ (by simp; omega), if_pos (by simp), Nat.sub_self]; rfl
      · rw [if_pos (by rw [hd]; omega), show i - k = (i - (k + 1)) + 1 by omega, List.getElem?_cons_succ]
  · rw [if_neg hi, List.getElem?_eq_none (by simp; omega)]

set_option maxRecDepth 100000 in
set_option maxHeartbeats 3200000 in
/-- In the midst, where there is no room. -/
theorem ins_grow {W w : World} {g : Nat} {fs : List Nat} (h : FRow W (.slice (some ⟨g, 0, none⟩) fs.length fs.length) fs w) (hl : fs.length ≤ 100000) (k : Nat) (hk : k < fs.length) (vb f : Nat) (hf : f < 18446744073709551616) (hb : Blk w vb [.float .f64 f] 26) :
    Calls Try.prog 90 #[.slice (some ⟨g, 0, none⟩) fs.length fs.length, .int .i64 (k : Int), .slice (some ⟨vb, 0, none⟩) 1 1] w (InsPost W w (.slice (some ⟨g, 0, none⟩) fs.length fs.length) (fs.take k ++ f :: fs.drop k)) := by
  obtain ⟨cur, hg, hcl, hn, hm, ht, hxl⟩ := blk_of_own h.1
  obtain ⟨i0, hi, hz0, hz1, hz2⟩ := info_parts info_float
  have hfl : (fvals fs).length = fs.length := by unfold fvals; simp
  have hdl : ((fvals fs).drop k).length = fs.length - k := by rw [List.length_drop, hfl]
  have h1c : ∀ v ∈ fvals fs, v.oneCell' = true := fun v hv => by unfold fvals at hv; obtain ⟨y, _, rfl⟩ := List.mem_map.1 hv; rfl
  have hat : ∀ j, j < fs.length → (fvals fs)[j]? = cur[j]? := fun j hj => by rw [← ht, List.getElem?_take, if_pos hj]
  have hcell : ∀ j v, (fvals fs)[j]? = some v → w.cell? ⟨g, j, none⟩ = some v := fun j v hj => by
    have hj2 : j < fs.length := by rw [← hfl]; exact (List.getElem?_eq_some_iff.1 hj).1
    rw [hat _ hj2] at hj
    exact hg.cell _ hj
  have hold : (Builtin.firstCells i0.size k (.slice (some ⟨g, 0, none⟩) k fs.length)).run Try.prog w.drew = .ok ((fvals fs).take k).toArray w.drew := by
    rw [hz1]
    exact run_firstCells_some w.drew 1 k ⟨g, 0, none⟩ k fs.length ((fvals fs).take k) (by rw [List.length_take]; omega) (fun j v hj => by
      have hadd : (⟨g, 0, none⟩ : Addr).add j = ⟨g, j, none⟩ := by unfold Addr.add; split <;> simp_all
      rw [hadd]
      rw [List.getElem?_take] at hj
      split at hj
      · exact hcell j v hj
      · cases hj)
  obtain ⟨G, hG⟩ : ∃ G, G = grownCap w (fs.length + 1) fs.length 26 := ⟨_, rfl⟩
  have hGn : fs.length + 1 ≤ G := by rw [hG]; exact grownCap_ge w _ _ _
  have hGm : G ≤ maxLen := by rw [hG]; exact grownCap_le_maxLen w _ _ _ (by unfold maxLen; omega)
  have hrz : ∀ ty, (Builtin.append_ #[24, 3] ty #[.slice (some ⟨g, 0, none⟩) k fs.length, .int .i64 ((fs.length : Int) + 1 - (k : Int))]).run Try.prog w =
      .ok (.slice (some ⟨w.heap.size, 0, none⟩) (fs.length + 1) G) (w.drew.alloc (.cells (((fvals fs).take k).toArray ++ Builtin.zeroCells (Value.float .f64 0).cells (fs.length + 1 - k) ++ Builtin.zeroCells (Value.float .f64 0).cells (G - (fs.length + 1))) 26)) := fun ty => by
    have h := Lib.run_append_grow_zeros w 24 3 ty 26 i0 _ .i64 .i64 Try.underlying24 Try.underlying3 hi hz0 (some ⟨g, 0, none⟩) k fs.length ((fvals fs).take k) hold (fs.length + 1 - k) (by omega) (by omega) (by omega) (by omega) (by rw [hz2]; omega) (by rw [hz2, show k + (fs.length + 1 - k) = fs.length + 1 by omega]; exact growslice_fits (by omega) (by omega))
    rw [show k + (fs.length + 1 - k) = fs.length + 1 by omega, ← hG] at h
    rw [show (fs.length : Int) + 1 - (k : Int) = ((fs.length + 1 - k : Nat) : Int) by omega]
    exact h
  obtain ⟨ROW, hROW⟩ : ∃ ROW : List Value, ROW = (((fvals fs).take k).toArray ++ Builtin.zeroCells (Value.float .f64 0).cells (fs.length + 1 - k) ++ Builtin.zeroCells (Value.float .f64 0).cells (G - (fs.length + 1))).toList := ⟨_, rfl⟩
  have hRa : (((fvals fs).take k).toArray ++ Builtin.zeroCells (Value.float .f64 0).cells (fs.length + 1 - k) ++ Builtin.zeroCells (Value.float .f64 0).cells (G - (fs.length + 1))) = ROW.toArray := by rw [hROW]
  rw [hRa] at hrz
  have hRl : ROW.length = G := by
    rw [hROW]
    simp [Builtin.zeroCells, Value.cells, hfl]
    omega
  have hRt : ROW.take k = (fvals fs).take k := by
    rw [hROW, Array.toList_append, Array.toList_append, List.append_assoc, List.take_append_of_le_length (by simp [hfl]; omega)]
    show List.take k (List.take k (fvals fs)) = _
    rw [List.take_take, Nat.min_self]
  obtain ⟨W1, hW1⟩ : ∃ W1, W1 = w.drew.alloc (.cells ROW.toArray 26) := ⟨_, rfl⟩
  obtain ⟨H, hH⟩ : ∃ H, H = w.heap.size := ⟨_, rfl⟩
  have hN1 : Blk W1 H ROW 26 := by rw [hW1, hH]; exact Blk.new w.drew ROW 26
  have hf1 : Fr (fun i => (Value.slice (some ⟨g, 0, none⟩) fs.length fs.length).ownBlock = some i) w W1 := by rw [hW1]; exact ((Fr.refl _ w).drew).alloc _
  have hgH : g ≠ H := by have := hg.lt; omega
  have hvH : vb ≠ H := by have := hb.lt; omega
  have hg1 : Blk W1 g cur 26 := by rw [hW1]; exact hg.drew.alloc _
  have hb1 : Blk W1 vb [.float .f64 f] 26 := by rw [hW1]; exact hb.drew.alloc _
  rw [← hW1, ← hH] at hrz
  have hcp1 : ∀ ty dc, (Builtin.copy_ #[24, 24] ty #[.slice (some ⟨H, k, none⟩) (fs.length + 1 - k) dc, .slice (some ⟨vb, 0, none⟩) 1 1]).run Try.prog W1 = .ok (goInt 1) (W1.setCells H k [.float .f64 f]) := fun ty dc =>
    run_copy_cells W1 _ _ ty 26 H k (fs.length + 1 - k) dc ⟨vb, 0, none⟩ 1 1 [.float .f64 f] Try.underlying24 info_one (by simp only [List.length_singleton, Nat.min_def]; split <;> omega)
      (news_at hb1)
      (fun j hj => by rw [hN1.cell _ (List.getElem?_eq_getElem (by simp at hj; omega))]; rfl) (fun j hj => hN1.free _) (fun v hv => by rw [List.mem_singleton.1 hv]; rfl)
  obtain ⟨W2, hW2⟩ : ∃ W2, W2 = W1.setCells H k [.float .f64 f] := ⟨_, rfl⟩
  have hN2 : Blk W2 H (putL ROW k [.float .f64 f]) 26 := by rw [hW2]; exact hN1.setCells _ _
  have hg2 : Blk W2 g cur 26 := by rw [hW2]; exact hg1.setCellsOther hgH _ _
  have hf2 : Fr (fun i => (Value.slice (some ⟨g, 0, none⟩) fs.length fs.length).ownBlock = some i) w W2 := by rw [hW2]; exact Fr.setCells (S := fun i => (Value.slice (some ⟨g, 0, none⟩) fs.length fs.length).ownBlock = some i) (.inr (by omega)) _ _ hf1
  rw [← hW2] at hcp1
  have hcp2 : ∀ ty dc sc, (Builtin.copy_ #[24, 24] ty #[.slice (some ⟨H, k + 1, none⟩) (fs.length + 1 - (k + 1)) dc, .slice (some ⟨g, k, none⟩) (fs.length - k) sc]).run Try.prog W2.drew = .ok (goInt ((fvals fs).drop k).length) (W2.drew.setCells H (k + 1) ((fvals fs).drop k)) := fun ty dc sc =>
    run_copy_cells W2.drew _ _ ty 26 H (k + 1) (fs.length + 1 - (k + 1)) dc ⟨g, k, none⟩ (fs.length - k) sc ((fvals fs).drop k) Try.underlying24 info_one (by rw [hdl]; simp only [Nat.min_def]; split <;> omega)
      (fun j v hj => by
        have hj2 : j < fs.length - k := by rw [← hdl]; exact (List.getElem?_eq_some_iff.1 hj).1
        rw [List.getElem?_drop, hat _ (by omega)] at hj
        have hadd : (⟨g, k, none⟩ : Addr).add j = ⟨g, k + j, none⟩ := by unfold Addr.add; split <;> simp_all
        rw [hadd]
        exact hg2.drew.cell _ hj)
      (fun j hj => by rw [hN2.drew.cell _ (List.getElem?_eq_getElem (by rw [putL_len]; omega))]; rfl) (fun j hj => hN2.drew.free _) (fun v hv => h1c v (List.mem_of_mem_drop hv))
  have hend : InsPost W w (.slice (some ⟨g, 0, none⟩) fs.length fs.length) (fs.take k ++ f :: fs.drop k) (.returned (.slice (some ⟨H, 0, none⟩) (fs.length + 1) G)) (W2.drew.setCells H (k + 1) ((fvals fs).drop k)) := by
    have h3 := hN2.drew.setCells ((fvals fs).drop k) (k + 1)
    have ho := own_of_blk h3 (by rw [putL_len, putL_len]; exact hRl) hGn hGm (grow_cells hRt hxl (by omega) (by omega))
    have hfr : Fr (fun i => (Value.slice (some ⟨g, 0, none⟩) fs.length fs.length).ownBlock = some i) w (W2.drew.setCells H (k + 1) ((fvals fs).drop k)) := Fr.setCells (S := fun i => (Value.slice (some ⟨g, 0, none⟩) fs.length fs.length).ownBlock = some i) (.inr (by omega)) _ _ hf2.drew
    have hgg : ∀ i, (Value.slice (some ⟨H, 0, none⟩) (fs.length + 1) G).ownBlock = some i → (Value.slice (some ⟨g, 0, none⟩) fs.length fs.length).ownBlock = some i ∨ w.heap.size ≤ i := fun i hi => by
      simp only [Value.ownBlock, Option.some.injEq] at hi; exact .inr (by omega)
    refine ⟨_, rfl, frow_of_own h (n := fs.length + 1) (by simp; omega) ?_ hfr hgg (ins_all h.2.2.1 hf), hfr, hgg⟩
    rw [show fvals (fs.take k ++ f :: fs.drop k) = (fvals fs).take k ++ .float .f64 f :: (fvals fs).drop k by unfold fvals; simp]
    exact ho
  have HEND := Lib.hid hend
  have HC0 := Lib.hid hrz
  have HC1 := Lib.hid hcp1
  have HC2 := Lib.hid hcp2
  unfold maxLen at hGm
  generalize fs.length = n at *
  generalize ((fvals fs).drop k).length = dl at *
  generalize W2.drew.setCells H (k + 1) ((fvals fs).drop k) = W3 at *
  have hz2 : ((k : Int) == (n : Int)) = false := by rw [beq_eq_false_iff_ne]; omega
  have hki : (k : Int) < n := by omega
  have hni : (n : Int) ≤ 100000 := by omega
  have hGi1 : (n : Int) + 1 ≤ G := by omega
  have hGi2 : (G : Int) ≤ 9223372036854775807 := by omega
  have hk1 : (k : Int) ≤ (n : Int) + 1 := by omega
  have hk2 : (k : Int) + 1 ≤ (n : Int) + 1 := by omega
  have hk3 : (0 : Int) ≤ (k : Int) + 1 := by omega
  have hnc1 : ¬ G = k := by omega
  have hnc2 : ¬ G = k + 1 := by omega
  have hk4 : (k : Int) ≤ n := by omega
  have hnc3 : ¬ n = k := by omega
  have hw1 : IntKind.i64.wrap ((k : Int) + 1) = (k : Int) + 1 := by rw [IntKind.wrap_i64]; omega
  have htn : ((k : Int) + 1).toNat = k + 1 := by omega
  clear hW1 hcp1 hcp2 hrz hend hg1 hb1 hf1 h hg ht hxl hfl hdl h1c hat hb hcl hROW hRa hRl hRt hN1 hN2 hg2 hf2 hW2 hold hcell hG hGn hGm hH hgH hvH hz0 hz1 hz2
  have hz2 : ((k : Int) == (n : Int)) = false := by rw [beq_eq_false_iff_ne]; omega
  go_enter Try.func90, Try.ntmps90
  go_wp2_with (first | (at_builtin; refine Lib.wpList_append_run _ rfl _ _ _ _ rfl _ _ rfl rfl _ _ (HC0.out _) ?_) | (with_reducible refine wpList_copy_runI _ rfl _ _ 24 24 rfl (.slice (some ⟨H, k, none⟩) (n + 1 - k) (G - k)) (.slice (some ⟨vb, 0, none⟩) 1 1) rfl rfl (HC1.out _ _) ?_))
  refine wp_region_any (by kernel_rfl) ?_
  change wpAny _ _ _ _ _ _ _ (World.drew _)
  refine takeA (i := 0) (d := 46) (v := .slice (some ⟨H, 0, none⟩) (n + 1) G) rfl rfl (by kernel_rfl) (by kernel_rfl) (by kernel_rfl) (fun _ _ _ h => h) (Or.inl ⟨by rfl, fun w => by go_simp⟩) ?_
  simp only [Act.put, List.setIfInBounds_toArray, List.set_cons_zero, List.set_cons_succ]
  refine takeA (i := 1) (d := 47) (v := .int .i64 (k : Int)) rfl rfl (by kernel_rfl) (by kernel_rfl) (by kernel_rfl) (fun _ _ _ h => h) (Or.inl ⟨by rfl, fun w => by go_simp⟩) ?_
  simp only [Act.put, List.setIfInBounds_toArray, List.set_cons_zero, List.set_cons_succ]
  refine takeA (i := 2) (d := 48) (v := .int .i64 1) rfl rfl (by kernel_rfl) (by kernel_rfl) (by kernel_rfl) (fun _ _ _ h => h) (Or.inl ⟨by rfl, fun w => by go_simp⟩) ?_
  simp only [Act.put, List.setIfInBounds_toArray, List.set_cons_zero, List.set_cons_succ]
  refine takeA (i := 3) (d := 49) (v := .int .i64 ((k : Int) + 1)) rfl rfl (by kernel_rfl) (by kernel_rfl) (by kernel_rfl) (fun _ _ _ h => h) (Or.inl ⟨by rfl, fun w => by go_simp⟩) ?_
  simp only [Act.put, List.setIfInBounds_toArray, List.set_cons_zero, List.set_cons_succ]
  refine takeA (i := 4) (d := 50) (v := .slice (some ⟨H, k + 1, none⟩) (n + 1 - (k + 1)) (G - (k + 1))) rfl rfl (by kernel_rfl) (by kernel_rfl) (by kernel_rfl) (fun _ _ _ h => h) (Or.inl ⟨by rfl, fun w => by go_simp⟩) ?_
  simp only [Act.put, List.setIfInBounds_toArray, List.set_cons_zero, List.set_cons_succ]
  refine takeA (i := 5) (d := 51) (v := .slice (some ⟨g, 0, none⟩) n n) rfl rfl (by kernel_rfl) (by kernel_rfl) (by kernel_rfl) (fun _ _ _ h => h) (Or.inl ⟨by rfl, fun w => by go_simp⟩) ?_
  simp only [Act.put, List.setIfInBounds_toArray, List.set_cons_zero, List.set_cons_succ]
  refine takeA (i := 6) (d := 52) (v := .int .i64 (k : Int)) rfl rfl (by kernel_rfl) (by kernel_rfl) (by kernel_rfl) (fun _ _ _ h => h) (Or.inl ⟨by rfl, fun w => by go_simp⟩) ?_
  simp only [Act.put, List.setIfInBounds_toArray, List.set_cons_zero, List.set_cons_succ]
  refine takeA (i := 7) (d := 53) (v := .slice (some ⟨g, k, none⟩) (n - k) (n - k)) rfl rfl (by kernel_rfl) (by kernel_rfl) (by kernel_rfl) (fun _ _ _ h => h) (Or.inl ⟨by rfl, fun w => by go_simp⟩) ?_
  simp only [Act.put, List.setIfInBounds_toArray, List.set_cons_zero, List.set_cons_succ]
  refine wpAny_ready (rs := [8]) (by kernel_rfl) (by simp) ?_
  refine AllReady.cons rfl (fun K hK => ?_) AllReady.nil
  refine step_copy_runI rfl (.tmp 50) (.tmp 53) 24 24 rfl (.slice (some ⟨H, k + 1, none⟩) (n + 1 - (k + 1)) (G - (k + 1))) (.slice (some ⟨g, k, none⟩) (n - k) (n - k)) rfl rfl (HC2.out _ _ _) ?_
  refine hK _ _ ?_
  clear hK K
  simp only [Act.put]
  refine wpAny_done (by kernel_rfl) ?_ _
  go_wp2
  go_ret
  exact HEND.out

/-- Wherever. -/
theorem insert_any {W w : World} {v : Value} {fs : List Nat} (h : FRow W v fs w) (hl : fs.length ≤ 100000) (k : Nat) (hk : k ≤ fs.length) (vb f : Nat) (hf : f < 18446744073709551616) (hb : Blk w vb [.float .f64 f] 26) (hne : v.ownBlock ≠ some vb) :
    Calls Try.prog 90 #[v, .int .i64 (k : Int), .slice (some ⟨vb, 0, none⟩) 1 1] w (InsPost W w v (fs.take k ++ f :: fs.drop k)) := by
  rcases Nat.eq_or_lt_of_le hk with rfl | hk
  · rw [List.take_length, List.drop_length]
    exact ins_end h hl vb f hf hb
  · rcases h.1.2 with ⟨_, h0⟩ | ⟨g, cap, cur, rfl, _, _, hn, _⟩
    · omega
    · by_cases hr : fs.length + 1 ≤ cap
      · exact ins_room h hl hr k hk vb f hf hb (fun e => hne (by rw [e]; rfl))
      · obtain rfl : cap = fs.length := by omega
        exact ins_grow h hl k hk vb f hf hb
end Go.Proofs.Ytmllbdiljjimmaa
