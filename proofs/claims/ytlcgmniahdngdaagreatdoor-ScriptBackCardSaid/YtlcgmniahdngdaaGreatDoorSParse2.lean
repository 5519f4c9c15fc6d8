/- The walk of script.Parse at an operation's own line. -/
import Derived.Test.YtlcgmniahdngdaaGreatDoorSParse
namespace Go.Proofs.YtlcgmniahdngdaaGreatDoor
open Go.RowKit Go.Great

def PaPost (w : World) (o : OpR) (e : Ending) (w' : World) : Prop := e = .returned (.tuple #[o.val, .int .i64 0]) ∧ Fr (fun _ => False) w w'
/-- What the loop over the letters keeps. -/
structure PaI (o : OpR) (sh : List UInt8) (w : World) (fs : List (List UInt8)) (b off br bh bi j : Nat) (wr : World) : Prop where
  it : wr.heap[bi]? = some (.stringIter (bytesOf sh) j)
  rd : ∃ hv, Blk wr br (rb (readS o (sh.take j)).1 hv 0) 69 ∧ ∀ m, (sh.take j).foldl upH 0 = m → m < 3 → hv = .slice (some ⟨bh, m, none⟩) (3 - m : Nat) (3 - m : Nat)
  hd : Blk wr bh (hdCells br) 70
  st : ∀ i l, fs[i]? = some l → wr.cell? ⟨b, off + (i + 1), none⟩ = some (.string (bytesOf l))
  sb : b < br
  res : Blk wr w.heap.size (zeroO 0).cells 32
  fr : Fr (fun _ => False) w wr
theorem readS_take (o : OpR) (s : List UInt8) (j : Nat) (hj : j < s.length) (c : UInt8) (hc : s[j] = c) : (readS o (s.take (j + 1))).1 = setS o (readS o (s.take j)).1 ((s.take j).foldl upH 0) c := by
  subst hc
  rw [← List.take_append_getElem hj, readS_snoc, stepS]
  show setS o (readS o (s.take j)).1 (readS o (s.take j)).2 _ = _
  unfold readS
  rw [readS_snd]
theorem pai_step {o : OpR} {sh : List UInt8} {w : World} {fs : List (List UInt8)} {b off br bh bi j : Nat} {wr : World} (h : PaI o sh w fs b off br bh bi j wr) (hw : w.heap.size < br) (hb1 : bh = br + 1) (hb2 : bi = br + 2) (hj : j < sh.length) (c : UInt8) (hcc : sh[j] = c) :
    ∃ hv, Blk (wr.iterAt bi (bytesOf sh) (j + 1)) br (rb (readS o (sh.take j)).1 hv 0) 69 ∧ (∀ m, (sh.take j).foldl upH 0 = m → m < 3 → hv = .slice (some ⟨bh, m, none⟩) (3 - m : Nat) (3 - m : Nat)) ∧
      Blk (wr.iterAt bi (bytesOf sh) (j + 1)) bh (hdCells br) 70 ∧ (∀ i l, fs[i]? = some l → (wr.iterAt bi (bytesOf sh) (j + 1)).cell? ⟨b, off + (i + 1), none⟩ = some (.string (bytesOf l))) ∧ Fr (fun _ => False) w (wr.iterAt bi (bytesOf sh) (j + 1)) ∧
      ∀ (w2 : World) (e : Ending), RdvPost br bh o (readS o (sh.take j)).1 ((sh.take j).foldl upH 0) c (wr.iterAt bi (bytesOf sh) (j + 1)) e w2 → PaI o sh w fs b off br bh bi (j + 1) w2 ∧ w2.cell? ⟨br, 10, none⟩ = some (.int .i64 0) := by
  obtain ⟨hit, ⟨hv, hr, h7⟩, hd, hst, hsb, hres, hfr⟩ := h
  have hI : Fr (fun i => i = bi) wr (wr.iterAt bi (bytesOf sh) (j + 1)) := ⟨rfl, rfl, rfl, by rw [Lib.iterAt_size]; exact Nat.le_refl _, fun i _ hn => Lib.iterAt_other _ _ _ _ _ hn⟩
  have hit1 := Lib.iterAt_heap wr bi (bytesOf sh) j (j + 1) hit
  have hr1 := hr.frame hI (by omega)
  have hd1 := hd.frame hI (by omega)
  have hs1 := hres.frame hI (by omega)
  have hst1 : ∀ i l, fs[i]? = some l → (wr.iterAt bi (bytesOf sh) (j + 1)).cell? ⟨b, off + (i + 1), none⟩ = some (.string (bytesOf l)) := fun i l hl =>
    (World.cell?_of_block (w := wr) (hI.block b (cell_lt (hst i l hl)) (by omega))).trans (hst i l hl)
  have hf1 : Fr (fun _ => False) w (wr.iterAt bi (bytesOf sh) (j + 1)) := hfr.trans hI (fun i hi => .inr (by omega))
  refine ⟨hv, hr1, h7, hd1, hst1, hf1, ?_⟩
  rintro w2 e ⟨_, hv', hb, h7', hf2⟩
  refine ⟨⟨hf2.heap hit1 (by omega), ⟨hv', ?_, ?_⟩, hd1.frame hf2 (by omega), fun i l hl => (World.cell?_of_block (w := wr.iterAt bi (bytesOf sh) (j + 1)) (hf2.block b (cell_lt (hst1 i l hl)) (by omega))).trans (hst1 i l hl), hsb, hs1.frame hf2 (by omega), hf1.trans hf2 (fun i hi => .inr (by omega))⟩, hb.cell 10 rfl⟩
  · rw [readS_take o sh j hj c hcc]
    exact hb
  · intro m hm h3
    subst hcc
    rw [← List.take_append_getElem hj, List.foldl_append] at hm
    exact h7' m hm h3
set_option maxRecDepth 100000 in
set_option maxHeartbeats 3200000 in
theorem sparse_any (o : OpR) (ho : o.Ok) (hk : isK o.k = true) (hgood : rightS (shB o.k) o = true) (hcan : canonF o.q = o.q) (L : List UInt8) (hl : L.length ≤ 100000) (hf : fieldsR [] L = nmB o.k :: fieldsO o 0 (shS o.k)) (w : World)
    (hT : TabD w) (hP : Lib.TabIs Tryz.prog w "internal/strconv.uint64pow10" .u64 Lib.pow10Tab) (hE : ErrW w) : Calls Tryz.prog 11 #[.string (bytesOf L)] w (PaPost w o) := by
  have hback := read_right o hk hgood
  obtain ⟨k, hkk⟩ : ∃ k : Nat, o.k = (k : Int) := ⟨o.k.toNat, by have := of_decide_eq_true hk; omega⟩
  have h1 : 1 ≤ k := by have := of_decide_eq_true hk; omega
  have h2 : k ≤ 17 := by have := of_decide_eq_true hk; omega
  have hokay := shS_ok o.k hk
  have hheads := shS_heads o.k hk
  have hml := shS_len o.k hk
  rw [hkk] at hf hback hokay hheads hml
  have HFD := Lib.hid (fun w => fields_any L (by omega) w)
  rw [hf] at HFD
  have HKD := Lib.hid (fun w => skind_any k h1 h2 w)
  have HN := Lib.hid names_any
  unfold NmPost at HN
  have HIX := Lib.hid (nm_index k (by omega))
  have hi2 := idx2 (bytesOf (nmB (k : Int))) (bytesOf (shS (k : Int)))
  have hm : (bytesOf (shS (k : Int))).size = (shS (k : Int)).length := bytes_size _
  have hfn : (fieldsO o 0 (shS (k : Int))).length = (shS (k : Int)).length := fieldsO_len _ _ _
  unfold KiPost at HKD
  unfold StrsPost at HFD
  generalize nmCells.toArray = NM at *
  generalize bytesOf L = S at *
  generalize nmB (k : Int) = nm at *
  generalize hS1 : bytesOf nm = S1 at *
  generalize shS (k : Int) = sh at *
  have hfg := fieldsO_get o sh 0
  generalize hfs : fieldsO o 0 sh = fs at *
  have HS1 := Lib.hid hS1
  have HI2 := Lib.hid hi2
  have HBACK := Lib.hid hback
  have HKK := Lib.hid hkk
  have HO := Lib.hid ho
  have HCAN := Lib.hid hcan
  have HT := Lib.hid hT
  have HP := Lib.hid hP
  have HE := Lib.hid hE
  have HOKAY := Lib.hid hokay
  have HHEADS := Lib.hid hheads
  have HFG := Lib.hid hfg
  have HFN := Lib.hid hfn
  have hk0 : ((k : Int) == 0) = false := by rw [beq_eq_false_iff_ne]; omega
  clear hi2 hf hl hS1 h1 h2 ho hk hgood hcan hT hP hE hback hkk hokay hheads hfg hfs hfn
  go_enter Tryz.func11, Tryz.ntmps11
  go_upto_region 1 with fail
  generalize hW0 : World.alloc w _ = W0
  have hbR : Blk W0 w.heap.size (zeroO 0).cells 32 := by rw [← hW0]; exact Blk.new w (zeroO 0).cells 32
  have hF0 : Fr (fun _ => False) w W0 := by rw [← hW0]; exact (Fr.refl _ w).alloc _
  clear hW0
  go_wp2_with fail
  refine (HFD.out _).mono ?_
  rintro e w1 ⟨v, rfl, hs, hf1⟩
  obtain ⟨p, cap, rfl, hcells⟩ := hs
  obtain ⟨b, off, rfl, hc0⟩ := hcells 0 nm rfl
  rw [HS1.out, Nat.add_zero] at hc0
  have hb1 := hbR.frame hf1 (fun h => h)
  have hF1 := hF0.then hf1
  have hst : ∀ i l, fs[i]? = some l → w1.cell? ⟨b, off + (i + 1), none⟩ = some (.string (bytesOf l)) := by
    intro i l hl
    obtain ⟨b', off', hp, hc⟩ := hcells (i + 1) l hl
    cases hp
    exact hc
  have hblt := cell_lt hc0
  have HST := Lib.hid hst
  have HBLT := Lib.hid hblt
  clear hcells hbR hF0 hf1 hst hblt
  go_wp2_with fail
  rw [HFN.out]
  refine (HKD.out _).mono ?_
  rintro e w2 ⟨rfl, hf2⟩
  have hb2 := hb1.frame hf2 (fun h => h)
  have hF2 := hF1.then hf2
  have HF2 := Lib.hid hf2
  clear hc0 hb1 hF1 hf2
  go_wp2_with fail
  refine (HN.out _).mono ?_
  rintro e w3 ⟨rfl, hf3⟩
  have hb3 := hb2.frame hf3 (fun h => h)
  have hF3 := hF2.then hf3
  have hf13 := HF2.out.then hf3
  have hix := HIX.out
  have hi2 := HI2.out
  clear hb2 hF2 hf3
  go_upto_region 6 with fail
  clear hix hi2
  go_upto_region 9 with fail
  generalize hW4 : World.alloc w3 _ = W4
  have hr4 : Blk W4 w3.heap.size (rb (zeroO (k : Int)) (.slice none 0 0) 0) 69 := by rw [← hW4]; exact Blk.new w3 (rb (zeroO (k : Int)) (.slice none 0 0) 0) 69
  have hf4 : Fr (fun _ => False) w3 W4 := by rw [← hW4]; exact (Fr.refl _ w3).alloc _
  have hs4 : W4.heap.size = w3.heap.size + 1 := by rw [← hW4]; simp
  clear hW4
  refine wp_region_any (by kernel_rfl) ?_
  change wpAny _ _ _ _ _ _ _ (World.drew _)
  have hr5 := hr4.drew
  have hf5 := hf4.drew
  have hs5 : W4.drew.heap.size = w3.heap.size + 1 := hs4
  generalize W4.drew = W5 at *
  clear hr4 hf4 hs4
  refine takeA (i := 0) (d := 39) (v := .pointer (some ⟨w3.heap.size, 0, none⟩)) rfl rfl (by kernel_rfl) (by kernel_rfl) (by kernel_rfl) (fun _ _ _ h => h) (Or.inl ⟨by rfl, fun w => by go_simp⟩) ?_
  simp only [Act.put, List.setIfInBounds_toArray, List.set_cons_zero, List.set_cons_succ]
  refine takeA (i := 1) (d := 40) (v := .pointer (some ⟨w3.heap.size, 0, none⟩)) rfl rfl (by kernel_rfl) (by kernel_rfl) (by kernel_rfl) (fun _ _ _ h => h) (Or.inl ⟨by rfl, fun w => by go_simp⟩) ?_
  simp only [Act.put, List.setIfInBounds_toArray, List.set_cons_zero, List.set_cons_succ]
  refine takeA (i := 2) (d := 41) (v := .pointer (some ⟨w3.heap.size, 0, none⟩)) rfl rfl (by kernel_rfl) (by kernel_rfl) (by kernel_rfl) (fun _ _ _ h => h) (Or.inl ⟨by rfl, fun w => by go_simp⟩) ?_
  simp only [Act.put, List.setIfInBounds_toArray, List.set_cons_zero, List.set_cons_succ]
  refine takeA (i := 3) (d := 42) (v := .pointer (some ⟨w3.heap.size, 0, none⟩)) rfl rfl (by kernel_rfl) (by kernel_rfl) (by kernel_rfl) (fun _ _ _ h => h) (Or.inl ⟨by rfl, fun w => by go_simp⟩) ?_
  simp only [Act.put, List.setIfInBounds_toArray, List.set_cons_zero, List.set_cons_succ]
  refine takeA (i := 4) (d := 43) (v := .pointer (some ⟨w3.heap.size, 4, none⟩)) rfl rfl (by kernel_rfl) (by kernel_rfl) (by kernel_rfl) (fun _ _ _ h => h) (Or.inl ⟨by rfl, fun w => by go_simp⟩) ?_
  simp only [Act.put, List.setIfInBounds_toArray, List.set_cons_zero, List.set_cons_succ]
  refine takeA (i := 5) (d := 44) (v := .pointer (some ⟨w3.heap.size, 4, none⟩)) rfl rfl (by kernel_rfl) (by kernel_rfl) (by kernel_rfl) (fun _ _ _ h => h) (Or.inl ⟨by rfl, fun w => by go_simp⟩) ?_
  simp only [Act.put, List.setIfInBounds_toArray, List.set_cons_zero, List.set_cons_succ]
  refine takeA (i := 6) (d := 45) (v := .pointer (some ⟨w3.heap.size, 0, none⟩)) rfl rfl (by kernel_rfl) (by kernel_rfl) (by kernel_rfl) (fun _ _ _ h => h) (Or.inl ⟨by rfl, fun w => by go_simp⟩) ?_
  simp only [Act.put, List.setIfInBounds_toArray, List.set_cons_zero, List.set_cons_succ]
  refine takeA (i := 7) (d := 46) (v := .pointer (some ⟨w3.heap.size, 0, none⟩)) rfl rfl (by kernel_rfl) (by kernel_rfl) (by kernel_rfl) (fun _ _ _ h => h) (Or.inl ⟨by rfl, fun w => by go_simp⟩) ?_
  simp only [Act.put, List.setIfInBounds_toArray, List.set_cons_zero, List.set_cons_succ]
  refine takeA (i := 8) (d := 47) (v := .pointer (some ⟨w3.heap.size, 0, none⟩)) rfl rfl (by kernel_rfl) (by kernel_rfl) (by kernel_rfl) (fun _ _ _ h => h) (Or.inl ⟨by rfl, fun w => by go_simp⟩) ?_
  simp only [Act.put, List.setIfInBounds_toArray, List.set_cons_zero, List.set_cons_succ]
  refine takeA (i := 9) (d := 48) (v := .pointer (some ⟨w3.heap.size, 4, none⟩)) rfl rfl (by kernel_rfl) (by kernel_rfl) (by kernel_rfl) (fun _ _ _ h => h) (Or.inl ⟨by rfl, fun w => by go_simp⟩) ?_
  simp only [Act.put, List.setIfInBounds_toArray, List.set_cons_zero, List.set_cons_succ]
  refine takeA (i := 10) (d := 49) (v := .pointer (some ⟨w3.heap.size, 5, none⟩)) rfl rfl (by kernel_rfl) (by kernel_rfl) (by kernel_rfl) (fun _ _ _ h => h) (Or.inl ⟨by rfl, fun w => by go_simp⟩) ?_
  simp only [Act.put, List.setIfInBounds_toArray, List.set_cons_zero, List.set_cons_succ]
  refine takeA (i := 11) (d := 50) (v := .pointer (some ⟨w3.heap.size, 0, none⟩)) rfl rfl (by kernel_rfl) (by kernel_rfl) (by kernel_rfl) (fun _ _ _ h => h) (Or.inl ⟨by rfl, fun w => by go_simp⟩) ?_
  simp only [Act.put, List.setIfInBounds_toArray, List.set_cons_zero, List.set_cons_succ]
  refine takeA (i := 12) (d := 51) (v := .pointer (some ⟨w3.heap.size, 0, none⟩)) rfl rfl (by kernel_rfl) (by kernel_rfl) (by kernel_rfl) (fun _ _ _ h => h) (Or.inl ⟨by rfl, fun w => by go_simp⟩) ?_
  simp only [Act.put, List.setIfInBounds_toArray, List.set_cons_zero, List.set_cons_succ]
  refine takeA (i := 13) (d := 52) (v := .pointer (some ⟨w3.heap.size, 0, none⟩)) rfl rfl (by kernel_rfl) (by kernel_rfl) (by kernel_rfl) (fun _ _ _ h => h) (Or.inl ⟨by rfl, fun w => by go_simp⟩) ?_
  simp only [Act.put, List.setIfInBounds_toArray, List.set_cons_zero, List.set_cons_succ]
  refine takeA (i := 14) (d := 53) (v := .pointer (some ⟨w3.heap.size, 4, none⟩)) rfl rfl (by kernel_rfl) (by kernel_rfl) (by kernel_rfl) (fun _ _ _ h => h) (Or.inl ⟨by rfl, fun w => by go_simp⟩) ?_
  simp only [Act.put, List.setIfInBounds_toArray, List.set_cons_zero, List.set_cons_succ]
  refine takeA (i := 15) (d := 54) (v := .pointer (some ⟨w3.heap.size, 6, none⟩)) rfl rfl (by kernel_rfl) (by kernel_rfl) (by kernel_rfl) (fun _ _ _ h => h) (Or.inl ⟨by rfl, fun w => by go_simp⟩) ?_
  simp only [Act.put, List.setIfInBounds_toArray, List.set_cons_zero, List.set_cons_succ]
  have hs55 : (W5.setCell ⟨w3.heap.size, 9, none⟩ (.slice (some ⟨w3.heap.size + 1, 0, none⟩) 3 3)).heap.size = w3.heap.size + 1 := by simp [World.setCell, hs5]
  have hr6 := (hr5.set 9 (.slice (some ⟨w3.heap.size + 1, 0, none⟩) 3 3)).alloc (.cells (hdCells w3.heap.size).toArray 70)
  have hh6 := Blk.new (W5.setCell ⟨w3.heap.size, 9, none⟩ (.slice (some ⟨w3.heap.size + 1, 0, none⟩) 3 3)) (hdCells w3.heap.size) 70
  rw [hs55] at hh6
  have hs6 : ((W5.setCell ⟨w3.heap.size, 9, none⟩ (.slice (some ⟨w3.heap.size + 1, 0, none⟩) 3 3)).alloc (.cells (hdCells w3.heap.size).toArray 70)).heap.size = w3.heap.size + 2 := by rw [World.size_alloc, hs55]
  have hf6 := (hf5.setCell ⟨w3.heap.size, 9, none⟩ (.inr (Nat.le_refl _)) (.slice (some ⟨w3.heap.size + 1, 0, none⟩) 3 3)).alloc (.cells (hdCells w3.heap.size).toArray 70)
  have c9 : (W5.alloc (.cells #[.pointer (some ⟨w3.heap.size, 4, none⟩), .pointer (some ⟨w3.heap.size, 5, none⟩), .pointer (some ⟨w3.heap.size, 6, none⟩)] 70)).cell? ⟨w3.heap.size, 9, none⟩ = some (.slice none 0 0) := (hr5.alloc (.cells (hdCells w3.heap.size).toArray 70)).cell 9 rfl
  have f9 : (W5.alloc (.cells #[.pointer (some ⟨w3.heap.size, 4, none⟩), .pointer (some ⟨w3.heap.size, 5, none⟩), .pointer (some ⟨w3.heap.size, 6, none⟩)] 70)).frozen? ⟨w3.heap.size, 9, none⟩ = false := (hr5.alloc (.cells (hdCells w3.heap.size).toArray 70)).free 9
  clear hr5 hs55
  refine wpAny_ready (rs := [16]) (by kernel_rfl) (by simp) ?_
  refine AllReady.cons rfl (fun K hK => ?_) AllReady.nil
  go_simp
  refine hK _ _ ?_
  clear hK K
  refine wpAny_ready (rs := [17]) (by kernel_rfl) (by simp) ?_
  refine AllReady.cons rfl (fun K hK => ?_) AllReady.nil
  go_simp
  refine hK _ _ ?_
  clear hK K
  refine wpAny_ready (rs := [18]) (by kernel_rfl) (by simp) ?_
  refine AllReady.cons rfl (fun K hK => ?_) AllReady.nil
  go_simp
  refine hK _ _ ?_
  clear hK K
  refine wpAny_ready (rs := [19]) (by kernel_rfl) (by simp) ?_
  refine AllReady.cons rfl (fun K hK => ?_) AllReady.nil
  go_simp
  refine hK _ _ ?_
  clear hK K c9 f9
  refine wpAny_done (by kernel_rfl) ?_ _
  generalize hW6 : World.alloc (World.setCell W5 _ _) _ = W6
  rw [show (W5.setCell ⟨w3.heap.size, 9, none⟩ (.slice (some ⟨w3.heap.size + 1, 0, none⟩) 3 3)).alloc (.cells (hdCells w3.heap.size).toArray 70) = W6 from hW6] at hr6 hh6 hs6 hf6
  clear hW6 hf5 hs5
  go_upto_region 11 with fail
  have hwl := Lib.hid (Array.getElem?_eq_some_iff.1 hb3).1
  have hI : PaI o sh w fs b off w3.heap.size (w3.heap.size + 1) (w3.heap.size + 2) 0 (W6.iter (bytesOf sh) 0) := by
    refine ⟨?_, ⟨.slice (some ⟨w3.heap.size + 1, 0, none⟩) 3 3, ?_, ?_⟩, hh6.alloc _, ?_, ?_, (hb3.frame hf6 (fun h => h)).alloc _, (hF3.then hf6).alloc _⟩
    · rw [← hs6]; exact World.iter_heap _ _ _
    · have e : (readS o (sh.take 0)).1 = zeroO (k : Int) := by rw [List.take_zero]; show (⟨o.k, 0, 0, 0, 0, 0, 0, 0, 0⟩ : OpR) = _; rw [HKK.out]; rfl
      rw [e]
      exact hr6.alloc _
    · intro m hm h3
      subst hm
      rfl
    · intro i l hl
      have hc := HST.out i l hl
      have hq : (W6.iter (bytesOf sh) 0).heap[b]? = w1.heap[b]? := by
        have q := ((hf13.then hf6).alloc (.stringIter (bytesOf sh) 0)).block b HBLT.out (fun h => h)
        exact q
      exact (World.cell?_of_block (w := w1) hq).trans hc
    · have := hf13.size; have := HBLT.out; omega
  have HI := Lib.hid hI
  clear hI hr6 hh6 hf6 hF3 hf13 hb3
  generalize W6.iter (bytesOf sh) 0 = W7 at *
  generalize hbr : w3.heap.size = br at *
  have HBR := Lib.hid hbr
  clear hbr hs6
  go_loopw [8, 9] (fun _ _ wr => ∃ j : Nat, j ≤ sh.length ∧ PaI o sh w fs b off br (br + 1) (br + 2) j wr) (fun _ _ wr => sh.length - wr.iterPos (br + 2))
  case atStart => exact ⟨0, Nat.zero_le _, HI.out⟩
  case round =>
    obtain ⟨j, hj, hI⟩ := hrel
    have hp0 := iterPos_of hI.it
    by_cases hlt : j < sh.length
    · have hsz3 : j < (bytesOf sh).size := by rw [bytes_size]; exact hlt
      obtain ⟨c, hc⟩ : ∃ c, sh[j] = c := ⟨_, rfl⟩
      have hget : (bytesOf sh)[j] = c := hc
      have hokc : okS c = true := HOKAY.out c (by rw [← hc]; exact List.getElem_mem hlt)
      have hok := okS_cases hokc
      have h128 : c.toNat < 128 := by rcases hok with rfl | rfl | rfl | rfl | rfl | rfl | rfl <;> decide
      have hnx : ∀ ty, (Instr.next (.pointer (some ⟨br + 2, 0, none⟩)) true ty).run Tryz.prog wr = .ok (.tuple #[.bool true, .int .i64 j, .int .i32 c.toNat]) (wr.iterAt (br + 2) (bytesOf sh) (j + 1)) := fun ty => by
        rw [Lib.run_next_ascii_at wr _ _ j ty hI.it hsz3 (by rw [hget]; exact h128), hget]
      obtain ⟨hv, hr, h7, hd, hst, hfr, hstep⟩ := pai_step hI (by have := HBR.out; have := hwl.out; omega) rfl rfl hlt c hc
      have hcell := hst j _ (HFG.out j hlt)
      rw [show fieldB o ((sh.take j).foldl upH 0) sh[j] = fieldB o ((sh.take j).foldl upH 0) c from congrArg _ hc] at hcell
      have hhc : c = 110 → (sh.take j).foldl upH 0 < 3 := fun e => HHEADS.out j hlt (hc.trans e)
      generalize (sh.take j).foldl upH 0 = hn at *
      generalize (readS o (sh.take j)).1 = y at *
      generalize wr.iterAt (br + 2) (bytesOf sh) (j + 1) = W8 at *
      have HRD := Lib.hid (rread_any o HO.out HCAN.out y hn c hokc hhc br (br + 1) hv 0 W8 hr hd h7 (by omega) (HT.out.frame hfr) (tabIs_frame HP.out hfr) (HE.out.frame hfr))
      have HLT : Hid (j + 1 ≤ sh.length) := hlt
      have HMES : Hid (sh.length - (j + 1) < sh.length - j) := by show _ < _; omega
      have HP0 := Lib.hid hp0
      have HSTEP := Lib.hid hstep
      have hj1 : j + 1 < sh.length + 1 := by omega
      have hml2 : sh.length ≤ 4 := hml
      clear hr hd h7 hst hfr hstep hhc hok hokc h128 hget hc hsz3 hp0 hI hlt
      go_wp2_with fail
      refine (HRD.out).mono ?_
      rintro e w5 hpost
      have hre := hpost.1
      subst hre
      obtain ⟨hI2, hc10⟩ := HSTEP.out w5 _ hpost
      have HI2 := Lib.hid hI2
      clear hI2 hpost hcell
      go_wp2
      go_roundw
      case rel => exact ⟨j + 1, HLT.out, HI2.out⟩
      case measure => rw [iterPos_of HI2.out.it, HP0.out]; exact HMES.out
    · obtain rfl : j = sh.length := by omega
      have hnx : ∀ ty, (Instr.next (.pointer (some ⟨br + 2, 0, none⟩)) true ty).run Tryz.prog wr = .ok (.tuple #[.bool false]) wr := fun ty => Lib.run_next_end_at wr _ _ _ ty hI.it (by rw [bytes_size]; omega)
      obtain ⟨hv, hr, _⟩ := hI.rd
      rw [List.take_length, HBACK.out] at hr
      have hbr := hI.res
      have hfr := hI.fr
      have HRG : Hid (wr.rangeAt br 0 o.cells) := fun i v hv' => by
        rw [Nat.zero_add]
        refine hr.cell i ?_
        have h9 : i < 9 := (List.getElem?_eq_some_iff.1 hv').1
        rw [← hv']
        show (o.cells ++ [hv, .int .i64 0])[i]? = o.cells[i]?
        exact List.getElem?_append_left h9
      have HT9 := Lib.hid (hbr.there 9 (by decide))
      have HB9 := Lib.hid (hbr.over (vs := o.cells) rfl)
      have HF9 := Lib.hid (Fr.setCells (.inr (Nat.le_refl _)) o.cells 0 hfr)
      have HONE := Lib.hid (ones9 o)
      have HS9 : Hid ((Tryz.prog.info? 32).map (·.size) = some 9) := by show _ = _; kernel_rfl
      clear hr hbr hfr hI hp0 hlt hj
      go_wp2_with (first | refine wpList_load_mid rfl 32 _ rfl br 0 rfl o.cells _ HRG.out Tryz.underlying32 rfl HS9.out ?_ | refine wpList_store_mid rfl 32 _ _ rfl w.heap.size 0 o.cells.toArray rfl rfl HT9.out HS9.out HONE.out ?_)
      refine bodyPost_ret (results_row_tmp rfl _ _ _ _ _ _ _ rfl HB9.out Tryz.underlying32 rfl HS9.out) rfl ?_
      exact ⟨rfl, HF9.out⟩
end Go.Proofs.YtlcgmniahdngdaaGreatDoor
