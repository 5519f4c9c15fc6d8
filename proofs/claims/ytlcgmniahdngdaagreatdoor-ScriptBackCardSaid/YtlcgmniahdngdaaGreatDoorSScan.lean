/- The walk of script.Read at the text of the law. -/
import Derived.Test.YtlcgmniahdngdaaGreatDoorSParse2
namespace Go.Proofs.YtlcgmniahdngdaaGreatDoor
open Go.RowKit Go.Great

def opCells (os : List OpR) : List Value := os.flatMap OpR.cells
theorem opCells_len : ∀ os : List OpR, (opCells os).length = os.length * 9
  | [] => rfl
  | o :: os => by
    show (o.cells ++ opCells os).length = _
    rw [List.length_append, opCells_len os, List.length_cons, show o.cells.length = 9 from rfl]
    omega
theorem opCells_at : ∀ (os : List OpR) (i : Nat) (o : OpR), os[i]? = some o → ∀ (j : Nat) (v : Value), o.cells[j]? = some v → (opCells os)[i * 9 + j]? = some v
  | x :: os, 0, o, h, j, v, hv => by
    cases h
    show (x.cells ++ opCells os)[0 * 9 + j]? = some v
    have h9 : j < 9 := (List.getElem?_eq_some_iff.1 hv).1
    rw [Nat.zero_mul, Nat.zero_add, List.getElem?_append_left h9]
    exact hv
  | x :: os, i + 1, o, h, j, v, hv => by
    show (x.cells ++ opCells os)[(i + 1) * 9 + j]? = some v
    rw [List.getElem?_append_right (by show 9 ≤ _; omega), show (i + 1) * 9 + j - x.cells.length = i * 9 + j by show _ - 9 = _; omega]
    exact opCells_at os i o h j v hv
theorem opCells_snoc (os : List OpR) (o : OpR) : opCells (os ++ [o]) = opCells os ++ o.cells := by unfold opCells; simp
theorem opsAt_of {w : World} {B : Nat} {v : Value} {os : List OpR} (h : w.ownsRow B 32 9 v os.length (opCells os)) : ∃ p cap, v = .slice p os.length cap ∧ OpsAt w p os := by
  rcases h.2 with ⟨rfl, h0⟩ | ⟨g, cap, cur, rfl, _, hg, _⟩
  · have : os = [] := List.eq_nil_of_length_eq_zero h0
    subst this
    exact ⟨none, 0, rfl, fun i o ho => by simp at ho⟩
  · refine ⟨some ⟨g, 0, none⟩, cap, rfl, fun i o ho => ⟨g, 0, rfl, (Array.getElem?_eq_some_iff.1 hg).1, fun j x hx => ?_⟩⟩
    have hc := h.cells (g := g) rfl (i * 9 + j) x (opCells_at os i o ho j x hx)
    have ha : (⟨g, 0, none⟩ : Addr).add (i * 9 + j) = ⟨g, 0 + i * 9 + j, none⟩ := by rw [Addr.add_mid, Nat.add_assoc]
    rw [ha] at hc
    exact hc
def linesO (rem : List UInt8) (os : List OpR) : List (List UInt8) := [] :: (32 :: 35 :: rem) :: (os.map lineB ++ [[9, 32]])
theorem linesO_len (rem : List UInt8) (os : List OpR) : (linesO rem os).length = os.length + 3 := by unfold linesO; simp
/-- What a line of the text is. -/
theorem line_kind (rem : List UInt8) (hr : rem.length ≤ 100) (os : List OpR) (ho : ∀ o ∈ os, o.Ok ∧ isK o.k = true) (i : Nat) (hi : i < os.length + 3) :
    ∃ l, (linesO rem os)[i]? = some l ∧ l.length ≤ 100000 ∧ ((fieldsR [] l = [] ∧ os.take (i + 1 - 2) = os.take (i - 2)) ∨ (∃ r ls, fieldsR [] l = (35 :: r) :: ls ∧ os.take (i + 1 - 2) = os.take (i - 2)) ∨
      (∃ o, o ∈ os ∧ l = lineB o ∧ os.take (i + 1 - 2) = os.take (i - 2) ++ [o])) := by
  match i, hi with
  | 0, _ => exact ⟨[], rfl, by simp, .inl ⟨rfl, rfl⟩⟩
  | 1, _ =>
    obtain ⟨r, ls, h⟩ := fields_remark rem
    exact ⟨32 :: 35 :: rem, rfl, by simp; omega, .inr (.inl ⟨r, ls, h, rfl⟩)⟩
  | i + 2, hi =>
    have e : (linesO rem os)[i + 2]? = (os.map lineB ++ [[9, 32]])[i]? := rfl
    by_cases hlt : i < os.length
    · obtain ⟨o, hoo⟩ : ∃ o, os[i]? = some o := ⟨_, List.getElem?_eq_getElem hlt⟩
      have hm := List.mem_of_getElem? hoo
      refine ⟨lineB o, ?_, Nat.le_trans (line_len o (ho o hm).1 (ho o hm).2) (by decide), .inr (.inr ⟨o, hm, rfl, ?_⟩)⟩
      · rw [e, List.getElem?_append_left (by rw [List.length_map]; exact hlt), List.getElem?_map, hoo]; rfl
      · rw [show i + 2 + 1 - 2 = i + 1 by omega, show i + 2 - 2 = i by omega, List.take_add_one, hoo]; rfl
    · refine ⟨[9, 32], ?_, by simp, .inl ⟨fields_end, ?_⟩⟩
      · rw [e, List.getElem?_append_right (by rw [List.length_map]; omega), List.length_map, show i - os.length = 0 by omega]; rfl
      · rw [List.take_of_length_le (by omega), List.take_of_length_le (by omega)]
def RsPost (w : World) (os : List OpR) (e : Ending) (w' : World) : Prop := ∃ p cap, e = .returned (.tuple #[.slice p os.length cap, .int .i64 0, .int .i64 0]) ∧ OpsAt w' p os ∧ Fr (fun _ => False) w w'
theorem info_op : (Tryz.prog.info? 32).map (fun i => (i.zero, i.size, i.bytes)) = some (some (.agg (zeroO 0).cells.toArray), 9, 72) := by kernel_rfl
set_option maxRecDepth 100000 in
set_option maxHeartbeats 3200000 in
theorem scan_any (rem : List UInt8) (hrl : rem.length ≤ 100) (hrn : ∀ c ∈ rem, c ≠ 10) (os : List OpR) (hos : ∀ o ∈ os, o.Ok ∧ goodO o = true ∧ canonF o.q = o.q) (hl : os.length ≤ 120) (w : World)
    (hT : TabD w) (hP : Lib.TabIs Tryz.prog w "internal/strconv.uint64pow10" .u64 Lib.pow10Tab) (hE : ErrW w) : Calls Tryz.prog 9 #[.string (bytesOf (allT rem os))] w (RsPost w os) := by
  have hk : ∀ o ∈ os, o.Ok ∧ isK o.k = true := fun o h => ⟨(hos o h).1, (Bool.and_eq_true_iff.1 (hos o h).2.1).1⟩
  have hlen : (allT rem os).length ≤ 100000 := by
    have := textO_len os (fun o h => ⟨(hos o h).1, (hos o h).2.1⟩)
    unfold textO at this
    unfold allT
    simp only [List.length_append, List.length_cons, List.length_nil]
    omega
  have HLN := Lib.hid (lines_any (allT rem os) hlen w)
  rw [all_lines rem hrn os (fun o h => (hk o h).2)] at HLN
  change Hid (Calls _ _ _ w (StrsPost w (linesO rem os))) at HLN
  have HKIND := Lib.hid (line_kind rem hrl os hk)
  have HOS := Lib.hid hos
  have HT := Lib.hid hT
  have HP := Lib.hid hP
  have HE := Lib.hid hE
  have HL := Lib.hid hl
  have hnl := linesO_len rem os
  unfold StrsPost at HLN
  generalize bytesOf (allT rem os) = S at *
  generalize linesO rem os = ls at *
  have HNL := Lib.hid hnl
  obtain ⟨i0, hi, hz0, hz1, hz2⟩ := info_parts info_op
  have HS9 : Hid ((Tryz.prog.info? 32).map (·.size) = some 9) := by show _ = _; kernel_rfl
  clear hlen hrl hrn hos hk hT hP hE hl hnl
  have HI0 := Lib.hid hi
  have HZ0 := Lib.hid hz0
  have HZ1 := Lib.hid hz1
  have HZ2 := Lib.hid hz2
  clear hi hz0 hz1 hz2
  go_enter Tryz.func9, Tryz.ntmps9
  go_wp2_with fail
  refine (HLN.out).mono ?_
  rintro e w1 ⟨v, rfl, hs, hf1⟩
  obtain ⟨p, cap, rfl, hcells⟩ := hs
  generalize hN : ls.length = N at *
  have HN := Lib.hid hN
  have HC := Lib.hid hcells
  have HF1 := Lib.hid hf1
  have hN200 : N ≤ 200 := by have := HNL.out; have := HL.out; omega
  clear hN hcells hf1
  go_upto_region 3 with fail
  go_loopw [5, 6, 7, 8, 9, 10, 14] (fun v5 _ _ _ _ _ v14 wr => ∃ i : Nat, i ≤ N ∧ v14 = .int .i64 (i : Int) ∧ wr.ownsRow w1.heap.size 32 9 v5 (os.take (i - 2)).length (opCells (os.take (i - 2))) ∧ Fr (fun _ => False) w1 wr) (fun _ _ _ _ _ _ v14 _ => N - (intOf v14).toNat)
  case atStart => exact ⟨0, Nat.zero_le _, rfl, by rw [show 0 - 2 = 0 from rfl, List.take_zero]; exact World.ownsRow_nil _ _ _ _, Fr.refl _ _⟩
  case round =>
    obtain ⟨i, hi, rfl, hown, hfr⟩ := hrel
    by_cases hlt : i < N
    · obtain ⟨l, hl, hll, hkind⟩ := HKIND.out i (by have := HNL.out; have := HN.out; omega)
      obtain ⟨b, off, rfl, hcell0⟩ := HC.out i l hl
      have hcell : wr.cell? ⟨b, off + i, none⟩ = some (.string (bytesOf l)) := (World.cell?_of_block (w := w1) (hfr.block b (cell_lt hcell0) (fun h => h))).trans hcell0
      have HFD := Lib.hid (fields_any l (by omega) wr)
      unfold StrsPost at HFD
      have HOWN := Lib.hid hown
      have HFR := Lib.hid hfr
      clear hown hfr hl hcell0
      rcases hkind with ⟨hk, htk⟩ | ⟨r, fs, hk, htk⟩ | ⟨o, hom, rfl, htk⟩
      · rw [hk] at HFD
        have HTK := Lib.hid htk
        clear hk htk hll
        generalize bytesOf l = L at *
        go_wp2_with fail
        refine (HFD.out).mono ?_
        rintro e w2 ⟨v, rfl, hs, hf2⟩
        obtain ⟨p2, cap2, rfl, _⟩ := hs
        have hf3 := HFR.out.then hf2
        have hown2 := ownsRow_frame HOWN.out hf2 (fun _ _ h => h)
        clear hcell hf2
        go_wp2
        go_roundw
        case rel => exact ⟨i + 1, hlt, by go_num, by rw [HTK.out]; exact hown2, hf3⟩
        case measure => simp [intOf]; omega
      · rw [hk] at HFD
        have HTK := Lib.hid htk
        clear hk htk hll
        generalize bytesOf l = L at *
        go_wp2_with fail
        refine (HFD.out).mono ?_
        rintro e w2 ⟨v, rfl, hs, hf2⟩
        obtain ⟨p2, cap2, rfl, hc2⟩ := hs
        obtain ⟨b2, off2, rfl, hcc⟩ := hc2 0 (35 :: r) rfl
        rw [Nat.add_zero] at hcc
        have hf3 := HFR.out.then hf2
        have hown2 := ownsRow_frame HOWN.out hf2 (fun _ _ h => h)
        have hsz : 0 < (bytesOf (35 :: r)).size := by rw [bytes_size, List.length_cons]; omega
        have hget : (bytesOf (35 :: r))[0] = 35 := rfl
        have hlen0 : (((((35 :: r) :: fs).length : Nat) : Int) == 0) = false := by rw [List.length_cons, beq_eq_false_iff_ne]; omega
        have hM : 0 < ((35 :: r) :: fs).length := by rw [List.length_cons]; omega
        generalize ((35 :: r) :: fs).length = M at *
        generalize hS2 : bytesOf (35 :: r) = S2 at *
        clear hcell hf2 hc2 hS2
        go_wp2
        go_roundw
        case rel => exact ⟨i + 1, hlt, by go_num, by rw [HTK.out]; exact hown2, hf3⟩
        case measure => simp [intOf]; omega
      · obtain ⟨hok, hgood, hcan⟩ := HOS.out o hom
        have hko := (Bool.and_eq_true_iff.1 hgood).1
        obtain ⟨c, r, hnm, hc35⟩ := name_first o.k hko
        have hlf := line_fields o hko
        rw [hlf] at HFD
        have HPA := Lib.hid (fun W h1 h2 h3 => sparse_any o hok hko (Bool.and_eq_true_iff.1 hgood).2 hcan (lineB o) hll hlf W h1 h2 h3)
        have HTK := Lib.hid htk
        have HNM := Lib.hid hnm
        have HC35 := Lib.hid hc35
        have HONE := Lib.hid (ones9 o)
        unfold PaPost at HPA
        clear hlf htk hll hok hgood hcan hko hom hnm hc35
        generalize bytesOf (lineB o) = L at *
        generalize fieldsO o 0 (shS o.k) = fs at *
        rw [HNM.out] at HFD
        go_wp2_with fail
        refine (HFD.out).mono ?_
        rintro e w2 ⟨v, rfl, hs, hf2⟩
        obtain ⟨p2, cap2, rfl, hc2⟩ := hs
        obtain ⟨b2, off2, rfl, hcc⟩ := hc2 0 (c :: r) rfl
        rw [Nat.add_zero] at hcc
        have hf3 := HFR.out.then hf2
        have hown2 := ownsRow_frame HOWN.out hf2 (fun _ _ h => h)
        have hsz : 0 < (bytesOf (c :: r)).size := by rw [bytes_size, List.length_cons]; omega
        have hget : (bytesOf (c :: r))[0] = c := rfl
        have hlen0 : (((((c :: r) :: fs).length : Nat) : Int) == 0) = false := by rw [List.length_cons, beq_eq_false_iff_ne]; omega
        have hM : 0 < ((c :: r) :: fs).length := by rw [List.length_cons]; omega
        have hc0 : ((c.toNat : Int) == 35) = false := by
          rw [beq_eq_false_iff_ne]; intro h
          exact HC35.out (UInt8.toNat_inj.1 (by rw [show (35 : UInt8).toNat = 35 from rfl]; omega))
        generalize ((c :: r) :: fs).length = M at *
        generalize hS2 : bytesOf (c :: r) = S2 at *
        have hff := HF1.out.then hf3
        have HPB := Lib.hid (HPA.out w2 (HT.out.frame hff) (tabIs_frame HP.out hff) (HE.out.frame hff))
        have HOWN2 := Lib.hid hown2
        have HF3 := Lib.hid hf3
        clear hcell hf2 hc2 hS2 HPA hown2 hf3 hff
        go_wp2_with fail
        refine (HPB.out).mono ?_
        rintro e w3 ⟨rfl, hf4⟩
        have HF4 := Lib.hid hf4
        clear hcc hf4 hget hlen0 hM hc0
        go_upto_region 8 with (refine wpList_store_row rfl 32 _ _ rfl w3.heap.size #[.int .i64 o.k, .int .i64 o.a, .int .i64 o.b, .int .i64 o.i, .int .i64 o.p, .int .i64 o.f, .int .i64 o.g, .int .u64 (o.x : Int), .float .f64 o.q] rfl rfl 32 _ (heap_alloc_new _ _) HS9.out rfl HONE.out ?_)
        generalize hW4 : (World.alloc w3 _).setRow w3.heap.size _ = W4
        have hb4 : Blk W4 w3.heap.size o.cells 32 := by rw [← hW4]; exact setRow_heap _ _ _ _ _ _ (heap_alloc_new w3 _)
        have hf5 : Fr (fun _ => False) w3 W4 := by
          rw [← hW4]
          exact ((Fr.refl _ w3).alloc _).trans (S' := fun i => i = w3.heap.size) ⟨rfl, rfl, rfl, by simp, fun i _ h => setRow_other _ _ _ _ (fun e => h e)⟩ (fun i h => .inr (by omega))
        clear hW4
        obtain ⟨p0, p1, p2, p3, p4, p5, p6, p7, p8⟩ := cells9 hb4
        have hf6 := (HF3.out.then HF4.out).then hf5
        have hown3 := ownsRow_frame (ownsRow_frame HOWN2.out HF4.out (fun _ _ h => h)) hf5 (fun _ _ h => h)
        have hown4 := ownsRow_frame hown3 ((Fr.refl (fun _ => False) W4).alloc (.cells #[.int .i64 o.k, .int .i64 o.a, .int .i64 o.b, .int .i64 o.i, .int .i64 o.p, .int .i64 o.f, .int .i64 o.g, .int .u64 (o.x : Int), .float .f64 o.q] 32)) (fun _ _ h => h)
        have hnew := Blk.new W4 o.cells 32
        have hnews : ∀ j u, o.cells[j]? = some u → (W4.alloc (.cells #[.int .i64 o.k, .int .i64 o.a, .int .i64 o.b, .int .i64 o.i, .int .i64 o.p, .int .i64 o.f, .int .i64 o.g, .int .u64 (o.x : Int), .float .f64 o.q] 32)).cell? ((⟨W4.heap.size, 0, none⟩ : Addr).add j) = some u := by
          intro j u hj
          have ha : (⟨W4.heap.size, 0, none⟩ : Addr).add j = ⟨W4.heap.size, j, none⟩ := by rw [Addr.add_mid, Nat.zero_add]
          rw [ha]
          exact hnew.cell j hj
        have hones : ∀ u ∈ o.cells, u.oneCell' = true := fun v hv => by
          unfold OpR.cells at hv; simp only [List.mem_cons, List.not_mem_nil, or_false] at hv; rcases hv with rfl | rfl | rfl | rfl | rfl | rfl | rfl | rfl | rfl <;> rfl
        have htl : (os.take (i - 2)).length ≤ 120 := by rw [List.length_take]; have := HL.out; omega
        have hmax : (os.take (i - 2)).length + 1 ≤ maxLen := by unfold maxLen; omega
        have hbts : ((os.take (i - 2)).length + 1) * 72 ≤ 140737488355328 := by omega
        have hbase : w1.heap.size ≤ (W4.alloc (.cells #[.int .i64 o.k, .int .i64 o.a, .int .i64 o.b, .int .i64 o.i, .int .i64 o.p, .int .i64 o.f, .int .i64 o.g, .int .u64 (o.x : Int), .float .f64 o.q] 32)).heap.size := by have := hf6.size; rw [World.size_alloc]; omega
        have HOWN4 := Lib.hid hown4
        have HNEWS := Lib.hid hnews
        have HONES := Lib.hid hones
        have HMAX := Lib.hid hmax
        have HBTS := Lib.hid hbts
        have HBASE := Lib.hid hbase
        have HF6 := Lib.hid hf6
        clear hb4 hf5 hf6 hown3 hown4 hnew hnews hones htl hmax hbts hbase
        generalize hnn : (os.take (i - 2)).length = n at *
        have HNN := Lib.hid hnn
        clear hnn
        go_wp2_with (at_builtin; refine Hid.out ?_)
        unfold Hid
        refine wpList_append_own _ rfl _ _ 22 rfl w1.heap.size 32 i0 (.agg (zeroO 0).cells.toArray) 9 72 Tryz.underlying22 HI0.out HZ0.out HZ1.out HZ2.out rfl (by decide) u5 n (opCells (os.take (i - 2))) rfl HOWN4.out ⟨W4.heap.size, 0, none⟩ 1 1 o.cells rfl rfl HNEWS.out HONES.out HMAX.out HBTS.out HBASE.out ?_
        intro v' w5 hown' hgrow hnil
        have hf7 : Fr (fun _ => False) w1 w5 := (HF6.out.alloc (.cells #[.int .i64 o.k, .int .i64 o.a, .int .i64 o.b, .int .i64 o.i, .int .i64 o.p, .int .i64 o.f, .int .i64 o.g, .int .u64 (o.x : Int), .float .f64 o.q] 32)).trans (Fr.of_grown hgrow) (fun j hj => .inr ((HOWN4.out.lt _ hj).1))
        have hX : w5.ownsRow w1.heap.size 32 9 v' (os.take (i + 1 - 2)).length (opCells (os.take (i + 1 - 2))) := by
          rw [HTK.out, opCells_snoc, List.length_append, HNN.out]
          exact hown'
        have HX := Lib.hid hX
        have HF7 := Lib.hid hf7
        clear hX hf7 hown' hgrow hnil p0 p1 p2 p3 p4 p5 p6 p7 p8
        go_wp2
        go_roundw
        case rel => exact ⟨i + 1, hlt, by go_num, HX.out, HF7.out⟩
        case measure => simp [intOf]; omega
    · obtain rfl : i = N := by omega
      have htk : os.take (i - 2) = os := List.take_of_length_le (by have := HNL.out; omega)
      rw [htk] at hown
      obtain ⟨p2, cap2, rfl, hops⟩ := opsAt_of hown
      have HOPS := Lib.hid hops
      have HFX := Lib.hid (HF1.out.then hfr)
      clear hown hfr htk hops
      go_wp2
      go_ret3
      exact ⟨p2, cap2, rfl, HOPS.out, HFX.out⟩
end Go.Proofs.YtlcgmniahdngdaaGreatDoor
