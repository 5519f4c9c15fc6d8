/- The walk of script.Put. -/
import Derived.Test.YtlcgmniahdngdaaGreatDoorSLine
namespace Go.Proofs.YtlcgmniahdngdaaGreatDoor
open Go.RowKit Go.Great

/-- A slice of operations that came in. -/
def OpsAt (w : World) (p : Option Addr) (os : List OpR) : Prop :=
  ∀ i o, os[i]? = some o → ∃ b off, p = some ⟨b, off, none⟩ ∧ b < w.heap.size ∧ w.rangeAt b (off + i * 9) o.cells
theorem OpsAt.frame {w w' : World} {p : Option Addr} {os : List OpR} (h : OpsAt w p os) (hf : Fr (fun _ => False) w w') : OpsAt w' p os := by
  intro i o ho
  obtain ⟨b, off, hp, hb, hr⟩ := h i o ho
  exact ⟨b, off, hp, Nat.lt_of_lt_of_le hb hf.size, fun j v hv => (World.cell?_of_block (w := w) (hf.block b hb (fun h => h))).trans (hr j v hv)⟩
def goodO (o : OpR) : Bool := isK o.k && rightS (shB o.k) o
/-- The text of operations. -/
def textO (os : List OpR) : List UInt8 := (os.map lineB).flatMap putL
theorem textO_snoc (os : List OpR) (o : OpR) : textO (os ++ [o]) = textO os ++ (lineB o ++ [10]) := by
  unfold textO; rw [List.map_append, List.flatMap_append]; simp [putL]
theorem textO_len (os : List OpR) (h : ∀ o ∈ os, o.Ok ∧ goodO o = true) : (textO os).length ≤ 301 * os.length := by
  induction os with
  | nil => simp [textO]
  | cons o os ih =>
    have h1 := h o List.mem_cons_self
    have h2 := line_len o h1.1 (Bool.and_eq_true_iff.1 h1.2).1
    have := ih (fun x hx => h x (List.mem_cons_of_mem _ hx))
    unfold textO at *
    rw [List.map_cons, List.flatMap_cons, List.length_append, putL, List.length_append, List.length_cons, List.length_cons, List.length_nil]
    omega
def putR (os : List OpR) : ByteArray × Int := if os.all goodO then (bytesOf (textO os), 0) else (⟨#[]⟩, 5)
def PutPost (w : World) (os : List OpR) (e : Ending) (w' : World) : Prop := e = .returned (.tuple #[.string (putR os).1, .int .i64 (putR os).2]) ∧ Fr (fun _ => False) w w'
theorem isBuilder_frame {T e : TypeId} {B b : Nat} {bs : List Value} {w w' : World} (h : Lib.IsBuilder T e B b bs w) (hf : Fr (fun _ => False) w w') : Lib.IsBuilder T e B b bs w' := by
  rcases h with ⟨hB, v, hb, ho, hn⟩ | ⟨hB, v, hb, ho, hn⟩
  · exact .inl ⟨hB, v, hf.heap hb (fun h => h), by
      obtain ⟨h1, h2⟩ := ho
      refine ⟨h1, ?_⟩
      rcases h2 with h2 | ⟨g, cap, cur, rfl, x1, x2, x3⟩
      · exact .inl h2
      · exact .inr ⟨g, cap, cur, rfl, x1, hf.heap x2 (fun h => h), x3⟩, hn⟩
  · exact .inr ⟨hB, v, hf.heap hb (fun h => h), by
      obtain ⟨h1, h2⟩ := ho
      refine ⟨h1, ?_⟩
      rcases h2 with h2 | ⟨g, cap, cur, rfl, x1, x2, x3⟩
      · exact .inl h2
      · exact .inr ⟨g, cap, cur, rfl, x1, hf.heap x2 (fun h => h), x3⟩, hn⟩
theorem Fr.thenBelow {a b c : World} (h : Fr (fun _ => False) a b) (k : Below a.heap.size b c) : Fr (fun _ => False) a c := by
  have hk : Below a.heap.size a c := h.below.trans k
  exact Fr.of_below hk
theorem bytes_nl (l : List UInt8) : bytesOf l ++ ({ data := #[10] } : ByteArray) = bytesOf (l ++ [10]) := bytes_app l [10]
set_option maxRecDepth 100000 in
set_option maxHeartbeats 1600000 in
theorem put_any (os : List OpR) (hos : ∀ o ∈ os, o.Ok) (hl : os.length ≤ 120) (p : Option Addr) (cap : Nat) (w : World) (hO : OpsAt w p os) (hT : TabD w) (hP : Lib.TabIs Tryz.prog w "internal/strconv.uint64pow10" .u64 Lib.pow10Tab) :
    Calls Tryz.prog 8 #[.slice p os.length cap] w (PutPost w os) := by
  have HOS := Lib.hid hos
  have HO := Lib.hid hO
  have HT := Lib.hid hT
  have HP := Lib.hid hP
  have HL := Lib.hid hl
  have HS9 : Hid ((Tryz.prog.info? 32).map (·.size) = some 9) := by show _ = _; kernel_rfl
  clear hos hO hT hP hl
  generalize hn : os.length = n at *
  have HN := Lib.hid hn
  clear hn
  go_enter Tryz.func8, Tryz.ntmps8
  go_upto_region 2 with fail
  have hB0 : Lib.IsBuilder 53 5 w.heap.size w.heap.size [] (w.alloc (.cells #[.pointer none, .slice none 0 0] 53)) :=
    .inl ⟨Nat.le_refl _, .slice none 0 0, Blk.new w [.pointer none, .slice none 0 0] 53, World.ownsRow_nil _ _ _ _, by simp [Value.ownBlock]⟩
  have hF0 : Fr (fun _ => False) w (w.alloc (.cells #[.pointer none, .slice none 0 0] 53)) := (Fr.refl _ w).alloc _
  generalize w.alloc (.cells #[.pointer none, .slice none 0 0] 53) = W0 at *
  have HB0 := Lib.hid hB0
  have HF0 := Lib.hid hF0
  clear hB0 hF0
  go_upto_region 3 with fail
  go_loopw [6, 7, 8, 11] (fun _ _ _ v11 wr => ∃ j : Nat, j ≤ n ∧ v11 = .int .i64 (j : Int) ∧ (∀ o ∈ os.take j, goodO o = true) ∧ Lib.IsBuilder 53 5 w.heap.size w.heap.size (Lib.byteCells (textO (os.take j))) wr ∧ Fr (fun _ => False) w wr) (fun _ _ _ v11 _ => n - (intOf v11).toNat)
  case atStart => exact ⟨0, Nat.zero_le _, rfl, (fun o h => by cases h), HB0.out, HF0.out⟩
  case round =>
    obtain ⟨j, hj, rfl, hgood, hbd, hfr⟩ := hrel
    have HFR := Lib.hid hfr
    have HBD := Lib.hid hbd
    have HGOOD := Lib.hid hgood
    clear hfr hbd hgood HB0 HF0
    by_cases hlt : j < n
    · have hj2 : j < os.length := by rw [HN.out]; exact hlt
      obtain ⟨o, ho⟩ : ∃ o, os[j]? = some o := ⟨_, List.getElem?_eq_getElem hj2⟩
      obtain ⟨b, off, rfl, hb, hr⟩ := (HO.out.frame HFR.out) j o ho
      have hok : o.Ok := HOS.out o (List.mem_of_getElem? ho)
      have htake : os.take (j + 1) = os.take j ++ [o] := by rw [List.take_add_one, ho]; rfl
      have HR := Lib.hid hr
      have HOK := Lib.hid hok
      have HTAKE := Lib.hid htake
      have HB := Lib.hid hb
      have HONE := Lib.hid (ones9 o)
      have HJL : Hid (os[j]? = some o) := ho
      clear hr hok htake hb ho hj2
      go_upto_region 5 with (first | refine wpList_load_mid rfl 32 _ rfl b (off + j * 9) rfl o.cells _ HR.out Tryz.underlying32 rfl HS9.out ?_ | refine wpList_store_row rfl 32 _ _ rfl wr.heap.size #[.int .i64 o.k, .int .i64 o.a, .int .i64 o.b, .int .i64 o.i, .int .i64 o.p, .int .i64 o.f, .int .i64 o.g, .int .u64 (o.x : Int), .float .f64 o.q] rfl rfl 32 _ (heap_alloc_new _ _) HS9.out rfl HONE.out ?_)
      generalize hW1 : (World.alloc wr _).setRow wr.heap.size _ = W1
      have hb1 : Blk W1 wr.heap.size o.cells 32 := by rw [← hW1]; exact setRow_heap _ _ _ _ _ _ (heap_alloc_new wr _)
      have hf1 : Fr (fun _ => False) wr W1 := by
        rw [← hW1]
        exact ((Fr.refl _ wr).alloc _).trans (S' := fun i => i = wr.heap.size) ⟨rfl, rfl, rfl, by simp, fun i _ h => setRow_other _ _ _ _ (fun e => h e)⟩ (fun i h => .inr (by omega))
      clear hW1
      obtain ⟨p0, p1, p2, p3, p4, p5, p6, p7, p8⟩ := cells9 hb1
      have HF1 := Lib.hid hf1
      clear hb1 hf1 HR HB HONE HO
      cases hgo : goodO o
      · have HLB := Lib.hid (line_bad o W1 hgo)
        unfold OpR.val at HLB
        have hall : os.all goodO = false := by
          rw [List.all_eq_false]
          exact ⟨o, List.mem_of_getElem? HJL.out, by rw [hgo]; decide⟩
        have HRES : Hid (∀ w', Fr (fun _ => False) w w' → PutPost w os (.returned (.tuple #[.string ⟨#[]⟩, .int .i64 5])) w') := fun w' h => ⟨by rw [putR, hall]; rfl, h⟩
        clear hgo hall
        go_wp2_with fail
        refine (HLB.out).mono ?_
        rintro e w2 ⟨rfl, hf2⟩
        have hf3 := (HFR.out.then HF1.out).then hf2
        clear p0 p1 p2 p3 p4 p5 p6 p7 p8
        go_wp2
        go_ret2
        exact HRES.out _ hf3
      · have hf01 := HFR.out.then HF1.out
        have HLB := Lib.hid (line_any o HOK.out W1 hgo (HT.out.frame hf01) (tabIs_frame HP.out hf01))
        unfold OpR.val at HLB
        have HGO := Lib.hid hgo
        clear hgo hf01
        go_wp2_with fail
        refine (HLB.out).mono ?_
        rintro e w2 ⟨rfl, hf2⟩
        have hf3 := (HFR.out.then HF1.out).then hf2
        have hbd := isBuilder_frame (isBuilder_frame HBD.out HF1.out) hf2
        have hgood2 : ∀ x ∈ os.take (j + 1), goodO x = true := by
          rw [HTAKE.out]
          intro x hx
          rcases List.mem_append.1 hx with h | h
          · exact HGOOD.out x h
          · rw [List.mem_singleton.1 h]; exact HGO.out
        have htl := textO_len (os.take j) (fun x hx => ⟨HOS.out x (List.mem_of_mem_take hx), HGOOD.out x hx⟩)
        have hll := line_len o HOK.out (Bool.and_eq_true_iff.1 HGO.out).1
        have HW := Lib.hid (Tryz.Builder_WriteString w.heap.size w.heap.size (Lib.byteCells (textO (os.take j))) (bytesOf (lineB o ++ [10])) w2 hbd (by
          rw [Lib.byteCells_length, bytes_size, List.length_append]
          rw [List.length_take] at htl
          have := HL.out
          simp only [List.length_cons, List.length_nil]
          omega) hf3.size)
        have hx : ∀ W, (Op.stringOp .add (bytesOf (lineB o)) ({ data := #[10] } : ByteArray)).run Tryz.prog W = .ok (.string (bytesOf (lineB o ++ [10]))) W := fun W => by
          rw [run_string_add_sum W _ _ (by rw [bytes_size, show ({ data := #[10] } : ByteArray).size = 1 from rfl]; omega), bytes_nl]
        have HG2 := Lib.hid hgood2
        have HF3 := Lib.hid hf3
        clear hgood2 htl hll hbd hf3 hf2 p0 p1 p2 p3 p4 p5 p6 p7 p8
        go_wp2_with fail
        refine (HW.out).mono ?_
        rintro e w3 ⟨rfl, hb3, hlow⟩
        have hf4 := HF3.out.thenBelow hlow
        have hb4 : Lib.IsBuilder 53 5 w.heap.size w.heap.size (Lib.byteCells (textO (os.take (j + 1)))) w3 := by
          rw [HTAKE.out, textO_snoc]
          have e : Lib.byteCells (textO (os.take j) ++ (lineB o ++ [10])) = Lib.byteCells (textO (os.take j)) ++ Lib.strCells (bytesOf (lineB o ++ [10])) := by
            unfold Lib.byteCells
            rw [List.map_append]
            rfl
          rw [e]
          exact .inr hb3
        have HF4 := Lib.hid hf4
        have HB4 := Lib.hid hb4
        clear hf4 hb4 hb3 hlow hx
        have hn120 : n ≤ 120 := HL.out
        go_wp2
        go_roundw
        case rel => exact ⟨j + 1, hlt, by go_num, HG2.out, HB4.out, HF4.out⟩
        case measure => simp [intOf]; omega
    · obtain rfl : j = n := by omega
      have htk : os.take j = os := by rw [← HN.out]; exact List.take_length
      have hall : os.all goodO = true := by
        rw [List.all_eq_true]
        intro x hx
        exact HGOOD.out x (by rw [htk]; exact hx)
      have hbd := HBD.out
      rw [htk] at hbd
      have HSS := Lib.hid (Tryz.Builder_String_any w.heap.size w.heap.size (textO os) wr hbd HFR.out.size)
      have HRES : Hid (∀ w', Fr (fun _ => False) w w' → PutPost w os (.returned (.tuple #[.string ⟨(textO os).toArray⟩, .int .i64 0])) w') := fun w' h => ⟨by rw [putR, hall]; rfl, h⟩
      clear hall hbd htk hlt hj
      go_wp2_with fail
      refine (HSS.out).mono ?_
      rintro e w3 ⟨rfl, hlow⟩
      have hf4 := HFR.out.thenBelow hlow
      clear hlow
      go_wp2
      go_ret2
      exact HRES.out _ hf4
end Go.Proofs.YtlcgmniahdngdaaGreatDoor
