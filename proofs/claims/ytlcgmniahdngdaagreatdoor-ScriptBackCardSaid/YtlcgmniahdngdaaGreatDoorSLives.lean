/- The walks of the law's example and of the document's Right at any operation. -/
import Derived.Test.YtlcgmniahdngdaaGreatDoorSScan
namespace Go.Proofs.YtlcgmniahdngdaaGreatDoor
open Go.RowKit Go.Great

def exO : OpR := ⟨7, 0, 0, 1, 0, 0, 0, 0, 9223372036854775808⟩
theorem ex_text : textF 9223372036854775808 = [45, 48, 112, 48] := by
  have h1 : kindF 9223372036854775808 = 0 := by decide
  have h0 : mantF 9223372036854775808 = 0 := by decide
  have h2 : oddF 9223372036854775808 = 0 := by unfold oddF; rw [h0, Nat.zero_div]
  have h3 : expF 9223372036854775808 = 0 := by unfold expF; rw [if_pos h0]
  unfold textF coreF
  rw [h1, h2, h3, dec_digB, itoa_itoB, if_neg (by decide), if_neg (by decide), if_pos (by decide), digB_small (by decide)]
  unfold itoB
  rw [if_neg (by decide), show (0 : Int).natAbs = 0 from rfl, digB_small (by decide)]
  rfl
theorem ito_small {n : Nat} (h : n < 10) : itoB (n : Int) = [charV n] := by
  unfold itoB
  rw [if_neg (by omega), Int.natAbs_natCast, digB_small h]
theorem ex_fields : fieldsR [] [115, 101, 116, 102, 32, 48, 32, 49, 32, 45, 48, 112, 48] = nmB exO.k :: fieldsO exO 0 (shS exO.k) := by
  have e : fieldsO exO 0 (shS exO.k) = [itoB ((0 : Nat) : Int), itoB ((1 : Nat) : Int), textF 9223372036854775808] := rfl
  rw [e, ex_text, ito_small (by decide), ito_small (by decide)]
  decide
theorem ex_ok : exO.Ok := ⟨⟨by decide, by decide⟩, ⟨by decide, by decide⟩, ⟨by decide, by decide⟩, ⟨by decide, by decide⟩, ⟨by decide, by decide⟩, ⟨by decide, by decide⟩, ⟨by decide, by decide⟩, by decide, by decide⟩
theorem ex_can : canonF exO.q = exO.q := canon_num (by decide)
theorem ex_bytes1 : ({ data := #[115, 101, 116, 102, 32, 48, 32, 49, 32, 45, 48, 112, 48] } : ByteArray) = bytesOf [115, 101, 116, 102, 32, 48, 32, 49, 32, 45, 48, 112, 48] := rfl
theorem ex_bytes2 : ({ data := #[103, 101, 116, 32, 48] } : ByteArray) = bytesOf [103, 101, 116, 32, 48] := rfl
def TruePost (w : World) (e : Ending) (w' : World) : Prop := e = .returned (.bool true) ∧ Fr (fun _ => False) w w'
set_option maxRecDepth 100000 in
set_option maxHeartbeats 800000 in
theorem slives_any (w : World) (hT : TabD w) (hP : Lib.TabIs Tryz.prog w "internal/strconv.uint64pow10" .u64 Lib.pow10Tab) (hE : ErrW w) : Calls Tryz.prog 4 #[] w (TruePost w) := by
  have H1 := Lib.hid (sparse_any exO ex_ok (by decide) (by decide) ex_can _ (by decide) ex_fields w hT hP hE)
  have H2 := Lib.hid (fun w => parse_short 4 (by decide) (by decide) [103, 101, 116, 32, 48] (by decide) [[48]] (by decide) (by decide) w)
  have HB := Lib.hid (fun w => bits_any 9223372036854775808 w)
  have HS9 : Hid ((Tryz.prog.info? 32).map (·.size) = some 9) := by show _ = _; kernel_rfl
  have HONE := Lib.hid (ones9 exO)
  have HONE0 := Lib.hid (ones9 (zeroO 0))
  rw [← ex_bytes1] at H1
  rw [← ex_bytes2] at H2
  unfold PaPost at H1
  unfold PsPost at H2
  clear hT hP hE
  go_enter Tryz.func4, Tryz.ntmps4
  go_wp2_with fail
  refine (H1.out).mono ?_
  rintro e w1 ⟨rfl, hf1⟩
  go_upto_region 2 with (refine wpList_store_row rfl 32 _ _ rfl w1.heap.size exO.cells.toArray rfl rfl 32 _ (heap_alloc_new _ _) HS9.out rfl HONE.out ?_)
  generalize hW4 : (World.alloc w1 _).setRow w1.heap.size _ = W4
  have hb4 : Blk W4 w1.heap.size exO.cells 32 := by rw [← hW4]; exact setRow_heap _ _ _ _ _ _ (heap_alloc_new w1 _)
  have hf5 : Fr (fun _ => False) w1 W4 := by
    rw [← hW4]
    exact ((Fr.refl _ w1).alloc _).trans (S' := fun i => i = w1.heap.size) ⟨rfl, rfl, rfl, by simp, fun i _ h => setRow_other _ _ _ _ (fun e => h e)⟩ (fun i h => .inr (by omega))
  clear hW4
  have hF := hf1.then hf5
  go_wp2_with fail
  refine (H2.out _).mono ?_
  rintro e w2 ⟨rfl, hf2⟩
  have hb5 := hb4.frame hf2 (fun h => h)
  have hF2 := hF.then hf2
  clear hb4 hF hf5 hf1 hf2
  go_upto_region 3 with (refine wpList_store_row rfl 32 _ _ rfl w2.heap.size (zeroO 0).cells.toArray rfl rfl 32 _ (heap_alloc_new _ _) HS9.out rfl HONE0.out ?_)
  generalize hW5 : (World.alloc w2 _).setRow w2.heap.size _ = W5
  have hf6 : Fr (fun _ => False) w2 W5 := by
    rw [← hW5]
    exact ((Fr.refl _ w2).alloc _).trans (S' := fun i => i = w2.heap.size) ⟨rfl, rfl, rfl, by simp, fun i _ h => setRow_other _ _ _ _ (fun e => h e)⟩ (fun i h => .inr (by omega))
  clear hW5
  have hb6 := hb5.frame hf6 (fun h => h)
  have hF3 := hF2.then hf6
  clear hb5 hF2 hf6
  have c0 := hb6.cell 0 rfl
  have c3 := hb6.cell 3 rfl
  have c8 := hb6.cell 8 rfl
  change W5.cell? _ = some (.int .i64 7) at c0
  change W5.cell? _ = some (.int .i64 1) at c3
  change W5.cell? _ = some (.float .f64 9223372036854775808) at c8
  clear hb6
  go_wp2_with fail
  refine (HB.out _).mono ?_
  rintro e w' ⟨rfl, rfl⟩
  go_wp2
  go_ret
  exact ⟨rfl, hF3⟩
theorem right_bad (o : OpR) (hk : isK o.k = false) (w : World) : Calls Tryz.prog 6 #[o.rval] w (RtPost w false) := by
  have HSH := Lib.hid (rshape_any o.k)
  unfold ShEq at HSH
  rw [hk] at HSH
  unfold OpR.rval
  clear hk
  generalize bytesOf (shB o.k) = S at *
  go_enter Tryz.func6, Tryz.ntmps6
  go_wp2_with fail
  refine (HSH.out _).mono ?_
  rintro e w1 ⟨rfl, rfl⟩
  go_wp2
  go_ret
  exact ⟨rfl, (Fr.refl _ w).alloc _⟩
end Go.Proofs.YtlcgmniahdngdaaGreatDoor
