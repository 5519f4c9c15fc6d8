/- The walk of script.Parse. -/
import Derived.Test.YtlcgmniahdngdaaGreatDoorSRead
namespace Go.Proofs.YtlcgmniahdngdaaGreatDoor
open Go.RowKit Go.Great

theorem takeA {P : Program} {ops : Array Oper} {md : Region.Mode} {Q : Exit → Act → World → Prop} {i : Nat} {d : Tmp} {oi : Oper} {v : Value} {fuel : Nat} {listed : Array Bool} {a : Act} {w : World} (hi : ops[i]? = some oi) (hd : oi.dst = some d)
    (hs : Region.noSelect ops = true) (hf : Region.free md ops listed i = true) (hr : (Region.ready md ops listed).contains i = true)
    (hQ : ∀ c a w, Q (.panic c) (a.put (some d) v) w → Q (.panic c) a w) (hy : Yields P ops oi v a)
    (h : wpAny P md ops Q fuel (listed.setIfInBounds i true) (a.put (some d) v) w) : wpAny P md ops Q (fuel + 1) listed a w :=
  wpAny_take hi hs hf hr (by rw [hd]; exact hQ) hy (by rw [hd]; exact h)
def zeroO (k : Int) : OpR := ⟨k, 0, 0, 0, 0, 0, 0, 0, 0⟩
def PsPost (w : World) (e : Ending) (w' : World) : Prop := e = .returned (.tuple #[.agg (zeroO 0).cells.toArray, .int .i64 23]) ∧ Fr (fun _ => False) w w'
theorem idx2 (s1 s2 : ByteArray) (w : World) : (Instr.index 63 (.agg #[.string s1, .string s2]) (.int .i64 1)).run Tryz.prog w = .ok (.string s2) w := by kernel_rfl
set_option maxRecDepth 100000 in
set_option maxHeartbeats 1600000 in
theorem parse_short (k : Nat) (h1 : 1 ≤ k) (h2 : k ≤ 17) (L : List UInt8) (hl : L.length ≤ 100000) (fs : List (List UInt8)) (hf : fieldsR [] L = nmB (k : Int) :: fs) (hn : fs.length ≠ (shS (k : Int)).length) (w : World) :
    Calls Tryz.prog 11 #[.string (bytesOf L)] w (PsPost w) := by
  have HFD := Lib.hid (fun w => fields_any L (by omega) w)
  rw [hf] at HFD
  have hfl : fs.length ≤ 100000 := by
    have := fieldsR_len L []
    rw [hf, List.length_cons, List.length_nil] at this
    omega
  have HKD := Lib.hid (fun w => skind_any k h1 h2 w)
  have HN := Lib.hid names_any
  unfold NmPost at HN
  have HIX := Lib.hid (nm_index k (by omega))
  have hi2 := idx2 (bytesOf (nmB (k : Int))) (bytesOf (shS (k : Int)))
  have hm : (bytesOf (shS (k : Int))).size = (shS (k : Int)).length := bytes_size _
  have hml : (shS (k : Int)).length ≤ 4 := shS_len _ (by unfold isK; exact decide_eq_true (by omega))
  unfold KiPost at HKD
  unfold StrsPost at HFD
  generalize nmCells.toArray = NM at *
  generalize bytesOf L = S at *
  generalize nmB (k : Int) = nm at *
  generalize hS1 : bytesOf nm = S1 at *
  generalize bytesOf (shS (k : Int)) = S2 at *
  generalize (shS (k : Int)).length = m at *
  have HS1 := Lib.hid hS1
  have HI2 := Lib.hid hi2
  have hk0 : ((k : Int) == 0) = false := by rw [beq_eq_false_iff_ne]; omega
  clear hi2 hf hl hS1
  go_enter Tryz.func11, Tryz.ntmps11
  go_upto_region 1 with fail
  generalize hW0 : World.alloc w _ = W0
  have hbR : Blk W0 w.heap.size (zeroO 0).cells 32 := by rw [← hW0]; exact Blk.new w (zeroO 0).cells 32
  have hF0 : Fr (fun _ => False) w W0 := by rw [← hW0]; exact (Fr.refl _ w).alloc _
  clear hW0
  go_wp2_with fail
  refine (HFD.out _).mono ?_
  rintro e w1 ⟨v, rfl, hs, hf1⟩
  obtain ⟨p, cap, rfl, hcells⟩ := hs
  obtain ⟨b, off, rfl, hc0⟩ := hcells 0 nm rfl
  rw [HS1.out, Nat.add_zero] at hc0
  have hb1 := hbR.frame hf1 (fun h => h)
  have hF1 := hF0.then hf1
  have HCL := Lib.hid hcells
  clear hcells hbR hF0 hf1
  go_wp2_with fail
  generalize hnl : fs.length = n at *
  have HNL := Lib.hid hnl
  clear hnl
  refine (HKD.out _).mono ?_
  rintro e w2 ⟨rfl, hf2⟩
  have hb2 := hb1.frame hf2 (fun h => h)
  have hF2 := hF1.then hf2
  clear hc0 hb1 hF1 hf2
  go_wp2_with fail
  refine (HN.out _).mono ?_
  rintro e w3 ⟨rfl, hf3⟩
  have hb3 := hb2.frame hf3 (fun h => h)
  have hF3 := hF2.then hf3
  have hix := HIX.out
  have hi2 := HI2.out
  clear hb2 hF2 hf3
  go_upto_region 6 with fail
  clear hix hi2
  have HFL := Lib.hid hfl
  have HNE := Lib.hid hn
  have hne : (((n : Int) + 1) != ((m : Int) + 1)) = true := by rw [bne_iff_ne]; omega
  have hne2 : ((n : Int) != (m : Int)) = true := by rw [bne_iff_ne]; omega
  have hne3 : ((n : Int) == (m : Int)) = false := by rw [beq_eq_false_iff_ne]; omega
  have hne4 : (n == m) = false := by rw [beq_eq_false_iff_ne]; omega
  have hne5 : ¬ ((n : Int) = (m : Int)) := by omega
  clear hfl hn h1 h2
  have HB3 := Lib.hid hb3
  have HF3 := Lib.hid hF3
  have HS9 : Hid ((Tryz.prog.info? 32).map (·.size) = some 9) := by show _ = _; kernel_rfl
  have hb4 : Blk (w3.setCells w.heap.size 0 (zeroO 0).cells) w.heap.size (zeroO 0).cells 32 := hb3.over rfl
  have hf4 : Fr (fun _ => False) w (w3.setCells w.heap.size 0 (zeroO 0).cells) := Fr.setCells (.inr (Nat.le_refl _)) _ _ hF3
  have HB4 := Lib.hid hb4
  have HF4 := Lib.hid hf4
  have HT9 := Lib.hid (hb3.there 9 (by decide))
  have HONE := Lib.hid (ones9 (zeroO 0))
  clear hb3 hF3 hb4 hf4
  go_wp2_with (refine wpList_store_mid rfl 32 _ _ rfl w.heap.size 0 (zeroO 0).cells.toArray rfl rfl HT9.out HS9.out HONE.out ?_)
  exact bodyPost_ret (results_row_tmp rfl _ _ _ _ _ _ _ rfl HB4.out Tryz.underlying32 rfl HS9.out) rfl ⟨rfl, HF4.out⟩
end Go.Proofs.YtlcgmniahdngdaaGreatDoor
