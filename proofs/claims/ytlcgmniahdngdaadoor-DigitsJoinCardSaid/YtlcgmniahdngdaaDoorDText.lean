/- The walk of strconv.FormatUint to the base 10. -/
import Derived.Test.YtlcgmniahdngdaaDoorDDig
import Derived.Test.YtlcgmniahdngdaaDoorShelf
import Derived.Lib.AppendIntMem
namespace Go.Proofs.YtlcgmniahdngdaaDoor
open Go.RowKit Go.Sort

theorem Fr.of_grow (w : World) (k : Nat) (os : Array Obj) : Fr (fun _ => False) w (grow (w.drewN k) os) :=
  ⟨rfl, rfl, rfl, by show w.heap.size ≤ (w.heap ++ os).size; simp, fun g hg _ => Lib.heap_grow_old w k os g hg⟩
theorem Fr.then {a b c : World} (h : Fr (fun _ => False) a b) (k : Fr (fun _ => False) b c) : Fr (fun _ => False) a c := h.trans k (fun _ h => h.elim)
theorem tabIs_frame {P : Program} {w w' : World} {name : String} {k : IntKind} {zs : List Int} (h : Lib.TabIs P w name k zs) (hf : Fr (fun _ => False) w w') : Lib.TabIs P w' name k zs := by
  unfold Lib.TabIs World.var? at *
  cases hg : P.globalNamed name with
  | none => simp [hg] at h
  | some g =>
    simp only [hg, Option.bind_some] at h ⊢
    have hlt : g < w.heap.size := by
      by_cases hb : g < w.heap.size
      · exact hb
      · rw [Array.getElem?_eq_none (by omega)] at h; cases h
    rw [hf.block g hlt (fun h => h)]
    exact h

def SPost (w : World) (s : ByteArray) (e : Ending) (w' : World) : Prop := e = .returned (.string s) ∧ Fr (fun _ => False) w w'
set_option maxRecDepth 100000 in
set_option maxHeartbeats 3200000 in
theorem ifmt_uint (u : Nat) (hu : u < 18446744073709551616) (w : World) (htab : Lib.TabIs Tryd.prog w "internal/strconv.uint64pow10" .u64 Lib.pow10Tab) :
    Calls Tryd.prog 41 #[.int .u64 (u : Int), .int .i64 10] w (SPost w ⟨(Lib.decDigits u).toArray⟩) := by
  by_cases hs : u < 100
  · have HS := Lib.hid (Tryd.internal_strconv_small u hs)
    have hi : (u : Int) < 100 := by omega
    clear htab hu
    go_enter Tryd.func41, Tryd.ntmps41
    go_wp2_with fail
    refine (HS.out w).mono ?_
    rintro e w' ⟨rfl, rfl⟩
    go_wp2
    go_ret
    exact ⟨rfl, Fr.refl _ w'⟩
  · have hu1 : 1 ≤ u := by omega
    have hi : (100 : Int) ≤ u := by omega
    have hd : decide (u < 100) = false := by rw [decide_eq_false_iff_not]; omega
    have hnd20 : Lib.nDigits u ≤ 20 := by have := Lib.numDigits_eq u hu1 hu; split at this <;> omega
    have hal : Tryd.prog.arrayLen 76 = 24 := by kernel_rfl
    have hsl : ∀ W, (Instr.sliceAt 76 (.pointer (some ⟨w.heap.size, 0, none⟩)) none (some (.int .i64 (Lib.nDigits u : Int))) none).run Tryd.prog W = .ok (.slice (some ⟨w.heap.size, 0, none⟩) (Lib.nDigits u) 24) W := fun W => by
      rw [run_sliceAt_array_h (P := Tryd.prog) W 76 ⟨w.heap.size, 0, none⟩ (by simp [Program.arrayLen, Program.elem, Tryd.underlying76]) .i64 (Lib.nDigits u : Int) (by omega) (by rw [hal]; omega)]
      go_simp
    have hH0 := Lib.holds_zero0 w 76 (Lib.nDigits u) (by omega)
    have hfmt := Tryd.internal_strconv_formatBase10 w.heap.size 0 24 u (Array.replicate (Lib.nDigits u) 0) (w.alloc (.cells Lib.zeros24 76)) hH0 (by rw [Array.size_replicate]; exact Lib.lt_pow_nDigits u) hu (by rw [Array.size_replicate]; omega)
    rw [Array.size_replicate] at hfmt
    have HH0 := Lib.hid hH0
    have HF := Lib.hid hfmt
    have HT := Lib.hid (Lib.tabIs_alloc htab (.cells Lib.zeros24 76))
    have HN := Lib.hid (Tryd.internal_strconv_numDigits u hu1 hu _ HT.out)
    have HND := Lib.hid hnd20
    clear hH0 hal hfmt htab hu1 hu
    go_enter Tryd.func41, Tryd.ntmps41
    go_wp2_with fail
    refine (HN.out).mono ?_
    rintro e w' ⟨rfl, rfl⟩
    go_wp2_with fail
    refine (HF.out).mono ?_
    rintro e w' ⟨rfl, k, v', dk, rfl, hF⟩
    have hcv : (convert 72 9 (.slice (some ⟨w.heap.size, 0, none⟩) (Lib.nDigits u) 24)).run Tryd.prog ((putRow (fun (b : UInt8) => Value.int .u8 (b.toNat : Int)) (w.alloc (.cells Lib.zeros24 76)) w.heap.size 0 dk).drewN k) = .ok (.string ⟨(Lib.decDigits u).toArray⟩) ((putRow (fun (b : UInt8) => Value.int .u8 (b.toNat : Int)) (w.alloc (.cells Lib.zeros24 76)) w.heap.size 0 dk).drewN k) := by
      have h := run_convert_bytes_back (P := Tryd.prog) ((putRow (fun (b : UInt8) => Value.int .u8 (b.toNat : Int)) (w.alloc (.cells Lib.zeros24 76)) w.heap.size 0 dk).drewN k) 72 9 5 ⟨w.heap.size, 0, none⟩ 24 (Lib.decDigits u) Tryd.underlying72 Tryd.underlying5 Tryd.underlying9 (fun j hj => by
        rw [Lib.row_is_numeral hF j hj, Lib.add_plain, World.cell?_drewN]
        exact cell?_putRow (fun (b : UInt8) => Value.int .u8 (b.toNat : Int)) _ w.heap.size 0 _ dk HH0.out (by rw [hF.size, Array.size_replicate]) j (by rw [hF.size]; rw [Lib.decDigits_length] at hj; exact hj))
      rw [Lib.decDigits_length] at h
      exact h
    have hfin := Lib.fin_at w (.cells Lib.zeros24 76) dk k 0
    have HFIN := Lib.hid hfin
    clear hfin hF
    go_wp2
    go_ret
    obtain ⟨os, eo⟩ := HFIN.out
    exact ⟨rfl, eo ▸ Fr.of_grow w k os⟩

set_option maxRecDepth 100000 in
theorem fmt_uint (u : Nat) (hu : u < 18446744073709551616) (w : World) (htab : Lib.TabIs Tryd.prog w "internal/strconv.uint64pow10" .u64 Lib.pow10Tab) :
    Calls Tryd.prog 29 #[.int .u64 (u : Int), .int .i64 10] w (SPost w ⟨(Lib.decDigits u).toArray⟩) := by
  have H := Lib.hid (ifmt_uint u hu w htab)
  generalize (⟨(Lib.decDigits u).toArray⟩ : ByteArray) = s at *
  clear htab hu
  go_enter Tryd.func29, Tryd.ntmps29
  go_wp2_with fail
  refine (H.out).mono ?_
  rintro e w' ⟨rfl, hf⟩
  have HF := Lib.hid hf
  clear hf
  go_wp2
  go_ret
  exact ⟨rfl, HF.out⟩
end Go.Proofs.YtlcgmniahdngdaaDoor
