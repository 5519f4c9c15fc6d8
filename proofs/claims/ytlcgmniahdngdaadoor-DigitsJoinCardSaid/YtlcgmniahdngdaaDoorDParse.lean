/- The walks of strconv.ParseUint to the bases 10 and 16. -/
import Derived.Test.YtlcgmniahdngdaaDoorDHex
import Derived.Test.YtlcgmniahdngdaaDoorRows
import Derived.Lib.AtoiErrMem
import Derived.Stop.LaidErr
import Derived.LaidMore
import Derived.Lib.LaidTab
import Derived.LaidSub
import Derived.ProofKit
namespace Go.Proofs.YtlcgmniahdngdaaDoor
open Go.RowKit

/-- strconv's two errors are there. -/
def ErrW (w : World) : Prop := (∃ t p, w.cell? ⟨0, 0, none⟩ = some (.iface t p)) ∧ ∃ t p, w.cell? ⟨1, 0, none⟩ = some (.iface t p)
theorem ErrW.frame {w w' : World} (h : ErrW w) (hf : Fr (fun _ => False) w w') : ErrW w' := by
  obtain ⟨⟨t, p, h1⟩, ⟨u, q, h2⟩⟩ := h
  exact ⟨⟨t, p, (World.cell?_of_block (w := w) (hf.block _ (cell_lt h1) (fun h => h))).trans h1⟩, ⟨u, q, (World.cell?_of_block (w := w) (hf.block _ (cell_lt h2) (fun h => h))).trans h2⟩⟩

/-- How a parse ends: a number and no error, or an error. -/
def ParsePost (w : World) (k : IntKind) (r : Option Int) (e : Ending) (w' : World) : Prop :=
  Fr (fun _ => False) w w' ∧ match r with
    | some m => e = .returned (.tuple #[.int k m, .nilIface])
    | none => ∃ m t p, e = .returned (.tuple #[.int k m, .iface t (.pointer (some p))])
def puN (l : List UInt8) : Option Int := match Lib.parseUintB 64 l with | .ok u => some u | _ => none
theorem parse_any (l : List UInt8) (hs : l.length ≤ 2000) (w : World) (hE : ErrW w) : Calls Tryd.prog 26 #[.string (bytesOf l), .int .i64 10, .int .i64 64] w (ParsePost w .u64 (puN l)) := by
  have hz : (bytesOf l).size ≤ 2000 := by rw [bytes_size]; exact hs
  obtain ⟨⟨t, p, h1⟩, ⟨u, q, h2⟩⟩ := hE
  unfold puN
  cases h : Lib.parseUintB 64 l
  · rename_i u
    refine (Tryd.strconv_ParseUint_10_at64_ok (bytesOf l) (by omega) u h w).mono ?_
    rintro e w' ⟨rfl, hw⟩
    refine ⟨?_, rfl⟩
    rcases hw with rfl | rfl
    · exact Fr.refl _ _
    · exact Fr.of_below (Lib.bytesWorld_below _ _ _)
  · refine (Any.strconv_ParseUint_10_at64_syntax Tryd.laysPu14 (bytesOf l) (by omega) h _ w h1 (.inr ⟨_, _, rfl⟩)).mono ?_
    rintro e w' ⟨N, rfl, _, _, hb⟩
    exact ⟨Fr.of_below hb, _, _, _, rfl⟩
  · refine (Tryd.strconv_ParseUint_10_at64_range (bytesOf l) (by omega) h _ w h2 (.inr ⟨_, _, rfl⟩)).mono ?_
    rintro e w' ⟨N, rfl, _, _, hb⟩
    exact ⟨Fr.of_below hb, _, _, _, rfl⟩

theorem pu_val {l : List UInt8} (h0 : l ≠ []) (hd : ∀ c ∈ l, digV c < 10) : puN l = if valB 10 0 l < 18446744073709551616 then some (valB 10 0 l : Int) else none := by
  unfold puN
  rw [Lib.parseUintB_64, Lib.parseMag, if_neg h0, parse_val l 0 hd (by decide)]
  by_cases h : valB 10 0 l < 18446744073709551616
  · rw [if_pos h, if_pos h]
  · rw [if_neg h, if_neg h]

theorem or32 : ∀ c : UInt8, 97 ≤ c.toNat → c.toNat ≤ 102 → bits .or .u8 (c.toNat : Int) 32 = (c.toNat : Int) := by
  intro c h1 h2
  have h : ∀ d : Nat, d < 6 → bits .or .u8 ((97 + d : Nat) : Int) 32 = ((97 + d : Nat) : Int) := by decide
  have := h (c.toNat - 97) (by omega)
  rwa [show 97 + (c.toNat - 97) = c.toNat by omega] at this

def P16Res (l : List UInt8) : Value := if valB 16 0 l < 18446744073709551616 then .tuple #[.int .u64 (valB 16 0 l : Int), .nilIface] else .tuple #[.int .u64 18446744073709551615, .iface 69 (.int .i64 1)]
set_option maxHeartbeats 3200000 in
set_option maxRecDepth 100000 in
theorem iparse16 (l : List UInt8) (h0 : l ≠ []) (hd : ∀ c ∈ l, digV c < 16) (hs : l.length ≤ 2000) (w : World) :
    Calls Tryd.prog 37 #[.string (bytesOf l), .int .i64 16, .int .i64 64] w fun e w' => e = .returned (P16Res l) ∧ w' = Lib.bytesWorld w 5 (bytesOf l) := by
  have hsz : (bytesOf l).size = l.length := bytes_size l
  have hemp : (bytesOf l).toList.isEmpty = false := by
    rw [bytes_toList]
    cases l with
    | nil => exact absurd rfl h0
    | cons c l => rfl
  have hcv := Lib.run_convert_string_bytes (P := Tryd.prog) w 9 72 5 (bytesOf l) (u := .string) Tryd.underlying9 Tryd.underlying72 Tryd.underlying5
  have hB : ∀ j, j < l.length → (Lib.bytesWorld w 5 (bytesOf l)).cell? ⟨w.heap.size, j, none⟩ = some (.int .u8 (l.getD j 0).toNat) := fun j hj => Lib.bytesWorld_cell w 5 (bytesOf l) j (by omega)
  rw [hsz] at hcv
  obtain ⟨W1, hW1⟩ : ∃ W1, W1 = Lib.bytesWorld w 5 (bytesOf l) := ⟨_, rfl⟩
  rw [← hW1] at hcv hB ⊢
  clear hW1
  have HLOW := Lib.hid Tryd.internal_strconv_lower
  have HD := Lib.hid hd
  obtain ⟨S, hS⟩ : ∃ S, bytesOf l = S := ⟨_, rfl⟩
  rw [hS] at hcv hemp hsz ⊢
  clear hS hd
  have hmv : IntKind.u64.wrap (IntKind.u64.wrap 18446744073709551616 - 1) = 18446744073709551615 := by
    rw [IntKind.wrap_u64, IntKind.wrap_u64]
    decide
  go_enter Tryd.func37, Tryd.ntmps37
  go_wp2
  go_loop [12, 13, 101] (fun vu vn vi => ∃ (k acc : Nat) (a : Int), vu = .bool false ∧ vn = .int .u64 a ∧ vi = .int .i64 k ∧ k ≤ l.length ∧ Hid (a = (acc : Int) ∧ acc < 18446744073709551616 ∧ valB 16 0 l = valB 16 acc (l.drop k)))
    (fun _ _ vi => l.length - (intOf vi).toNat)
  case atStart => exact ⟨0, 0, 0, rfl, rfl, rfl, by omega, rfl, by omega, rfl⟩
  case round =>
    obtain ⟨k, acc, a, rfl, rfl, rfl, hk, hh⟩ := hrel
    obtain ⟨ha, hacc, hdec⟩ := hh.out
    clear hh
    have a0 : 0 ≤ a := by omega
    have a1 : a < 18446744073709551616 := by omega
    by_cases hkn : k < l.length
    · have hc := hB k hkn
      have hdrop : l.drop k = l[k] :: l.drop (k + 1) := List.drop_eq_getElem_cons hkn
      have hget : l.getD k 0 = l[k] := by simp [List.getD, List.getElem?_eq_getElem hkn]
      have hdg := HD.out l[k] (List.getElem_mem hkn)
      rw [hdrop, valB_cons] at hdec
      rw [hget] at hc
      generalize l[k] = c at hc hdec hdg
      have hc256 : c.toNat < 256 := c.toNat_lt
      have HLE := Lib.hid (le_valB 16 (by decide) (l.drop (k + 1)) (acc * 16 + digV c))
      clear hB hdrop hget
      by_cases hcut : 1152921504606846976 ≤ acc
      · have HF : Hid (¬ valB 16 0 l < 18446744073709551616) := by have := HLE.out; show ¬ _ < _; omega
        have icut : 1152921504606846976 ≤ a := by omega
        by_cases hdig : 48 ≤ c.toNat ∧ c.toNat ≤ 57
        · obtain ⟨hd0, hd1⟩ := hdig
          clear hcut hacc ha hdg hdec
          go_wp2
          go_ret2
          exact ⟨by unfold P16Res; rw [if_neg HF.out]; rfl, rfl⟩
        · have hlo : 97 ≤ c.toNat ∧ c.toNat ≤ 102 := by
            unfold digV at hdg
            rw [if_neg hdig] at hdg
            split at hdg
            · rename_i h; exact h
            · omega
          obtain ⟨hd0, hd1⟩ := hlo
          have ho := or32 c hd0 hd1
          have hl1 := HLOW.out (c.toNat : Int)
          rw [ho] at hl1
          have HL1 := Lib.hid hl1
          clear hcut hacc ha hdg hdec hl1 ho hdig
          go_wp2_with fail
          refine (HL1.out _).mono ?_
          rintro e w' ⟨rfl, rfl⟩
          go_wp2_with fail
          refine (HL1.out _).mono ?_
          rintro e w' ⟨rfl, rfl⟩
          go_wp2_with fail
          refine (HL1.out _).mono ?_
          rintro e w' ⟨rfl, rfl⟩
          go_wp2
          go_ret2
          exact ⟨by unfold P16Res; rw [if_neg HF.out]; rfl, rfl⟩
      · have HY : Hid (a * 16 + (digV c : Int) = ((acc * 16 + digV c : Nat) : Int) ∧ acc * 16 + digV c < 18446744073709551616 ∧ valB 16 0 l = valB 16 (acc * 16 + digV c) (l.drop (k + 1))) := ⟨by omega, by omega, hdec⟩
        have icut : a < 1152921504606846976 := by omega
        by_cases hdig : 48 ≤ c.toNat ∧ c.toNat ≤ 57
        · have hdv : digV c = c.toNat - 48 := by unfold digV; rw [if_pos hdig]
          obtain ⟨hd0, hd1⟩ := hdig
          have HV := Lib.hid hdv
          have iov : a * 16 + ((c.toNat : Int) - 48) < 18446744073709551616 := by omega
          clear hcut hacc ha hdg hdec hdv
          go_wp2
          refine ⟨⟨k + 1, acc * 16 + digV c, a * 16 + (digV c : Int), rfl, ?_, (by first | rfl | (congr 1; omega)), by omega, HY⟩, by simp [intOf]; omega⟩
          congr 1
          have := HV.out
          omega
        · have hlo : 97 ≤ c.toNat ∧ c.toNat ≤ 102 := by
            unfold digV at hdg
            rw [if_neg hdig] at hdg
            split at hdg
            · rename_i h; exact h
            · omega
          have hdv : digV c = c.toNat - 87 := by unfold digV; rw [if_neg hdig, if_pos hlo]
          obtain ⟨hd0, hd1⟩ := hlo
          have ho := or32 c hd0 hd1
          have hl1 := HLOW.out (c.toNat : Int)
          rw [ho] at hl1
          have HL1 := Lib.hid hl1
          have HV := Lib.hid hdv
          have iov : a * 16 + ((c.toNat : Int) - 87) < 18446744073709551616 := by omega
          have iov2 : a * 16 + ((c.toNat : Int) - 97 + 10) < 18446744073709551616 := by omega
          clear hcut hacc ha hdg hdec hl1 ho hdig hdv
          go_wp2_with fail
          refine (HL1.out _).mono ?_
          rintro e w' ⟨rfl, rfl⟩
          go_wp2_with fail
          refine (HL1.out _).mono ?_
          rintro e w' ⟨rfl, rfl⟩
          go_wp2_with fail
          refine (HL1.out _).mono ?_
          rintro e w' ⟨rfl, rfl⟩
          go_wp2
          refine ⟨⟨k + 1, acc * 16 + digV c, a * 16 + (digV c : Int), rfl, ?_, (by first | rfl | (congr 1; omega)), by omega, HY⟩, by simp [intOf]; omega⟩
          congr 1
          have := HV.out
          omega
    · obtain rfl : k = l.length := by omega
      rw [List.drop_length, valB_nil] at hdec
      have HF : Hid (valB 16 0 l < 18446744073709551616 ∧ (valB 16 0 l : Int) = a) := by show _ ∧ _; omega
      clear hdec hacc ha
      go_wp2
      go_ret2
      exact ⟨by unfold P16Res; rw [if_pos HF.out.1, HF.out.2]; rfl, rfl⟩

set_option maxRecDepth 100000 in
theorem parse16 (l : List UInt8) (h0 : l ≠ []) (hd : ∀ c ∈ l, digV c < 16) (hs : l.length ≤ 2000) (w : World) (hE : ErrW w) :
    Calls Tryd.prog 26 #[.string (bytesOf l), .int .i64 16, .int .i64 64] w (ParsePost w .u64 (if valB 16 0 l < 18446744073709551616 then some (valB 16 0 l : Int) else none)) := by
  have H := Lib.hid (iparse16 l h0 hd hs w)
  have hz : (bytesOf l).size ≤ 2000 := by rw [bytes_size]; exact hs
  have hfb : Fr (fun _ => False) w (Lib.bytesWorld w 5 (bytesOf l)) := Fr.of_below (Lib.bytesWorld_below _ _ _)
  have HE := Lib.hid (hE.frame hfb)
  have HTE : Hid (∀ w', ErrW w' → Calls Tryd.prog 38 #[.string ⟨#[80, 97, 114, 115, 101, 85, 105, 110, 116]⟩, .string (bytesOf l), .int .i64 16, .int .i64 64, .iface 69 (.int .i64 1)] w' fun e w'' => ∃ N, e = .returned (.iface 73 (.pointer (some ⟨N, 0, none⟩))) ∧ Fr (fun _ => False) w' w'') := fun w' hE' => by
    obtain ⟨_, ⟨t, p, h2⟩⟩ := hE'
    refine (Tryd.strconv_toError_range ⟨#[80, 97, 114, 115, 101, 85, 105, 110, 116]⟩ (bytesOf l) 16 64 _ w' (by omega) h2 (.inr ⟨_, _, rfl⟩)).mono ?_
    rintro e w'' ⟨N, rfl, _, _, hb⟩
    exact ⟨N, rfl, Fr.of_below hb⟩
  have HFB := Lib.hid hfb
  unfold P16Res at H
  by_cases hv : valB 16 0 l < 18446744073709551616
  · rw [if_pos hv] at H ⊢
    generalize valB 16 0 l = v at *
    obtain ⟨vi, hvi⟩ : ∃ vi, (v : Int) = vi := ⟨_, rfl⟩
    rw [hvi] at H ⊢
    generalize Lib.bytesWorld w 5 (bytesOf l) = W1 at *
    generalize bytesOf l = S at *
    clear hE hfb hv hvi hd h0
    go_enter Tryd.func26, Tryd.ntmps26
    go_wp2_with fail
    refine (H.out).mono ?_
    rintro e w' ⟨rfl, rfl⟩
    go_wp2
    go_ret2
    exact ⟨HFB.out, rfl⟩
  · rw [if_neg hv] at H ⊢
    generalize valB 16 0 l = v at *
    generalize Lib.bytesWorld w 5 (bytesOf l) = W1 at *
    generalize bytesOf l = S at *
    clear hE hfb hv hd h0
    go_enter Tryd.func26, Tryd.ntmps26
    go_wp2_with fail
    refine (H.out).mono ?_
    rintro e w' ⟨rfl, rfl⟩
    go_wp2_with fail
    refine (HTE.out _ HE.out).mono ?_
    rintro e w2 ⟨N, rfl, hf2⟩
    have HF2 := Lib.hid (HFB.out.then hf2)
    clear hf2
    go_wp2
    go_ret2
    exact ⟨HF2.out, _, _, _, rfl⟩

theorem gSyn : Tryd.prog.globalNamed "strconv.ErrSyntax" = some 0 := by kernel_rfl
theorem gRng : Tryd.prog.globalNamed "strconv.ErrRange" = some 1 := by kernel_rfl
theorem tSyn : (Tryd.prog.globals[0]?).map (·.type) = some 42 := by kernel_rfl
theorem tRng : (Tryd.prog.globals[1]?).map (·.type) = some 42 := by kernel_rfl
theorem starE : "*" ++ "errors.errorString" = "*errors.errorString" := by decide
theorem rowE (u : TypeId) (h : Tryd.prog.typeName? 3 u = some "*errors.errorString") : u = 99 :=
  typeName_ptr_named (nm := "errors.errorString") (by rw [starE]; kernel_rfl) (by kernel_rfl) (by decide) u (by rw [starE]; exact h)
theorem cellsE : Tryd.prog.cellsOf 101 = 1 := by kernel_rfl
theorem cellsS : Tryd.prog.cellsOf 9 = 1 := by kernel_rfl
theorem errw_of {W : World} (h : laidMetH Tryd.prog Rows.digitsReadsRow.laid W) : ErrW W := by
  have h1 : laidMetH Tryd.prog [("strconv.ErrSyntax", Rows.laid_strconv_ErrSyntax)] W := h.filter (fun x => x.1 == "strconv.ErrSyntax")
  have h2 : laidMetH Tryd.prog [("strconv.ErrRange", Rows.laid_strconv_ErrRange)] W := h.filter (fun x => x.1 == "strconv.ErrRange")
  rw [MakeChecks.laidMetH_plain _ _ _ (by kernel_rfl)] at h1 h2
  obtain ⟨a0, s0, hv0, _⟩ := laid_sentinel h1 gSyn tSyn Tryd.underlying42 rowE Tryd.underlying99 Tryd.underlying101 rfl rfl Tryd.underlying9 cellsE cellsS
  obtain ⟨a1, s1, hv1, _⟩ := laid_sentinel h2 gRng tRng Tryd.underlying42 rowE Tryd.underlying99 Tryd.underlying101 rfl rfl Tryd.underlying9 cellsE cellsS
  exact ⟨⟨_, _, World.var?_cell gSyn hv0 0⟩, ⟨_, _, World.var?_cell gRng hv1 0⟩⟩
end Go.Proofs.YtlcgmniahdngdaaDoor
