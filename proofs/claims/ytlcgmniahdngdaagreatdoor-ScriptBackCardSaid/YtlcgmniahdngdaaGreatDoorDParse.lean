/- The walks of strconv.ParseUint to the bases 10 and 16. -/
import Derived.Test.YtlcgmniahdngdaaGreatDoorDHex
import Derived.Test.YtlcgmniahdngdaaGreatDoorRows
import Derived.Lib.AtoiErrMem
import Derived.Stop.LaidErr
import Derived.LaidMore
import Derived.Lib.LaidTab
import Derived.LaidSub
import Derived.ProofKit
namespace Go.Proofs.YtlcgmniahdngdaaGreatDoor
open Go.RowKit

theorem pu_val {l : List UInt8} (h0 : l ≠ []) (hd : ∀ c ∈ l, digV c < 10) : puN l = if valB 10 0 l < 18446744073709551616 then some (valB 10 0 l : Int) else none := by
  unfold puN
  rw [Lib.parseUintB_64, Lib.parseMag, if_neg h0, parse_val l 0 hd (by decide)]
  by_cases h : valB 10 0 l < 18446744073709551616
  · rw [if_pos h, if_pos h]
  · rw [if_neg h, if_neg h]

theorem or32 : ∀ c : UInt8, 97 ≤ c.toNat → c.toNat ≤ 102 → bits .or .u8 (c.toNat : Int) 32 = (c.toNat : Int) := by
  intro c h1 h2
  have h : ∀ d : Nat, d < 6 → bits .or .u8 ((97 + d : Nat) : Int) 32 = ((97 + d : Nat) : Int) := by decide
  have := h (c.toNat - 97) (by omega)
  rwa [show 97 + (c.toNat - 97) = c.toNat by omega] at this

def P16Res (l : List UInt8) : Value := if valB 16 0 l < 18446744073709551616 then .tuple #[.int .u64 (valB 16 0 l : Int), .nilIface] else .tuple #[.int .u64 18446744073709551615, .iface 137 (.int .i64 1)]
set_option maxHeartbeats 3200000 in
set_option maxRecDepth 100000 in
theorem iparse16 (l : List UInt8) (h0 : l ≠ []) (hd : ∀ c ∈ l, digV c < 16) (hs : l.length ≤ 2000) (w : World) :
    Calls Tryz.prog 71 #[.string (bytesOf l), .int .i64 16, .int .i64 64] w fun e w' => e = .returned (P16Res l) ∧ w' = Lib.bytesWorld w 5 (bytesOf l) := by
  have hsz : (bytesOf l).size = l.length := bytes_size l
  have hemp : (bytesOf l).toList.isEmpty = false := by
    rw [bytes_toList]
    cases l with
    | nil => exact absurd rfl h0
    | cons c l => rfl
  have hcv := Lib.run_convert_string_bytes (P := Tryz.prog) w 9 51 5 (bytesOf l) (u := .string) Tryz.underlying9 Tryz.underlying51 Tryz.underlying5
  have hB : ∀ j, j < l.length → (Lib.bytesWorld w 5 (bytesOf l)).cell? ⟨w.heap.size, j, none⟩ = some (.int .u8 (l.getD j 0).toNat) := fun j hj => Lib.bytesWorld_cell w 5 (bytesOf l) j (by omega)
  rw [hsz] at hcv
  obtain ⟨W1, hW1⟩ : ∃ W1, W1 = Lib.bytesWorld w 5 (bytesOf l) := ⟨_, rfl⟩
  rw [← hW1] at hcv hB ⊢
  clear hW1
  have HLOW := Lib.hid Tryz.internal_strconv_lower
  have HD := Lib.hid hd
  obtain ⟨S, hS⟩ : ∃ S, bytesOf l = S := ⟨_, rfl⟩
  rw [hS] at hcv hemp hsz ⊢
  clear hS hd
  have hmv : IntKind.u64.wrap (IntKind.u64.wrap 18446744073709551616 - 1) = 18446744073709551615 := by
    rw [IntKind.wrap_u64, IntKind.wrap_u64]
    decide
  go_enter Tryz.func71, Tryz.ntmps71
  go_wp2
  go_loop [12, 13, 101] (fun vu vn vi => ∃ (k acc : Nat) (a : Int), vu = .bool false ∧ vn = .int .u64 a ∧ vi = .int .i64 k ∧ k ≤ l.length ∧ Hid (a = (acc : Int) ∧ acc < 18446744073709551616 ∧ valB 16 0 l = valB 16 acc (l.drop k)))
    (fun _ _ vi => l.length - (intOf vi).toNat)
  case atStart => exact ⟨0, 0, 0, rfl, rfl, rfl, by omega, rfl, by omega, rfl⟩
  case round =>
    obtain ⟨k, acc, a, rfl, rfl, rfl, hk, hh⟩ := hrel
    obtain ⟨ha, hacc, hdec⟩ := hh.out
    clear hh
    have a0 : 0 ≤ a := by omega
    have a1 : a < 18446744073709551616 := by omega
    by_cases hkn : k < l.length
    · have hc := hB k hkn
      have hdrop : l.drop k = l[k] :: l.drop (k + 1) := List.drop_eq_getElem_cons hkn
      have hget : l.getD k 0 = l[k] := by simp [List.getD, List.getElem?_eq_getElem hkn]
      have hdg := HD.out l[k] (List.getElem_mem hkn)
      rw [hdrop, valB_cons] at hdec
      rw [hget] at hc
      generalize l[k] = c at hc hdec hdg
      have hc256 : c.toNat < 256 := c.toNat_lt
      have HLE := Lib.hid (le_valB 16 (by decide) (l.drop (k + 1)) (acc * 16 + digV c))
      clear hB hdrop hget
      by_cases hcut : 1152921504606846976 ≤ acc
      · have HF : Hid (¬ valB 16 0 l < 18446744073709551616) := by have := HLE.out; show ¬ _ < _; omega
        have icut : 1152921504606846976 ≤ a := by omega
        by_cases hdig : 48 ≤ c.toNat ∧ c.toNat ≤ 57
        · obtain ⟨hd0, hd1⟩ := hdig
          clear hcut hacc ha hdg hdec
          go_wp2
          go_ret2
          exact ⟨by unfold P16Res; rw [if_neg HF.out]; rfl, rfl⟩
        · have hlo : 97 ≤ c.toNat ∧ c.toNat ≤ 102 := by
            unfold digV at hdg
            rw [if_neg hdig] at hdg
            split at hdg
            · rename_i h; exact h
            · omega
          obtain ⟨hd0, hd1⟩ := hlo
          have ho := or32 c hd0 hd1
          have hl1 := HLOW.out (c.toNat : Int)
          rw [ho] at hl1
          have HL1 := Lib.hid hl1
          clear hcut hacc ha hdg hdec hl1 ho hdig
          go_wp2_with fail
          refine (HL1.out _).mono ?_
          rintro e w' ⟨rfl, rfl⟩
          go_wp2_with fail
          refine (HL1.out _).mono ?_
          rintro e w' ⟨rfl, rfl⟩
          go_wp2_with fail
          refine (HL1.out _).mono ?_
          rintro e w' ⟨rfl, rfl⟩
          go_wp2
          go_ret2
          exact ⟨by unfold P16Res; rw [if_neg HF.out]; rfl, rfl⟩
      · have HY : Hid (a * 16 + (digV c : Int) = ((acc * 16 + digV c : Nat) : Int) ∧ acc * 16 + digV c < 18446744073709551616 ∧ valB 16 0 l = valB 16 (acc * 16 + digV c) (l.drop (k + 1))) := ⟨by omega, by omega, hdec⟩
        have icut : a < 1152921504606846976 := by omega
        by_cases hdig : 48 ≤ c.toNat ∧ c.toNat ≤ 57
        · have hdv : digV c = c.toNat - 48 := by unfold digV; rw [if_pos hdig]
          obtain ⟨hd0, hd1⟩ := hdig
          have HV := Lib.hid hdv
          have iov : a * 16 + ((c.toNat : Int) - 48) < 18446744073709551616 := by omega
          clear hcut hacc ha hdg hdec hdv
          go_wp2
          refine ⟨⟨k + 1, acc * 16 + digV c, a * 16 + (digV c : Int), rfl, ?_, (by first | rfl | (congr 1; omega)), by omega, HY⟩, by simp [intOf]; omega⟩
          congr 1
          have := HV.out
          omega
        · have hlo : 97 ≤ c.toNat ∧ c.toNat ≤ 102 := by
            unfold digV at hdg
            rw [if_neg hdig] at hdg
            split at hdg
            · rename_i h; exact h
            · omega
          have hdv : digV c = c.toNat - 87 := by unfold digV; rw [if_neg hdig, if_pos hlo]
          obtain ⟨hd0, hd1⟩ := hlo
          have ho := or32 c hd0 hd1
          have hl1 := HLOW.out (c.toNat : Int)
          rw [ho] at hl1
          have HL1 := Lib.hid hl1
          have HV := Lib.hid hdv
          have iov : a * 16 + ((c.toNat : Int) - 87) < 18446744073709551616 := by omega
          have iov2 : a * 16 + ((c.toNat : Int) - 97 + 10) < 18446744073709551616 := by omega
          clear hcut hacc ha hdg hdec hl1 ho hdig hdv
          go_wp2_with fail
          refine (HL1.out _).mono ?_
          rintro e w' ⟨rfl, rfl⟩
          go_wp2_with fail
          refine (HL1.out _).mono ?_
          rintro e w' ⟨rfl, rfl⟩
          go_wp2_with fail
          refine (HL1.out _).mono ?_
          rintro e w' ⟨rfl, rfl⟩
          go_wp2
          refine ⟨⟨k + 1, acc * 16 + digV c, a * 16 + (digV c : Int), rfl, ?_, (by first | rfl | (congr 1; omega)), by omega, HY⟩, by simp [intOf]; omega⟩
          congr 1
          have := HV.out
          omega
    · obtain rfl : k = l.length := by omega
      rw [List.drop_length, valB_nil] at hdec
      have HF : Hid (valB 16 0 l < 18446744073709551616 ∧ (valB 16 0 l : Int) = a) := by show _ ∧ _; omega
      clear hdec hacc ha
      go_wp2
      go_ret2
      exact ⟨by unfold P16Res; rw [if_pos HF.out.1, HF.out.2]; rfl, rfl⟩

set_option maxRecDepth 100000 in
theorem parse16 (l : List UInt8) (h0 : l ≠ []) (hd : ∀ c ∈ l, digV c < 16) (hs : l.length ≤ 2000) (w : World) (hE : ErrW w) :
    Calls Tryz.prog 55 #[.string (bytesOf l), .int .i64 16, .int .i64 64] w (ParsePost w .u64 (if valB 16 0 l < 18446744073709551616 then some (valB 16 0 l : Int) else none)) := by
  have H := Lib.hid (iparse16 l h0 hd hs w)
  have hz : (bytesOf l).size ≤ 2000 := by rw [bytes_size]; exact hs
  have hfb : Fr (fun _ => False) w (Lib.bytesWorld w 5 (bytesOf l)) := Fr.of_below (Lib.bytesWorld_below _ _ _)
  have HE := Lib.hid (hE.frame hfb)
  have HTE : Hid (∀ w', ErrW w' → Calls Tryz.prog 72 #[.string ⟨#[80, 97, 114, 115, 101, 85, 105, 110, 116]⟩, .string (bytesOf l), .int .i64 16, .int .i64 64, .iface 137 (.int .i64 1)] w' fun e w'' => ∃ N, e = .returned (.iface 139 (.pointer (some ⟨N, 0, none⟩))) ∧ Fr (fun _ => False) w' w'') := fun w' hE' => by
    obtain ⟨_, ⟨t, p, h2⟩⟩ := hE'
    refine (Tryz.strconv_toError_range ⟨#[80, 97, 114, 115, 101, 85, 105, 110, 116]⟩ (bytesOf l) 16 64 _ w' (by omega) h2 (.inr ⟨_, _, rfl⟩)).mono ?_
    rintro e w'' ⟨N, rfl, _, _, hb⟩
    exact ⟨N, rfl, Fr.of_below hb⟩
  have HFB := Lib.hid hfb
  unfold P16Res at H
  by_cases hv : valB 16 0 l < 18446744073709551616
  · rw [if_pos hv] at H ⊢
    generalize valB 16 0 l = v at *
    obtain ⟨vi, hvi⟩ : ∃ vi, (v : Int) = vi := ⟨_, rfl⟩
    rw [hvi] at H ⊢
    generalize Lib.bytesWorld w 5 (bytesOf l) = W1 at *
    generalize bytesOf l = S at *
    clear hE hfb hv hvi hd h0
    go_enter Tryz.func55, Tryz.ntmps55
    go_wp2_with fail
    refine (H.out).mono ?_
    rintro e w' ⟨rfl, rfl⟩
    go_wp2
    go_ret2
    exact ⟨HFB.out, rfl⟩
  · rw [if_neg hv] at H ⊢
    generalize valB 16 0 l = v at *
    generalize Lib.bytesWorld w 5 (bytesOf l) = W1 at *
    generalize bytesOf l = S at *
    clear hE hfb hv hd h0
    go_enter Tryz.func55, Tryz.ntmps55
    go_wp2_with fail
    refine (H.out).mono ?_
    rintro e w' ⟨rfl, rfl⟩
    go_wp2_with fail
    refine (HTE.out _ HE.out).mono ?_
    rintro e w2 ⟨N, rfl, hf2⟩
    have HF2 := Lib.hid (HFB.out.then hf2)
    clear hf2
    go_wp2
    go_ret2
    exact ⟨HF2.out, _, _, _, rfl⟩

end Go.Proofs.YtlcgmniahdngdaaGreatDoor
