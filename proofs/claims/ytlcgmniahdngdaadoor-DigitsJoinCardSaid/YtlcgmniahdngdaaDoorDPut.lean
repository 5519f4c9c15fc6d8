/- The walks of the reference and of package digits: numbers written. -/
import Derived.Test.YtlcgmniahdngdaaDoorDRef
namespace Go.Proofs.YtlcgmniahdngdaaDoor
open Go.RowKit

theorem cut16 (d : Nat) (hd : d < 16) : (({ data := #[48, 49, 50, 51, 52, 53, 54, 55, 56, 57, 97, 98, 99, 100, 101, 102] } : ByteArray)).extract d (d + 1) = bytesOf [charV d] := by
  have : d = 0 ∨ d = 1 ∨ d = 2 ∨ d = 3 ∨ d = 4 ∨ d = 5 ∨ d = 6 ∨ d = 7 ∨ d = 8 ∨ d = 9 ∨ d = 10 ∨ d = 11 ∨ d = 12 ∨ d = 13 ∨ d = 14 ∨ d = 15 := by omega
  rw [Lib.extract_eq]
  rcases this with rfl | rfl | rfl | rfl | rfl | rfl | rfl | rfl | rfl | rfl | rfl | rfl | rfl | rfl | rfl | rfl <;> rfl
theorem app_cons (c : UInt8) (t : List UInt8) : bytesOf [c] ++ bytesOf t = bytesOf (c :: t) := by rw [bytes_app]; rfl

set_option maxRecDepth 100000 in
set_option maxHeartbeats 1600000 in
theorem put_10 (u : Nat) (hu : u < 18446744073709551616) (w : World) : Calls Tryd.prog 31 #[.int .u64 (u : Int), .int .u64 10] w fun e w' => e = .returned (.string (bytesOf (digB 10 u))) ∧ w = w' := by
  have hlen : (digB 10 u).length ≤ 20 := digB_len 10 (by decide) 19 u (Nat.lt_of_lt_of_le hu (by decide))
  go_enter Tryd.func31, Tryd.ntmps31
  go_wp2
  go_loop [0, 6, 7] (fun n s d => ∃ (k : Nat) (t : List UInt8), n = .int .u64 (k : Int) ∧ s = .string (bytesOf t) ∧ k < 18446744073709551616 ∧ Hid (digB 10 k ++ t = digB 10 u)) (fun n _ _ => (intOf n).toNat)
  case atStart => exact ⟨u, [], rfl, rfl, hu, List.append_nil _⟩
  case round =>
    obtain ⟨k, t, rfl, rfl, hk, hr⟩ := hrel
    have htl := congrArg List.length hr.out
    rw [List.length_append] at htl
    have hsz : (bytesOf t).size ≤ 20 := by rw [bytes_size]; omega
    by_cases hlt : k < 10
    · have hki : (k : Int) < 10 := by omega
      have hex := cut16 k (by omega)
      have happ := app_cons (charV k) t
      have hs1 : (bytesOf [charV k]).size ≤ 1 := by rw [bytes_size]; exact Nat.le_refl _
      have HD : Hid (charV k :: t = digB 10 u) := by rw [← hr.out, digB_small hlt]; exact rfl
      clear hr htl hk hlen hu
      go_wp2
      go_ret
      exact ⟨by rw [← HD.out]; rfl, rfl⟩
    · have hki : (10 : Int) ≤ (k : Int) := by omega
      have hex := cut16 (k % 10) (by omega)
      have happ := app_cons (charV (k % 10)) t
      have hs1 : (bytesOf [charV (k % 10)]).size ≤ 1 := by rw [bytes_size]; exact Nat.le_refl _
      have HD : Hid (digB 10 (k / 10) ++ charV (k % 10) :: t = digB 10 u) := by rw [← hr.out, digB_big hlt (by decide), List.append_assoc]; exact rfl
      clear hr htl hlen hu
      go_wp2
      exact ⟨⟨k / 10, charV (k % 10) :: t, by go_num, rfl, by omega, HD⟩, by simp [intOf]; omega⟩
set_option maxRecDepth 100000 in
set_option maxHeartbeats 1600000 in
theorem put_16 (u : Nat) (hu : u < 18446744073709551616) (w : World) : Calls Tryd.prog 31 #[.int .u64 (u : Int), .int .u64 16] w fun e w' => e = .returned (.string (bytesOf (digB 16 u))) ∧ w = w' := by
  have hlen : (digB 16 u).length ≤ 20 := digB_len 16 (by decide) 19 u (Nat.lt_of_lt_of_le hu (by decide))
  go_enter Tryd.func31, Tryd.ntmps31
  go_wp2
  go_loop [0, 6, 7] (fun n s d => ∃ (k : Nat) (t : List UInt8), n = .int .u64 (k : Int) ∧ s = .string (bytesOf t) ∧ k < 18446744073709551616 ∧ Hid (digB 16 k ++ t = digB 16 u)) (fun n _ _ => (intOf n).toNat)
  case atStart => exact ⟨u, [], rfl, rfl, hu, List.append_nil _⟩
  case round =>
    obtain ⟨k, t, rfl, rfl, hk, hr⟩ := hrel
    have htl := congrArg List.length hr.out
    rw [List.length_append] at htl
    have hsz : (bytesOf t).size ≤ 20 := by rw [bytes_size]; omega
    by_cases hlt : k < 16
    · have hki : (k : Int) < 16 := by omega
      have hex := cut16 k (by omega)
      have happ := app_cons (charV k) t
      have hs1 : (bytesOf [charV k]).size ≤ 1 := by rw [bytes_size]; exact Nat.le_refl _
      have HD : Hid (charV k :: t = digB 16 u) := by rw [← hr.out, digB_small hlt]; exact rfl
      clear hr htl hk hlen hu
      go_wp2
      go_ret
      exact ⟨by rw [← HD.out]; rfl, rfl⟩
    · have hki : (16 : Int) ≤ (k : Int) := by omega
      have hex := cut16 (k % 16) (by omega)
      have happ := app_cons (charV (k % 16)) t
      have hs1 : (bytesOf [charV (k % 16)]).size ≤ 1 := by rw [bytes_size]; exact Nat.le_refl _
      have HD : Hid (digB 16 (k / 16) ++ charV (k % 16) :: t = digB 16 u) := by rw [← hr.out, digB_big hlt (by decide), List.append_assoc]; exact rfl
      clear hr htl hlen hu
      go_wp2
      exact ⟨⟨k / 16, charV (k % 16) :: t, by go_num, rfl, by omega, HD⟩, by simp [intOf]; omega⟩

/-- A text that came back. -/
def StrIs (w : World) (l : List UInt8) (e : Ending) (w' : World) : Prop := e = .returned (.string (bytesOf l)) ∧ Fr (fun _ => False) w w'
set_option maxRecDepth 100000 in
theorem rput (u : Nat) (hu : u < 18446744073709551616) (w : World) : Calls Tryd.prog 17 #[.int .u64 (u : Int)] w (StrIs w (digB 10 u)) := by
  have H := Lib.hid (put_10 u hu w)
  unfold StrIs
  generalize bytesOf (digB 10 u) = S at *
  clear hu
  go_enter Tryd.func17, Tryd.ntmps17
  go_wp2_with fail
  refine (H.out).mono ?_
  rintro e w' ⟨rfl, rfl⟩
  go_wp2
  go_ret
  exact ⟨rfl, Fr.refl _ _⟩
set_option maxRecDepth 100000 in
theorem rputhex (u : Nat) (hu : u < 18446744073709551616) (w : World) : Calls Tryd.prog 19 #[.int .u64 (u : Int)] w (StrIs w (digB 16 u)) := by
  have H := Lib.hid (put_16 u hu w)
  unfold StrIs
  generalize bytesOf (digB 16 u) = S at *
  clear hu
  go_enter Tryd.func19, Tryd.ntmps19
  go_wp2_with fail
  refine (H.out).mono ?_
  rintro e w' ⟨rfl, rfl⟩
  go_wp2
  go_ret
  exact ⟨rfl, Fr.refl _ _⟩
/-- A signed decimal. -/
def itoB (x : Int) : List UInt8 := if x < 0 then 45 :: digB 10 x.natAbs else digB 10 x.natAbs
theorem itoa_itoB (x : Int) : Lib.itoa x = itoB x := by
  unfold Lib.itoa itoB
  by_cases h : x < 0
  · rw [if_pos h, if_pos h, dec_digB]
  · rw [if_neg h, if_neg h, dec_digB, show x.toNat = x.natAbs by omega]
set_option maxRecDepth 100000 in
theorem rputint (x : Int) (hx : -9223372036854775808 ≤ x ∧ x ≤ 9223372036854775807) (w : World) : Calls Tryd.prog 18 #[.int .i64 x] w (StrIs w (itoB x)) := by
  unfold StrIs
  rcases Int.lt_or_le x 0 with h0 | h0
  · obtain ⟨u, rfl⟩ : ∃ u : Nat, x = -(u : Int) := ⟨x.natAbs, by omega⟩
    have H := Lib.hid (put_10 u (by omega) w)
    have hi : itoB (-(u : Int)) = 45 :: digB 10 u := by unfold itoB; rw [if_pos h0, Int.natAbs_neg, Int.natAbs_natCast]
    have happ : bytesOf [45] ++ bytesOf (digB 10 u) = bytesOf (45 :: digB 10 u) := app_cons _ _
    have hs1 : (bytesOf (digB 10 u)).size ≤ 20 := by rw [bytes_size]; exact digB_len 10 (by decide) 19 u (Nat.lt_of_lt_of_le (by omega : u < 18446744073709551616) (by decide))
    rw [hi, ← happ]
    obtain ⟨UI, hUI⟩ : ∃ UI, (u : Int) = UI := ⟨_, rfl⟩
    rw [hUI] at H hx h0 ⊢
    have hw1 : IntKind.u64.wrap (-IntKind.u64.wrap (-UI)) = UI := by
      rw [IntKind.wrap_u64, IntKind.wrap_u64]
      omega
    obtain ⟨hx1, hx2⟩ := hx
    clear hi happ hUI
    generalize bytesOf (digB 10 u) = S at *
    unfold bytesOf
    go_enter Tryd.func18, Tryd.ntmps18
    go_wp2_with fail
    refine (H.out).mono ?_
    rintro e w' ⟨rfl, rfl⟩
    go_wp2
    go_ret
    exact ⟨rfl, Fr.refl _ _⟩
  · obtain ⟨u, rfl⟩ : ∃ u : Nat, x = (u : Int) := ⟨x.toNat, by omega⟩
    have H := Lib.hid (put_10 u (by omega) w)
    have hi : itoB (u : Int) = digB 10 u := by unfold itoB; rw [if_neg (by omega), Int.natAbs_natCast]
    rw [hi]
    obtain ⟨UI, hUI⟩ : ∃ UI, (u : Int) = UI := ⟨_, rfl⟩
    rw [hUI] at H hx h0 ⊢
    obtain ⟨hx1, hx2⟩ := hx
    clear hi hUI
    generalize bytesOf (digB 10 u) = S at *
    go_enter Tryd.func18, Tryd.ntmps18
    go_wp2_with fail
    refine (H.out).mono ?_
    rintro e w' ⟨rfl, rfl⟩
    go_wp2
    go_ret
    exact ⟨rfl, Fr.refl _ _⟩

set_option maxRecDepth 100000 in
theorem dput (u : Nat) (hu : u < 18446744073709551616) (w : World) (htab : Lib.TabIs Tryd.prog w "internal/strconv.uint64pow10" .u64 Lib.pow10Tab) : Calls Tryd.prog 14 #[.int .u64 (u : Int)] w (StrIs w (digB 10 u)) := by
  have H := fmt_uint u hu w htab
  rw [dec_digB] at H
  have H := Lib.hid H
  change Hid (Calls _ _ _ _ (SPost w (bytesOf (digB 10 u)))) at H
  unfold StrIs
  generalize bytesOf (digB 10 u) = S at *
  clear hu htab
  go_enter Tryd.func14, Tryd.ntmps14
  go_wp2_with fail
  refine (H.out).mono ?_
  rintro e w' ⟨rfl, hf⟩
  have HF := Lib.hid hf
  clear hf
  go_wp2
  go_ret
  exact ⟨rfl, HF.out⟩
set_option maxRecDepth 100000 in
theorem dputhex (u : Nat) (hu : u < 18446744073709551616) (w : World) (hT : TabD w) : Calls Tryd.prog 16 #[.int .u64 (u : Int)] w (StrIs w (digB 16 u)) := by
  have H := Lib.hid (fmt16 u hu w hT)
  unfold StrIs
  generalize bytesOf (digB 16 u) = S at *
  clear hu hT
  go_enter Tryd.func16, Tryd.ntmps16
  go_wp2_with fail
  refine (H.out).mono ?_
  rintro e w' ⟨rfl, hf⟩
  have HF := Lib.hid hf
  clear hf
  go_wp2
  go_ret
  exact ⟨rfl, HF.out⟩
set_option maxRecDepth 100000 in
theorem dputint (x : Int) (hx : -9223372036854775808 ≤ x ∧ x ≤ 9223372036854775807) (w : World) (htab : Lib.TabIs Tryd.prog w "internal/strconv.uint64pow10" .u64 Lib.pow10Tab) : Calls Tryd.prog 15 #[.int .i64 x] w (StrIs w (itoB x)) := by
  have H : Hid (Calls Tryd.prog 30 #[.int .i64 x] w (SPost w (bytesOf (itoB x)))) := by
    rw [← itoa_itoB]
    exact (Tryd.strconv_Itoa x (by omega) (by omega) w htab).mono fun e w'' ⟨h1, k, os, h2⟩ => ⟨h1, h2 ▸ Fr.of_grow w k os⟩
  unfold StrIs
  generalize bytesOf (itoB x) = S at *
  clear hx htab
  go_enter Tryd.func15, Tryd.ntmps15
  go_wp2_with fail
  refine (H.out).mono ?_
  rintro e w' ⟨rfl, hf⟩
  have HF := Lib.hid hf
  clear hf
  go_wp2
  go_ret
  exact ⟨rfl, HF.out⟩

set_option maxRecDepth 100000 in
theorem rread (l : List UInt8) (hl : l.length ≤ 2000) (w : World) : Calls Tryd.prog 9 #[.string (bytesOf l)] w (RdPost w 10 l) := by
  have H := Lib.hid (rread_10 l hl w)
  unfold RdPost at *
  generalize readN 10 l = N at *
  generalize readE 10 l = E at *
  generalize bytesOf l = S at *
  go_enter Tryd.func9, Tryd.ntmps9
  go_wp2_with fail
  refine (H.out).mono ?_
  rintro e w' ⟨rfl, hf⟩
  have HF := Lib.hid hf
  clear hf
  go_wp2
  go_ret2
  exact ⟨rfl, HF.out⟩
set_option maxRecDepth 100000 in
theorem rreadhex (l : List UInt8) (hl : l.length ≤ 2000) (w : World) : Calls Tryd.prog 13 #[.string (bytesOf l)] w (RdPost w 16 l) := by
  have H := Lib.hid (rread_16 l hl w)
  unfold RdPost at *
  generalize readN 16 l = N at *
  generalize readE 16 l = E at *
  generalize bytesOf l = S at *
  go_enter Tryd.func13, Tryd.ntmps13
  go_wp2_with fail
  refine (H.out).mono ?_
  rintro e w' ⟨rfl, hf⟩
  have HF := Lib.hid hf
  clear hf
  go_wp2
  go_ret2
  exact ⟨rfl, HF.out⟩

theorem ext_one (c : UInt8) (r : List UInt8) : (bytesOf (c :: r)).extract 1 (r.length + 1) = bytesOf r := by
  rw [Lib.extract_eq]
  show bytesOf (List.take (r.length + 1 - 1) r) = _
  rw [Nat.add_sub_cancel, List.take_length]
set_option maxRecDepth 100000 in
set_option maxHeartbeats 1600000 in
theorem rreadint (l : List UInt8) (hl : l.length ≤ 2000) (w : World) : Calls Tryd.prog 11 #[.string (bytesOf l)] w (RiPost w l) := by
  have hw := int_way l
  have l1 := trim_len l [45]
  have HRD := Lib.hid (rread_10 (Lib.trimPrefix l [45]) (by omega) w)
  have hlt := readN_lt 10 (Lib.trimPrefix l [45])
  have hz := @read_zero (Lib.trimPrefix l [45])
  unfold RiPost
  unfold RdPost at HRD
  generalize intN l = V at *
  obtain ⟨E, hE2⟩ : ∃ E, (intE l : Int) = E := ⟨_, rfl⟩
  obtain ⟨N, hN⟩ : ∃ N, (readN 10 (Lib.trimPrefix l [45]) : Int) = N := ⟨_, rfl⟩
  obtain ⟨R, hR⟩ : ∃ R, (readE 10 (Lib.trimPrefix l [45]) : Int) = R := ⟨_, rfl⟩
  have hN0 : 0 ≤ N ∧ N < 18446744073709551616 := by omega
  have ht0 : R = 0 → (N = 0 ↔ Lib.trimPrefix l [45] = [48]) := fun h => by
    rw [← hz (by omega)]; omega
  rw [hE2, hN, hR] at hw
  rw [hE2]
  rw [hN, hR] at HRD
  clear hE2 hN hR hlt hz
  have hneg : 0 < N → N ≤ 9223372036854775808 → IntKind.i64.wrap (IntKind.u64.wrap (-N)) = -N := fun h1 h2 => by
    rw [IntKind.wrap_u64, IntKind.wrap_i64]; omega
  have htw : ∀ t0, decide (Lib.trimPrefix l [45] = [48]) = t0 → R = 0 → ((N == 0) = t0) := fun t0 h hR => by
    rw [← h, Bool.eq_iff_iff, beq_iff_eq, decide_eq_true_iff]; exact ht0 hR
  obtain ⟨t0, ht1⟩ : ∃ t0, decide (Lib.trimPrefix l [45] = [48]) = t0 := ⟨_, rfl⟩
  have htz := htw t0 ht1
  rw [ht1] at hw
  clear htw ht1 ht0
  obtain ⟨hn0, hn1⟩ := hN0
  cases l with
  | nil =>
    have hpre : Lib.hasPrefix [] [45] = false := rfl
    rw [trim_none hpre] at HRD
    rw [hpre] at hw
    have hsz : (bytesOf []).size = 0 := rfl
    generalize bytesOf [] = S at *
    clear hpre l1 hl
    unfold IntWay at hw
    rcases hw with ⟨rfl, rfl, rfl⟩ | ⟨rfl, hp, rfl, rfl, rfl⟩ | ⟨rfl, rfl, rfl, rfl⟩ | ⟨rfl, hp, rfl, h4, h5, rfl, rfl⟩ | ⟨rfl, hp, rfl, rfl, rfl, rfl⟩ | ⟨rfl, hp, rfl, h4, rfl, rfl⟩ | ⟨rfl, hp, h4, rfl, rfl⟩ | ⟨rfl, hp, h4, rfl, rfl⟩
    all_goals
      first
      | (cases hp; done)
      | (try (have hng := hneg (by omega) (by omega))
         try (have hzz := htz rfl)
         clear hneg htz
         go_enter Tryd.func11, Tryd.ntmps11
         go_wp2_with fail
         refine (HRD.out).mono ?_
         rintro e w1 ⟨rfl, hf⟩
         have HF := Lib.hid hf
         clear hf
         go_wp2
         go_ret2
         exact ⟨rfl, HF.out⟩)
  | cons c r =>
    have hsp : 0 < (bytesOf (c :: r)).size := by rw [bytes_size]; simp
    have hsz : (bytesOf (c :: r)).size = r.length + 1 := by rw [bytes_size]; simp
    have hg : (bytesOf (c :: r))[0] = c := rfl
    by_cases hc : c = 45
    · subst hc
      have hpre : Lib.hasPrefix (45 :: r) [45] = true := by unfold Lib.hasPrefix; simp [List.isPrefixOf]
      have htr : Lib.trimPrefix (45 :: r) [45] = r := by unfold Lib.trimPrefix; rw [hpre]; rfl
      have hex := ext_one 45 r
      rw [htr] at HRD
      rw [hpre] at hw
      clear hpre htr l1
      unfold IntWay at hw
      rcases hw with ⟨rfl, rfl, rfl⟩ | ⟨rfl, hp, rfl, rfl, rfl⟩ | ⟨rfl, rfl, rfl, rfl⟩ | ⟨rfl, hp, rfl, h4, h5, rfl, rfl⟩ | ⟨rfl, hp, rfl, rfl, rfl, rfl⟩ | ⟨rfl, hp, rfl, h4, rfl, rfl⟩ | ⟨rfl, hp, h4, rfl, rfl⟩ | ⟨rfl, hp, h4, rfl, rfl⟩
      all_goals
        first
        | (cases hp; done)
        | (try (have hng := hneg (by omega) (by omega))
           try (have hzz := htz rfl)
           clear hneg htz
           go_enter Tryd.func11, Tryd.ntmps11
           go_wp2_with fail
           refine (HRD.out).mono ?_
           rintro e w1 ⟨rfl, hf⟩
           have HF := Lib.hid hf
           clear hf
           go_wp2
           go_ret2
           exact ⟨rfl, HF.out⟩)
    · have hpre : Lib.hasPrefix (c :: r) [45] = false := by
        unfold Lib.hasPrefix; simp [List.isPrefixOf]; exact fun h => hc h.symm
      have hc2 : ((c.toNat : Int) == 45) = false := by
        rw [beq_eq_false_iff_ne]; intro h
        exact hc (UInt8.toNat_inj.1 (by rw [show (45 : UInt8).toNat = 45 by rfl]; omega))
      rw [trim_none hpre] at HRD
      rw [hpre] at hw
      clear hpre l1 hc
      unfold IntWay at hw
      rcases hw with ⟨rfl, rfl, rfl⟩ | ⟨rfl, hp, rfl, rfl, rfl⟩ | ⟨rfl, rfl, rfl, rfl⟩ | ⟨rfl, hp, rfl, h4, h5, rfl, rfl⟩ | ⟨rfl, hp, rfl, rfl, rfl, rfl⟩ | ⟨rfl, hp, rfl, h4, rfl, rfl⟩ | ⟨rfl, hp, h4, rfl, rfl⟩ | ⟨rfl, hp, h4, rfl, rfl⟩
      all_goals
        first
        | (cases hp; done)
        | (try (have hng := hneg (by omega) (by omega))
           try (have hzz := htz rfl)
           clear hneg htz
           go_enter Tryd.func11, Tryd.ntmps11
           go_wp2_with fail
           refine (HRD.out).mono ?_
           rintro e w1 ⟨rfl, hf⟩
           have HF := Lib.hid hf
           clear hf
           go_wp2
           go_ret2
           exact ⟨rfl, HF.out⟩)
end Go.Proofs.YtlcgmniahdngdaaDoor
