/- The walks of package ullageref35. -/
import Derived.Test.YtmllbdiljjimmaaPlays
namespace Go.Proofs.Ytmllbdiljjimmaa
open Go.RowKit

/-- How many of a list are so. -/
def cnt (q : Nat → Bool) (l : List Nat) : Nat := (l.filter q).length
theorem cnt_snoc (q : Nat → Bool) (l : List Nat) (x : Nat) : cnt q (l ++ [x]) = cnt q l + if q x then 1 else 0 := by
  unfold cnt
  rw [List.filter_append, List.length_append]
  cases h : q x <;> simp [h]
theorem cnt_le (q : Nat → Bool) (l : List Nat) : cnt q l ≤ l.length := List.length_filter_le _ _
theorem cnt_take (q : Nat → Bool) {l : List Nat} {k x : Nat} (h : l[k]? = some x) : cnt q (l.take (k + 1)) = cnt q (l.take k) + if q x then 1 else 0 := by
  rw [List.take_add_one, h, Option.toList_some, cnt_snoc]
theorem cnt_perm (q : Nat → Bool) {l m : List Nat} (h : l.Perm m) : cnt q l = cnt q m := (h.filter q).length_eq
def OneInt2 (w : World) (v : Nat) (e : Ending) (w' : World) : Prop := e = .returned (.int .i64 (v : Int)) ∧ w = w'

set_option maxRecDepth 100000 in
set_option maxHeartbeats 1600000 in
theorem ahead2_any (p : Option Addr) (len cap : Nat) (l : List Nat) (w : World) (h : Words w p len l) (hlen : len ≤ 1000000) (b : Nat) (hb : b < 18446744073709551616) :
    Calls Try.prog 56 #[.slice p len cap, .int .u64 (b : Int)] w (OneInt2 w (cnt (fun y => aheadF y b) l)) := by
  have hi : (len : Int) ≤ 1000000 := by omega
  have HH := Lib.hid h
  clear h
  go_enter Try.func56, Try.ntmps56
  go_wp2
  go_loop [5, 6] (fun v i => ∃ k c : Nat, k ≤ len ∧ v = .int .i64 (c : Int) ∧ i = .int .i64 k ∧ Hid (cnt (fun y => aheadF y b) (l.take k) = c ∧ c ≤ k)) (fun _ i => len - (intOf i).toNat)
  case atStart => exact ⟨0, 0, Nat.zero_le _, rfl, rfl, ⟨rfl, Nat.le_refl _⟩⟩
  case round =>
    obtain ⟨k, c, hk, rfl, rfl, hr⟩ := hrel
    by_cases hlt : k < len
    · obtain ⟨pb, off, x, rfl, hx, hxl, hc⟩ := HH.out.at hlt
      have hct := cnt_take (fun y => aheadF y b) hx
      have hcb : (c : Int) ≤ 1000000 := by have := hr.out.2; omega
      cases hq : (aheadF x b) with
      | true =>
        have HNEW : Hid (cnt (fun y => aheadF y b) (l.take (k + 1)) = c + 1 ∧ c + 1 ≤ k + 1) := ⟨by rw [hct, hq, hr.out.1]; rfl, by have := hr.out.2; omega⟩
        have HB := Lib.hid (before2_any x b hxl hb w)
        rw [show aheadF x b = true from hq] at HB
        clear hct hr hx hq
        go_wp2_with fail
        refine (HB.out).mono ?_
        rintro e w' ⟨rfl, rfl⟩
        go_wp2
        go_round
        case rel => exact ⟨k + 1, c + 1, by omega, by go_num, by go_num, HNEW⟩
        case measure => simp [intOf]; omega
      | false =>
        have HNEW : Hid (cnt (fun y => aheadF y b) (l.take (k + 1)) = c ∧ c ≤ k + 1) := ⟨by rw [hct, hq, hr.out.1]; rfl, by have := hr.out.2; omega⟩
        have HB := Lib.hid (before2_any x b hxl hb w)
        rw [show aheadF x b = false from hq] at HB
        clear hct hr hx hq
        go_wp2_with fail
        refine (HB.out).mono ?_
        rintro e w' ⟨rfl, rfl⟩
        go_wp2
        go_round
        case rel => exact ⟨k + 1, c, by omega, rfl, by go_num, HNEW⟩
        case measure => simp [intOf]; omega
    · obtain rfl : k = len := by omega
      have HRES : Hid (cnt (fun y => aheadF y b) l = c) := by
        have := hr.out.1
        rwa [List.take_of_length_le (by rw [HH.out.len]; exact Nat.le_refl _)] at this
      clear hr
      go_wp2
      go_ret
      exact ⟨by rw [HRES.out]; rfl, rfl⟩

set_option maxRecDepth 100000 in
set_option maxHeartbeats 1600000 in
theorem equal2_any (p : Option Addr) (len cap : Nat) (l : List Nat) (w : World) (h : Words w p len l) (hlen : len ≤ 1000000) (b : Nat) :
    Calls Try.prog 57 #[.slice p len cap, .int .u64 (b : Int)] w (OneInt2 w (cnt (fun y => y == b) l)) := by
  have hi : (len : Int) ≤ 1000000 := by omega
  have HH := Lib.hid h
  clear h
  go_enter Try.func57, Try.ntmps57
  go_wp2
  go_loop [5, 6] (fun v i => ∃ k c : Nat, k ≤ len ∧ v = .int .i64 (c : Int) ∧ i = .int .i64 k ∧ Hid (cnt (fun y => y == b) (l.take k) = c ∧ c ≤ k)) (fun _ i => len - (intOf i).toNat)
  case atStart => exact ⟨0, 0, Nat.zero_le _, rfl, rfl, ⟨rfl, Nat.le_refl _⟩⟩
  case round =>
    obtain ⟨k, c, hk, rfl, rfl, hr⟩ := hrel
    by_cases hlt : k < len
    · obtain ⟨pb, off, x, rfl, hx, hxl, hc⟩ := HH.out.at hlt
      have hct := cnt_take (fun y => y == b) hx
      have hcb : (c : Int) ≤ 1000000 := by have := hr.out.2; omega
      cases hq : (x == b) with
      | true =>
        have HNEW : Hid (cnt (fun y => y == b) (l.take (k + 1)) = c + 1 ∧ c + 1 ≤ k + 1) := ⟨by rw [hct, hq, hr.out.1]; rfl, by have := hr.out.2; omega⟩
        have e1 : ((x : Int) == (b : Int)) = true := by rw [show ((x : Int) == (b : Int)) = (x == b) by rw [Bool.eq_iff_iff, beq_iff_eq, beq_iff_eq]; omega]; exact hq
        clear hct hr hx hq
        go_wp2
        go_round
        case rel => exact ⟨k + 1, c + 1, by omega, by go_num, by go_num, HNEW⟩
        case measure => simp [intOf]; omega
      | false =>
        have HNEW : Hid (cnt (fun y => y == b) (l.take (k + 1)) = c ∧ c ≤ k + 1) := ⟨by rw [hct, hq, hr.out.1]; rfl, by have := hr.out.2; omega⟩
        have e1 : ((x : Int) == (b : Int)) = false := by rw [show ((x : Int) == (b : Int)) = (x == b) by rw [Bool.eq_iff_iff, beq_iff_eq, beq_iff_eq]; omega]; exact hq
        clear hct hr hx hq
        go_wp2
        go_round
        case rel => exact ⟨k + 1, c, by omega, rfl, by go_num, HNEW⟩
        case measure => simp [intOf]; omega
    · obtain rfl : k = len := by omega
      have HRES : Hid (cnt (fun y => y == b) l = c) := by
        have := hr.out.1
        rwa [List.take_of_length_le (by rw [HH.out.len]; exact Nat.le_refl _)] at this
      clear hr
      go_wp2
      go_ret
      exact ⟨by rw [HRES.out]; rfl, rfl⟩

set_option maxRecDepth 100000 in
set_option maxHeartbeats 1600000 in
theorem kind35_any (p : Option Addr) (len cap : Nat) (l : List Nat) (w : World) (h : Words w p len l) (hlen : len ≤ 1000000) (kd : Nat) :
    Calls Try.prog 55 #[.slice p len cap, .int .i64 (kd : Int)] w (OneInt2 w (cnt (fun y => kindF y == kd) l)) := by
  have hi : (len : Int) ≤ 1000000 := by omega
  have HH := Lib.hid h
  clear h
  go_enter Try.func55, Try.ntmps55
  go_wp2
  go_loop [5, 6] (fun v i => ∃ k c : Nat, k ≤ len ∧ v = .int .i64 (c : Int) ∧ i = .int .i64 k ∧ Hid (cnt (fun y => kindF y == kd) (l.take k) = c ∧ c ≤ k)) (fun _ i => len - (intOf i).toNat)
  case atStart => exact ⟨0, 0, Nat.zero_le _, rfl, rfl, ⟨rfl, Nat.le_refl _⟩⟩
  case round =>
    obtain ⟨k, c, hk, rfl, rfl, hr⟩ := hrel
    by_cases hlt : k < len
    · obtain ⟨pb, off, x, rfl, hx, hxl, hc⟩ := HH.out.at hlt
      have hct := cnt_take (fun y => kindF y == kd) hx
      have hcb : (c : Int) ≤ 1000000 := by have := hr.out.2; omega
      cases hq : (kindF x == kd) with
      | true =>
        have HNEW : Hid (cnt (fun y => kindF y == kd) (l.take (k + 1)) = c + 1 ∧ c + 1 ≤ k + 1) := ⟨by rw [hct, hq, hr.out.1]; rfl, by have := hr.out.2; omega⟩
        have HB := Lib.hid (kind2_any x hxl w)
        have e1 : ((kindF x : Int) == (kd : Int)) = true := by rw [show ((kindF x : Int) == (kd : Int)) = (kindF x == kd) by rw [Bool.eq_iff_iff, beq_iff_eq, beq_iff_eq]; omega]; exact hq
        generalize kindF x = K at *
        clear hct hr hx hq
        go_wp2_with fail
        refine (HB.out).mono ?_
        rintro e w' ⟨rfl, rfl⟩
        go_wp2
        go_round
        case rel => exact ⟨k + 1, c + 1, by omega, by go_num, by go_num, HNEW⟩
        case measure => simp [intOf]; omega
      | false =>
        have HNEW : Hid (cnt (fun y => kindF y == kd) (l.take (k + 1)) = c ∧ c ≤ k + 1) := ⟨by rw [hct, hq, hr.out.1]; rfl, by have := hr.out.2; omega⟩
        have HB := Lib.hid (kind2_any x hxl w)
        have e1 : ((kindF x : Int) == (kd : Int)) = false := by rw [show ((kindF x : Int) == (kd : Int)) = (kindF x == kd) by rw [Bool.eq_iff_iff, beq_iff_eq, beq_iff_eq]; omega]; exact hq
        generalize kindF x = K at *
        clear hct hr hx hq
        go_wp2_with fail
        refine (HB.out).mono ?_
        rintro e w' ⟨rfl, rfl⟩
        go_wp2
        go_round
        case rel => exact ⟨k + 1, c, by omega, rfl, by go_num, HNEW⟩
        case measure => simp [intOf]; omega
    · obtain rfl : k = len := by omega
      have HRES : Hid (cnt (fun y => kindF y == kd) l = c) := by
        have := hr.out.1
        rwa [List.take_of_length_le (by rw [HH.out.len]; exact Nat.le_refl _)] at this
      clear hr
      go_wp2
      go_ret
      exact ⟨by rw [HRES.out]; rfl, rfl⟩

set_option maxRecDepth 100000 in
set_option maxHeartbeats 1600000 in
theorem between2_any (p : Option Addr) (len cap : Nat) (l : List Nat) (w : World) (h : Words w p len l) (hlen : len ≤ 1000000) (lo up : Nat) (hlo : lo < 18446744073709551616) (hup : up < 18446744073709551616) :
    Calls Try.prog 59 #[.slice p len cap, .int .u64 (lo : Int), .int .u64 (up : Int)] w (OneInt2 w (cnt (fun y => !aheadF y lo && !aheadF up y) l)) := by
  have hi : (len : Int) ≤ 1000000 := by omega
  have HH := Lib.hid h
  clear h
  go_enter Try.func59, Try.ntmps59
  go_wp2
  go_loop [7, 8] (fun v i => ∃ k c : Nat, k ≤ len ∧ v = .int .i64 (c : Int) ∧ i = .int .i64 k ∧ Hid (cnt (fun y => !aheadF y lo && !aheadF up y) (l.take k) = c ∧ c ≤ k)) (fun _ i => len - (intOf i).toNat)
  case atStart => exact ⟨0, 0, Nat.zero_le _, rfl, rfl, ⟨rfl, Nat.le_refl _⟩⟩
  case round =>
    obtain ⟨k, c, hk, rfl, rfl, hr⟩ := hrel
    by_cases hlt : k < len
    · obtain ⟨pb, off, x, rfl, hx, hxl, hc⟩ := HH.out.at hlt
      have hct := cnt_take (fun y => !aheadF y lo && !aheadF up y) hx
      have hcb : (c : Int) ≤ 1000000 := by have := hr.out.2; omega
      cases h1 : aheadF x lo with
      | true =>
        have HNEW : Hid (cnt (fun y => !aheadF y lo && !aheadF up y) (l.take (k + 1)) = c ∧ c ≤ k + 1) := ⟨by rw [hct, h1, hr.out.1]; rfl, by have := hr.out.2; omega⟩
        have HB := Lib.hid (before2_any x lo hxl hlo w)
        rw [h1] at HB
        clear hct hr hx h1
        go_wp2_with fail
        refine (HB.out).mono ?_
        rintro e w' ⟨rfl, rfl⟩
        go_wp2
        go_round
        case rel => exact ⟨k + 1, c, by omega, rfl, by go_num, HNEW⟩
        case measure => simp [intOf]; omega
      | false =>
        have HB := Lib.hid (before2_any x lo hxl hlo w)
        have HB2 := Lib.hid (before2_any up x hup hxl w)
        rw [h1] at HB
        cases h2 : aheadF up x with
        | true =>
          have HNEW : Hid (cnt (fun y => !aheadF y lo && !aheadF up y) (l.take (k + 1)) = c ∧ c ≤ k + 1) := ⟨by rw [hct, h1, h2, hr.out.1]; rfl, by have := hr.out.2; omega⟩
          rw [h2] at HB2
          clear hct hr hx h1 h2
          go_wp2_with fail
          refine (HB.out).mono ?_
          rintro e w' ⟨rfl, rfl⟩
          go_wp2_with fail
          refine (HB2.out).mono ?_
          rintro e w' ⟨rfl, rfl⟩
          go_wp2
          go_round
          case rel => exact ⟨k + 1, c, by omega, rfl, by go_num, HNEW⟩
          case measure => simp [intOf]; omega
        | false =>
          have HNEW : Hid (cnt (fun y => !aheadF y lo && !aheadF up y) (l.take (k + 1)) = c + 1 ∧ c + 1 ≤ k + 1) := ⟨by rw [hct, h1, h2, hr.out.1]; rfl, by have := hr.out.2; omega⟩
          rw [h2] at HB2
          clear hct hr hx h1 h2
          go_wp2_with fail
          refine (HB.out).mono ?_
          rintro e w' ⟨rfl, rfl⟩
          go_wp2_with fail
          refine (HB2.out).mono ?_
          rintro e w' ⟨rfl, rfl⟩
          go_wp2
          go_round
          case rel => exact ⟨k + 1, c + 1, by omega, by go_num, by go_num, HNEW⟩
          case measure => simp [intOf]; omega
    · obtain rfl : k = len := by omega
      have HRES : Hid (cnt (fun y => !aheadF y lo && !aheadF up y) l = c) := by
        have := hr.out.1
        rwa [List.take_of_length_le (by rw [HH.out.len]; exact Nat.le_refl _)] at this
      clear hr
      go_wp2
      go_ret
      exact ⟨by rw [HRES.out]; rfl, rfl⟩

/-- The reference's choice. -/
def pickR (l : List Nat) (k : Int) : Option Nat := l.find? fun x => decide ((cnt (fun y => aheadF y x) l : Int) ≤ k) && decide (k < (cnt (fun y => aheadF y x) l : Int) + (cnt (fun y => y == x) l : Int))
def PickPost (w : World) (o : Option Nat) (e : Ending) (w' : World) : Prop := e = .returned (.tuple #[.int .u64 ((o.getD 0 : Nat) : Int), .bool o.isSome]) ∧ w = w'
set_option maxRecDepth 100000 in
set_option maxHeartbeats 1600000 in
theorem pick2_any (p : Option Addr) (len cap : Nat) (l : List Nat) (w : World) (h : Words w p len l) (hlen : len ≤ 1000000) (k : Int) :
    Calls Try.prog 53 #[.slice p len cap, .int .i64 k] w (PickPost w (pickR l k)) := by
  have hi : (len : Int) ≤ 1000000 := by omega
  have HH := Lib.hid h
  have HLE := Lib.hid hlen
  have HHW := Lib.hid h
  clear h hlen
  go_enter Try.func53, Try.ntmps53
  go_wp2
  go_loop [6] (fun i => ∃ j : Nat, j ≤ len ∧ i = .int .i64 j ∧ Hid (pickR l k = (l.drop j).find? fun x => decide ((cnt (fun y => aheadF y x) l : Int) ≤ k) && decide (k < (cnt (fun y => aheadF y x) l : Int) + (cnt (fun y => y == x) l : Int)))) (fun i => len - (intOf i).toNat)
  case atStart => exact ⟨0, Nat.zero_le _, rfl, rfl⟩
  case round =>
    obtain ⟨j, hj, rfl, hr⟩ := hrel
    by_cases hlt : j < len
    · have HW := Lib.hid HHW.out
      obtain ⟨pb, off, x, rfl, hx, hxl, hc⟩ := HH.out.at hlt
      have HA := Lib.hid (ahead2_any _ len cap l w HHW.out HLE.out x hxl)
      have HE := Lib.hid (equal2_any _ len cap l w HHW.out HLE.out x)
      have hdr : l.drop j = x :: l.drop (j + 1) := by
        have hjl : j < l.length := by rw [HHW.out.len]; exact hlt
        rw [List.drop_eq_getElem_cons hjl]
        rw [List.getElem?_eq_getElem hjl] at hx
        rw [Option.some.inj hx]
      have hca := cnt_le (fun y => aheadF y x) l
      have hce := cnt_le (fun y => y == x) l
      have hpr := hr.out
      rw [hdr, List.find?_cons] at hpr
      rw [HHW.out.len] at hca hce
      have ha1 : (cnt (fun y => aheadF y x) l : Int) ≤ 1000000 := by have := HLE.out; omega
      have he1 : (cnt (fun y => y == x) l : Int) ≤ 1000000 := by have := HLE.out; omega
      have hsum : IntKind.i64.wrap ((cnt (fun y => aheadF y x) l : Int) + (cnt (fun y => y == x) l : Int)) = (cnt (fun y => aheadF y x) l : Int) + (cnt (fun y => y == x) l : Int) := by rw [IntKind.wrap_i64]; omega
      generalize cnt (fun y => aheadF y x) l = a at *
      generalize cnt (fun y => y == x) l = b at *
      cases h1 : decide ((a : Int) ≤ k) with
      | false =>
        rw [h1] at hpr
        have HNEW : Hid (pickR l k = (l.drop (j + 1)).find? fun x => decide ((cnt (fun y => aheadF y x) l : Int) ≤ k) && decide (k < (cnt (fun y => aheadF y x) l : Int) + (cnt (fun y => y == x) l : Int))) := hpr
        clear hpr hr hdr hx hsum
        go_wp2_with fail
        refine (HA.out).mono ?_
        rintro e w' ⟨rfl, rfl⟩
        go_wp2
        go_round
        case rel => exact ⟨j + 1, by omega, by go_num, HNEW⟩
        case measure => simp [intOf]; omega
      | true =>
        cases h2 : decide (k < (a : Int) + (b : Int)) with
        | false =>
          rw [h1, h2] at hpr
          have HNEW : Hid (pickR l k = (l.drop (j + 1)).find? fun x => decide ((cnt (fun y => aheadF y x) l : Int) ≤ k) && decide (k < (cnt (fun y => aheadF y x) l : Int) + (cnt (fun y => y == x) l : Int))) := hpr
          clear hpr hr hdr hx hsum
          go_wp2_with fail
          refine (HA.out).mono ?_
          rintro e w' ⟨rfl, rfl⟩
          go_wp2_with fail
          refine (HE.out).mono ?_
          rintro e w' ⟨rfl, rfl⟩
          go_wp2
          go_round
          case rel => exact ⟨j + 1, by omega, by go_num, HNEW⟩
          case measure => simp [intOf]; omega
        | true =>
          rw [h1, h2] at hpr
          have HRES : Hid (pickR l k = some x) := hpr
          clear hpr hr hdr hx hsum
          go_wp2_with fail
          refine (HA.out).mono ?_
          rintro e w' ⟨rfl, rfl⟩
          go_wp2_with fail
          refine (HE.out).mono ?_
          rintro e w' ⟨rfl, rfl⟩
          go_wp2
          go_ret2
          exact ⟨by rw [HRES.out]; rfl, rfl⟩
    · obtain rfl : j = len := by omega
      have HRES : Hid (pickR l k = none) := by
        have := hr.out
        rw [List.drop_of_length_le (by rw [HHW.out.len]; exact Nat.le_refl _)] at this
        exact this
      clear hr
      go_wp2
      go_ret2
      exact ⟨by rw [HRES.out]; rfl, rfl⟩
end Go.Proofs.Ytmllbdiljjimmaa

