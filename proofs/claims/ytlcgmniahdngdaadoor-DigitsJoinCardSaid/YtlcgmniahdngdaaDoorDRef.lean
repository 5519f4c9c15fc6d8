/- The walks of the reference: numbers read and written to the bases 10 and 16. -/
import Derived.Test.YtlcgmniahdngdaaDoorDInt
namespace Go.Proofs.YtlcgmniahdngdaaDoor
open Go.RowKit

set_option maxRecDepth 100000 in
theorem digit_any (c : UInt8) (w : World) : Calls Tryd.prog 39 #[.int .u8 (c.toNat : Int)] w fun e w' => e = .returned (.int .u64 (digV c : Int)) ∧ w = w' := by
  have hc := c.toNat_lt
  by_cases h1 : 48 ≤ c.toNat ∧ c.toNat ≤ 57
  · have hv : (digV c : Int) = (c.toNat : Int) - 48 := by unfold digV; rw [if_pos h1]; omega
    rw [hv]
    obtain ⟨h2, h3⟩ := h1
    clear hv
    go_enter Tryd.func39, Tryd.ntmps39
    go_wp2
    go_ret
    exact ⟨rfl, rfl⟩
  · by_cases h4 : 97 ≤ c.toNat ∧ c.toNat ≤ 102
    · have hv : (digV c : Int) = (c.toNat : Int) - 97 + 10 := by unfold digV; rw [if_neg h1, if_pos h4]; omega
      rw [hv]
      obtain ⟨h2, h3⟩ := h4
      clear hv h1
      go_enter Tryd.func39, Tryd.ntmps39
      go_wp2
      all_goals
        go_ret
        exact ⟨rfl, rfl⟩
    · have hv : (digV c : Int) = 99 := by unfold digV; rw [if_neg h1, if_neg h4]; rfl
      rw [hv]
      clear hv
      have hq : ¬ ((48 : Int) ≤ c.toNat ∧ (c.toNat : Int) ≤ 57) := by omega
      have hq2 : ¬ ((97 : Int) ≤ c.toNat ∧ (c.toNat : Int) ≤ 102) := by omega
      go_enter Tryd.func39, Tryd.ntmps39
      go_wp2
      all_goals
        first
        | (exfalso; omega)
        | (go_ret
           exact ⟨rfl, rfl⟩)

/-- How far a text is read to the base 10. -/
def Rel10 (l : List UInt8) (k : Nat) (a : Int) (ov : Bool) : Prop := (∀ c ∈ l.take k, digV c < 10) ∧ ((ov = true ∧ 18446744073709551616 ≤ valB 10 0 (l.take k)) ∨ (ov = false ∧ a = (valB 10 0 (l.take k) : Int)))
set_option maxRecDepth 100000 in
set_option maxHeartbeats 1600000 in
theorem rread_10 (l : List UInt8) (hl : l.length ≤ 2000) (w : World) : Calls Tryd.prog 27 #[.string (bytesOf l), .int .u64 10] w (RdPost w 10 l) := by
  have hsz : (bytesOf l).size = l.length := bytes_size l
  have HDG := Lib.hid digit_any
  by_cases h00 : l = []
  · subst h00
    obtain ⟨r1, r2⟩ := read_form (b := 10) (l := []) (fun h => h.ne rfl)
    have HR := Lib.hid (And.intro r1 r2)
    rw [List.length_nil] at hsz
    clear r1 r2 hl
    generalize bytesOf [] = S at *
    go_enter Tryd.func27, Tryd.ntmps27
    go_wp2
    go_ret2
    exact ⟨by rw [HR.out.1, HR.out.2]; rfl, Fr.refl _ _⟩
  have hp : 0 < l.length := List.length_pos_iff.2 h00
  have hp2 : 0 < (bytesOf l).size := by omega
  have hne0 : ((l.length : Int) == 0) = false := by rw [beq_eq_false_iff_ne]; omega
  by_cases h48 : 1 < l.length ∧ l.head? = some 48
  · obtain ⟨r1, r2⟩ := read_form (b := 10) (l := l) (fun h => h.head h48.1 h48.2)
    have HR := Lib.hid (And.intro r1 r2)
    have hg : (bytesOf l)[0] = 48 := by
      obtain ⟨c, r, rfl⟩ : ∃ c r, l = c :: r := by cases l with | nil => exact absurd rfl h00 | cons c r => exact ⟨c, r, rfl⟩
      have := h48.2
      show c = 48
      simpa using this
    obtain ⟨hl1, _⟩ := h48
    clear r1 r2 hl h00
    go_enter Tryd.func27, Tryd.ntmps27
    go_wp2
    go_ret2
    exact ⟨by rw [HR.out.1, HR.out.2]; rfl, Fr.refl _ _⟩
  obtain ⟨c0, hg, hc0⟩ : ∃ c0, (bytesOf l)[0] = c0 ∧ (1 < l.length → ((c0.toNat : Int) == 48) = false) := by
    obtain ⟨c, r, rfl⟩ : ∃ c r, l = c :: r := by cases l with | nil => exact absurd rfl h00 | cons c r => exact ⟨c, r, rfl⟩
    refine ⟨c, rfl, fun h1 => ?_⟩
    rw [beq_eq_false_iff_ne]; intro h
    exact h48 ⟨h1, by rw [show c = 48 from UInt8.toNat_inj.1 (by rw [show (48 : UInt8).toNat = 48 by rfl]; omega)]; rfl⟩
  have HPL : Hid ((∀ c ∈ l, digV c < 10) → Plain 10 l) := fun h => ⟨h00, fun h1 h2 => h48 ⟨h1, h2⟩, h⟩
  clear h48 h00
  by_cases hl1 : 1 < l.length
  · have hc1 := hc0 hl1
    clear hc0
    go_enter Tryd.func27, Tryd.ntmps27
    go_wp2
    go_loop [6, 7, 8] (fun n o i => ∃ (k : Nat) (a : Int) (ov : Bool), n = .int .u64 a ∧ o = .bool ov ∧ i = .int .i64 (k : Int) ∧ k ≤ l.length ∧ (0 ≤ a ∧ a < 18446744073709551616) ∧ Hid (Rel10 l k a ov)) (fun _ _ i => l.length - (intOf i).toNat)
    case atStart => exact ⟨0, 0, false, rfl, rfl, rfl, Nat.zero_le _, by decide, ⟨fun c hc => by simp at hc, .inr ⟨rfl, rfl⟩⟩⟩
    case round =>
      obtain ⟨k, a, ov, rfl, rfl, rfl, hk, ha, hr⟩ := hrel
      obtain ⟨a0, a1⟩ := ha
      by_cases hlt : k < l.length
      · have hsz2 : k < (bytesOf l).size := by omega
        have hget : (bytesOf l)[k] = l[k] := rfl
        have HC := Lib.hid (HDG.out l[k])
        have hdl : digV l[k] ≤ 99 := by unfold digV; split <;> (try split) <;> omega
        obtain ⟨D, hD⟩ : ∃ D, (digV l[k] : Int) = D := ⟨_, rfl⟩
        have hDl : 0 ≤ D ∧ D ≤ 99 := by omega
        obtain ⟨D0, D1⟩ := hDl
        by_cases hbig : 10 ≤ digV l[k]
        · obtain ⟨r1, r2⟩ := read_form (b := 10) (l := l) (fun h => by have := h.digs _ (List.getElem_mem hlt); omega)
          have HR := Lib.hid (And.intro r1 r2)
          have hDB : 10 ≤ D := by omega
          rw [hD] at HC
          clear r1 r2 hr hbig hD hdl
          go_wp2_with fail
          refine (HC.out _).mono ?_
          rintro e w' ⟨rfl, rfl⟩
          go_wp2
          go_ret2
          exact ⟨by rw [HR.out.1, HR.out.2]; rfl, Fr.refl _ _⟩
        · have hDB : D < 10 := by omega
          have HST : Hid (∀ ov', (ov' = true ↔ (ov = true ∨ (18446744073709551615 - D) / 10 < a)) → Rel10 l (k + 1) (IntKind.u64.wrap (a * 10 + D)) ov') := fun ov' hov => by
            obtain ⟨i1, i2⟩ := hr.out
            have htk : l.take (k + 1) = l.take k ++ [l[k]] := by rw [List.take_add_one, List.getElem?_eq_getElem hlt]; rfl
            unfold Rel10
            rw [htk, valB_snoc]
            refine ⟨fun c hc => ?_, ?_⟩
            · rcases List.mem_append.1 hc with h | h
              · exact i1 c h
              · rw [List.mem_singleton.1 h]; omega
            · rcases i2 with ⟨h1, h2⟩ | ⟨h1, h2⟩
              · exact .inl ⟨hov.2 (.inl h1), by omega⟩
              · cases ov' with
                | true =>
                  rcases hov.1 rfl with h3 | h3
                  · rw [h1] at h3; cases h3
                  · exact .inl ⟨rfl, by omega⟩
                | false =>
                  have h3 : ¬ (18446744073709551615 - D) / 10 < a := fun h => by have := hov.2 (.inr h); cases this
                  refine .inr ⟨rfl, ?_⟩
                  rw [IntKind.wrap_u64]
                  omega
          have HWB : Hid (0 ≤ IntKind.u64.wrap (a * 10 + D) ∧ IntKind.u64.wrap (a * 10 + D) < 18446744073709551616) := by
            rw [IntKind.wrap_u64]
            show _ ∧ _
            omega
          have HWW : Hid (IntKind.u64.wrap (IntKind.u64.wrap (a * 10) + D) = IntKind.u64.wrap (a * 10 + D)) := by
            rw [IntKind.wrap_u64, IntKind.wrap_u64, IntKind.wrap_u64]
            show _ = _
            omega
          rw [hD] at HC
          clear hr hbig hD hdl
          by_cases hov : (18446744073709551615 - D) / 10 < a
          · have HN := Lib.hid (HST.out true ⟨fun _ => .inr hov, fun _ => rfl⟩)
            clear HST
            go_wp2_with fail
            refine (HC.out _).mono ?_
            rintro e w' ⟨rfl, rfl⟩
            go_wp2
            go_round
            case rel => exact ⟨k + 1, IntKind.u64.wrap (a * 10 + D), true, by rw [HWW.out], rfl, by go_num, by omega, HWB.out, HN⟩
            case measure => simp [intOf]; omega
          · have hov2 : a ≤ (18446744073709551615 - D) / 10 := by omega
            have HN := Lib.hid (HST.out ov ⟨fun h => .inl h, fun h => by rcases h with h | h; exact h; exact absurd h hov⟩)
            have HW : Hid (IntKind.u64.wrap (a * 10 + D) = a * 10 + D) := by
              rw [IntKind.wrap_u64]
              show _ = _
              omega
            have hlt2 : a * 10 + D < 18446744073709551616 := by omega
            rw [HW.out] at HN
            clear HST HWB hov
            go_wp2_with fail
            refine (HC.out _).mono ?_
            rintro e w' ⟨rfl, rfl⟩
            go_wp2
            go_round
            case rel => exact ⟨k + 1, a * 10 + D, ov, rfl, rfl, by go_num, by omega, by omega, HN⟩
            case measure => simp [intOf]; omega
      · obtain rfl : k = l.length := by omega
        obtain ⟨i1, i2⟩ := hr.out
        rw [List.take_length] at i1 i2
        rcases i2 with ⟨rfl, h2⟩ | ⟨rfl, h2⟩
        · obtain ⟨r1, r2⟩ := read_over (HPL.out i1) (by omega)
          have HR := Lib.hid (And.intro r1 r2)
          clear r1 r2 i1 h2 hr
          go_wp2
          go_ret2
          exact ⟨by rw [HR.out.1, HR.out.2]; rfl, Fr.refl _ _⟩
        · obtain ⟨r1, r2⟩ := read_ok (HPL.out i1) (by omega)
          rw [← Int.ofNat_inj] at r1
          have HR : Hid ((readN 10 l : Int) = a ∧ readE 10 l = 0) := ⟨by omega, r2⟩
          clear r1 r2 i1 h2 hr
          go_wp2
          go_ret2
          exact ⟨by rw [HR.out.1, HR.out.2]; rfl, Fr.refl _ _⟩
  · have hl2 : l.length = 1 := by omega
    rw [hl2] at hsz
    clear hc0 hl1
    go_enter Tryd.func27, Tryd.ntmps27
    go_wp2
    go_loop [6, 7, 8] (fun n o i => ∃ (k : Nat) (a : Int) (ov : Bool), n = .int .u64 a ∧ o = .bool ov ∧ i = .int .i64 (k : Int) ∧ k ≤ l.length ∧ (0 ≤ a ∧ a < 18446744073709551616) ∧ Hid (Rel10 l k a ov)) (fun _ _ i => l.length - (intOf i).toNat)
    case atStart => exact ⟨0, 0, false, rfl, rfl, rfl, Nat.zero_le _, by decide, ⟨fun c hc => by simp at hc, .inr ⟨rfl, rfl⟩⟩⟩
    case round =>
      obtain ⟨k, a, ov, rfl, rfl, rfl, hk, ha, hr⟩ := hrel
      obtain ⟨a0, a1⟩ := ha
      by_cases hlt : k < l.length
      · have hsz2 : k < (bytesOf l).size := by omega
        have hget : (bytesOf l)[k] = l[k] := rfl
        have HC := Lib.hid (HDG.out l[k])
        have hdl : digV l[k] ≤ 99 := by unfold digV; split <;> (try split) <;> omega
        obtain ⟨D, hD⟩ : ∃ D, (digV l[k] : Int) = D := ⟨_, rfl⟩
        have hDl : 0 ≤ D ∧ D ≤ 99 := by omega
        obtain ⟨D0, D1⟩ := hDl
        by_cases hbig : 10 ≤ digV l[k]
        · obtain ⟨r1, r2⟩ := read_form (b := 10) (l := l) (fun h => by have := h.digs _ (List.getElem_mem hlt); omega)
          have HR := Lib.hid (And.intro r1 r2)
          have hDB : 10 ≤ D := by omega
          rw [hD] at HC
          clear r1 r2 hr hbig hD hdl
          go_wp2_with fail
          refine (HC.out _).mono ?_
          rintro e w' ⟨rfl, rfl⟩
          go_wp2
          go_ret2
          exact ⟨by rw [HR.out.1, HR.out.2]; rfl, Fr.refl _ _⟩
        · have hDB : D < 10 := by omega
          have HST : Hid (∀ ov', (ov' = true ↔ (ov = true ∨ (18446744073709551615 - D) / 10 < a)) → Rel10 l (k + 1) (IntKind.u64.wrap (a * 10 + D)) ov') := fun ov' hov => by
            obtain ⟨i1, i2⟩ := hr.out
            have htk : l.take (k + 1) = l.take k ++ [l[k]] := by rw [List.take_add_one, List.getElem?_eq_getElem hlt]; rfl
            unfold Rel10
            rw [htk, valB_snoc]
            refine ⟨fun c hc => ?_, ?_⟩
            · rcases List.mem_append.1 hc with h | h
              · exact i1 c h
              · rw [List.mem_singleton.1 h]; omega
            · rcases i2 with ⟨h1, h2⟩ | ⟨h1, h2⟩
              · exact .inl ⟨hov.2 (.inl h1), by omega⟩
              · cases ov' with
                | true =>
                  rcases hov.1 rfl with h3 | h3
                  · rw [h1] at h3; cases h3
                  · exact .inl ⟨rfl, by omega⟩
                | false =>
                  have h3 : ¬ (18446744073709551615 - D) / 10 < a := fun h => by have := hov.2 (.inr h); cases this
                  refine .inr ⟨rfl, ?_⟩
                  rw [IntKind.wrap_u64]
                  omega
          have HWB : Hid (0 ≤ IntKind.u64.wrap (a * 10 + D) ∧ IntKind.u64.wrap (a * 10 + D) < 18446744073709551616) := by
            rw [IntKind.wrap_u64]
            show _ ∧ _
            omega
          have HWW : Hid (IntKind.u64.wrap (IntKind.u64.wrap (a * 10) + D) = IntKind.u64.wrap (a * 10 + D)) := by
            rw [IntKind.wrap_u64, IntKind.wrap_u64, IntKind.wrap_u64]
            show _ = _
            omega
          rw [hD] at HC
          clear hr hbig hD hdl
          by_cases hov : (18446744073709551615 - D) / 10 < a
          · have HN := Lib.hid (HST.out true ⟨fun _ => .inr hov, fun _ => rfl⟩)
            clear HST
            go_wp2_with fail
            refine (HC.out _).mono ?_
            rintro e w' ⟨rfl, rfl⟩
            go_wp2
            go_round
            case rel => exact ⟨k + 1, IntKind.u64.wrap (a * 10 + D), true, by rw [HWW.out], rfl, by go_num, by omega, HWB.out, HN⟩
            case measure => simp [intOf]; omega
          · have hov2 : a ≤ (18446744073709551615 - D) / 10 := by omega
            have HN := Lib.hid (HST.out ov ⟨fun h => .inl h, fun h => by rcases h with h | h; exact h; exact absurd h hov⟩)
            have HW : Hid (IntKind.u64.wrap (a * 10 + D) = a * 10 + D) := by
              rw [IntKind.wrap_u64]
              show _ = _
              omega
            have hlt2 : a * 10 + D < 18446744073709551616 := by omega
            rw [HW.out] at HN
            clear HST HWB hov
            go_wp2_with fail
            refine (HC.out _).mono ?_
            rintro e w' ⟨rfl, rfl⟩
            go_wp2
            go_round
            case rel => exact ⟨k + 1, a * 10 + D, ov, rfl, rfl, by go_num, by omega, by omega, HN⟩
            case measure => simp [intOf]; omega
      · obtain rfl : k = l.length := by omega
        obtain ⟨i1, i2⟩ := hr.out
        rw [List.take_length] at i1 i2
        rcases i2 with ⟨rfl, h2⟩ | ⟨rfl, h2⟩
        · obtain ⟨r1, r2⟩ := read_over (HPL.out i1) (by omega)
          have HR := Lib.hid (And.intro r1 r2)
          clear r1 r2 i1 h2 hr
          go_wp2
          go_ret2
          exact ⟨by rw [HR.out.1, HR.out.2]; rfl, Fr.refl _ _⟩
        · obtain ⟨r1, r2⟩ := read_ok (HPL.out i1) (by omega)
          rw [← Int.ofNat_inj] at r1
          have HR : Hid ((readN 10 l : Int) = a ∧ readE 10 l = 0) := ⟨by omega, r2⟩
          clear r1 r2 i1 h2 hr
          go_wp2
          go_ret2
          exact ⟨by rw [HR.out.1, HR.out.2]; rfl, Fr.refl _ _⟩
/-- How far a text is read to the base 16. -/
def Rel16 (l : List UInt8) (k : Nat) (a : Int) (ov : Bool) : Prop := (∀ c ∈ l.take k, digV c < 16) ∧ ((ov = true ∧ 18446744073709551616 ≤ valB 16 0 (l.take k)) ∨ (ov = false ∧ a = (valB 16 0 (l.take k) : Int)))
set_option maxRecDepth 100000 in
set_option maxHeartbeats 1600000 in
theorem rread_16 (l : List UInt8) (hl : l.length ≤ 2000) (w : World) : Calls Tryd.prog 27 #[.string (bytesOf l), .int .u64 16] w (RdPost w 16 l) := by
  have hsz : (bytesOf l).size = l.length := bytes_size l
  have HDG := Lib.hid digit_any
  by_cases h00 : l = []
  · subst h00
    obtain ⟨r1, r2⟩ := read_form (b := 16) (l := []) (fun h => h.ne rfl)
    have HR := Lib.hid (And.intro r1 r2)
    rw [List.length_nil] at hsz
    clear r1 r2 hl
    generalize bytesOf [] = S at *
    go_enter Tryd.func27, Tryd.ntmps27
    go_wp2
    go_ret2
    exact ⟨by rw [HR.out.1, HR.out.2]; rfl, Fr.refl _ _⟩
  have hp : 0 < l.length := List.length_pos_iff.2 h00
  have hp2 : 0 < (bytesOf l).size := by omega
  have hne0 : ((l.length : Int) == 0) = false := by rw [beq_eq_false_iff_ne]; omega
  by_cases h48 : 1 < l.length ∧ l.head? = some 48
  · obtain ⟨r1, r2⟩ := read_form (b := 16) (l := l) (fun h => h.head h48.1 h48.2)
    have HR := Lib.hid (And.intro r1 r2)
    have hg : (bytesOf l)[0] = 48 := by
      obtain ⟨c, r, rfl⟩ : ∃ c r, l = c :: r := by cases l with | nil => exact absurd rfl h00 | cons c r => exact ⟨c, r, rfl⟩
      have := h48.2
      show c = 48
      simpa using this
    obtain ⟨hl1, _⟩ := h48
    clear r1 r2 hl h00
    go_enter Tryd.func27, Tryd.ntmps27
    go_wp2
    go_ret2
    exact ⟨by rw [HR.out.1, HR.out.2]; rfl, Fr.refl _ _⟩
  obtain ⟨c0, hg, hc0⟩ : ∃ c0, (bytesOf l)[0] = c0 ∧ (1 < l.length → ((c0.toNat : Int) == 48) = false) := by
    obtain ⟨c, r, rfl⟩ : ∃ c r, l = c :: r := by cases l with | nil => exact absurd rfl h00 | cons c r => exact ⟨c, r, rfl⟩
    refine ⟨c, rfl, fun h1 => ?_⟩
    rw [beq_eq_false_iff_ne]; intro h
    exact h48 ⟨h1, by rw [show c = 48 from UInt8.toNat_inj.1 (by rw [show (48 : UInt8).toNat = 48 by rfl]; omega)]; rfl⟩
  have HPL : Hid ((∀ c ∈ l, digV c < 16) → Plain 16 l) := fun h => ⟨h00, fun h1 h2 => h48 ⟨h1, h2⟩, h⟩
  clear h48 h00
  by_cases hl1 : 1 < l.length
  · have hc1 := hc0 hl1
    clear hc0
    go_enter Tryd.func27, Tryd.ntmps27
    go_wp2
    go_loop [6, 7, 8] (fun n o i => ∃ (k : Nat) (a : Int) (ov : Bool), n = .int .u64 a ∧ o = .bool ov ∧ i = .int .i64 (k : Int) ∧ k ≤ l.length ∧ (0 ≤ a ∧ a < 18446744073709551616) ∧ Hid (Rel16 l k a ov)) (fun _ _ i => l.length - (intOf i).toNat)
    case atStart => exact ⟨0, 0, false, rfl, rfl, rfl, Nat.zero_le _, by decide, ⟨fun c hc => by simp at hc, .inr ⟨rfl, rfl⟩⟩⟩
    case round =>
      obtain ⟨k, a, ov, rfl, rfl, rfl, hk, ha, hr⟩ := hrel
      obtain ⟨a0, a1⟩ := ha
      by_cases hlt : k < l.length
      · have hsz2 : k < (bytesOf l).size := by omega
        have hget : (bytesOf l)[k] = l[k] := rfl
        have HC := Lib.hid (HDG.out l[k])
        have hdl : digV l[k] ≤ 99 := by unfold digV; split <;> (try split) <;> omega
        obtain ⟨D, hD⟩ : ∃ D, (digV l[k] : Int) = D := ⟨_, rfl⟩
        have hDl : 0 ≤ D ∧ D ≤ 99 := by omega
        obtain ⟨D0, D1⟩ := hDl
        by_cases hbig : 16 ≤ digV l[k]
        · obtain ⟨r1, r2⟩ := read_form (b := 16) (l := l) (fun h => by have := h.digs _ (List.getElem_mem hlt); omega)
          have HR := Lib.hid (And.intro r1 r2)
          have hDB : 16 ≤ D := by omega
          rw [hD] at HC
          clear r1 r2 hr hbig hD hdl
          go_wp2_with fail
          refine (HC.out _).mono ?_
          rintro e w' ⟨rfl, rfl⟩
          go_wp2
          go_ret2
          exact ⟨by rw [HR.out.1, HR.out.2]; rfl, Fr.refl _ _⟩
        · have hDB : D < 16 := by omega
          have HST : Hid (∀ ov', (ov' = true ↔ (ov = true ∨ (18446744073709551615 - D) / 16 < a)) → Rel16 l (k + 1) (IntKind.u64.wrap (a * 16 + D)) ov') := fun ov' hov => by
            obtain ⟨i1, i2⟩ := hr.out
            have htk : l.take (k + 1) = l.take k ++ [l[k]] := by rw [List.take_add_one, List.getElem?_eq_getElem hlt]; rfl
            unfold Rel16
            rw [htk, valB_snoc]
            refine ⟨fun c hc => ?_, ?_⟩
            · rcases List.mem_append.1 hc with h | h
              · exact i1 c h
              · rw [List.mem_singleton.1 h]; omega
            · rcases i2 with ⟨h1, h2⟩ | ⟨h1, h2⟩
              · exact .inl ⟨hov.2 (.inl h1), by omega⟩
              · cases ov' with
                | true =>
                  rcases hov.1 rfl with h3 | h3
                  · rw [h1] at h3; cases h3
                  · exact .inl ⟨rfl, by omega⟩
                | false =>
                  have h3 : ¬ (18446744073709551615 - D) / 16 < a := fun h => by have := hov.2 (.inr h); cases this
                  refine .inr ⟨rfl, ?_⟩
                  rw [IntKind.wrap_u64]
                  omega
          have HWB : Hid (0 ≤ IntKind.u64.wrap (a * 16 + D) ∧ IntKind.u64.wrap (a * 16 + D) < 18446744073709551616) := by
            rw [IntKind.wrap_u64]
            show _ ∧ _
            omega
          have HWW : Hid (IntKind.u64.wrap (IntKind.u64.wrap (a * 16) + D) = IntKind.u64.wrap (a * 16 + D)) := by
            rw [IntKind.wrap_u64, IntKind.wrap_u64, IntKind.wrap_u64]
            show _ = _
            omega
          rw [hD] at HC
          clear hr hbig hD hdl
          by_cases hov : (18446744073709551615 - D) / 16 < a
          · have HN := Lib.hid (HST.out true ⟨fun _ => .inr hov, fun _ => rfl⟩)
            clear HST
            go_wp2_with fail
            refine (HC.out _).mono ?_
            rintro e w' ⟨rfl, rfl⟩
            go_wp2
            go_round
            case rel => exact ⟨k + 1, IntKind.u64.wrap (a * 16 + D), true, by rw [HWW.out], rfl, by go_num, by omega, HWB.out, HN⟩
            case measure => simp [intOf]; omega
          · have hov2 : a ≤ (18446744073709551615 - D) / 16 := by omega
            have HN := Lib.hid (HST.out ov ⟨fun h => .inl h, fun h => by rcases h with h | h; exact h; exact absurd h hov⟩)
            have HW : Hid (IntKind.u64.wrap (a * 16 + D) = a * 16 + D) := by
              rw [IntKind.wrap_u64]
              show _ = _
              omega
            have hlt2 : a * 16 + D < 18446744073709551616 := by omega
            rw [HW.out] at HN
            clear HST HWB hov
            go_wp2_with fail
            refine (HC.out _).mono ?_
            rintro e w' ⟨rfl, rfl⟩
            go_wp2
            go_round
            case rel => exact ⟨k + 1, a * 16 + D, ov, rfl, rfl, by go_num, by omega, by omega, HN⟩
            case measure => simp [intOf]; omega
      · obtain rfl : k = l.length := by omega
        obtain ⟨i1, i2⟩ := hr.out
        rw [List.take_length] at i1 i2
        rcases i2 with ⟨rfl, h2⟩ | ⟨rfl, h2⟩
        · obtain ⟨r1, r2⟩ := read_over (HPL.out i1) (by omega)
          have HR := Lib.hid (And.intro r1 r2)
          clear r1 r2 i1 h2 hr
          go_wp2
          go_ret2
          exact ⟨by rw [HR.out.1, HR.out.2]; rfl, Fr.refl _ _⟩
        · obtain ⟨r1, r2⟩ := read_ok (HPL.out i1) (by omega)
          rw [← Int.ofNat_inj] at r1
          have HR : Hid ((readN 16 l : Int) = a ∧ readE 16 l = 0) := ⟨by omega, r2⟩
          clear r1 r2 i1 h2 hr
          go_wp2
          go_ret2
          exact ⟨by rw [HR.out.1, HR.out.2]; rfl, Fr.refl _ _⟩
  · have hl2 : l.length = 1 := by omega
    rw [hl2] at hsz
    clear hc0 hl1
    go_enter Tryd.func27, Tryd.ntmps27
    go_wp2
    go_loop [6, 7, 8] (fun n o i => ∃ (k : Nat) (a : Int) (ov : Bool), n = .int .u64 a ∧ o = .bool ov ∧ i = .int .i64 (k : Int) ∧ k ≤ l.length ∧ (0 ≤ a ∧ a < 18446744073709551616) ∧ Hid (Rel16 l k a ov)) (fun _ _ i => l.length - (intOf i).toNat)
    case atStart => exact ⟨0, 0, false, rfl, rfl, rfl, Nat.zero_le _, by decide, ⟨fun c hc => by simp at hc, .inr ⟨rfl, rfl⟩⟩⟩
    case round =>
      obtain ⟨k, a, ov, rfl, rfl, rfl, hk, ha, hr⟩ := hrel
      obtain ⟨a0, a1⟩ := ha
      by_cases hlt : k < l.length
      · have hsz2 : k < (bytesOf l).size := by omega
        have hget : (bytesOf l)[k] = l[k] := rfl
        have HC := Lib.hid (HDG.out l[k])
        have hdl : digV l[k] ≤ 99 := by unfold digV; split <;> (try split) <;> omega
        obtain ⟨D, hD⟩ : ∃ D, (digV l[k] : Int) = D := ⟨_, rfl⟩
        have hDl : 0 ≤ D ∧ D ≤ 99 := by omega
        obtain ⟨D0, D1⟩ := hDl
        by_cases hbig : 16 ≤ digV l[k]
        · obtain ⟨r1, r2⟩ := read_form (b := 16) (l := l) (fun h => by have := h.digs _ (List.getElem_mem hlt); omega)
          have HR := Lib.hid (And.intro r1 r2)
          have hDB : 16 ≤ D := by omega
          rw [hD] at HC
          clear r1 r2 hr hbig hD hdl
          go_wp2_with fail
          refine (HC.out _).mono ?_
          rintro e w' ⟨rfl, rfl⟩
          go_wp2
          go_ret2
          exact ⟨by rw [HR.out.1, HR.out.2]; rfl, Fr.refl _ _⟩
        · have hDB : D < 16 := by omega
          have HST : Hid (∀ ov', (ov' = true ↔ (ov = true ∨ (18446744073709551615 - D) / 16 < a)) → Rel16 l (k + 1) (IntKind.u64.wrap (a * 16 + D)) ov') := fun ov' hov => by
            obtain ⟨i1, i2⟩ := hr.out
            have htk : l.take (k + 1) = l.take k ++ [l[k]] := by rw [List.take_add_one, List.getElem?_eq_getElem hlt]; rfl
            unfold Rel16
            rw [htk, valB_snoc]
            refine ⟨fun c hc => ?_, ?_⟩
            · rcases List.mem_append.1 hc with h | h
              · exact i1 c h
              · rw [List.mem_singleton.1 h]; omega
            · rcases i2 with ⟨h1, h2⟩ | ⟨h1, h2⟩
              · exact .inl ⟨hov.2 (.inl h1), by omega⟩
              · cases ov' with
                | true =>
                  rcases hov.1 rfl with h3 | h3
                  · rw [h1] at h3; cases h3
                  · exact .inl ⟨rfl, by omega⟩
                | false =>
                  have h3 : ¬ (18446744073709551615 - D) / 16 < a := fun h => by have := hov.2 (.inr h); cases this
                  refine .inr ⟨rfl, ?_⟩
                  rw [IntKind.wrap_u64]
                  omega
          have HWB : Hid (0 ≤ IntKind.u64.wrap (a * 16 + D) ∧ IntKind.u64.wrap (a * 16 + D) < 18446744073709551616) := by
            rw [IntKind.wrap_u64]
            show _ ∧ _
            omega
          have HWW : Hid (IntKind.u64.wrap (IntKind.u64.wrap (a * 16) + D) = IntKind.u64.wrap (a * 16 + D)) := by
            rw [IntKind.wrap_u64, IntKind.wrap_u64, IntKind.wrap_u64]
            show _ = _
            omega
          rw [hD] at HC
          clear hr hbig hD hdl
          by_cases hov : (18446744073709551615 - D) / 16 < a
          · have HN := Lib.hid (HST.out true ⟨fun _ => .inr hov, fun _ => rfl⟩)
            clear HST
            go_wp2_with fail
            refine (HC.out _).mono ?_
            rintro e w' ⟨rfl, rfl⟩
            go_wp2
            go_round
            case rel => exact ⟨k + 1, IntKind.u64.wrap (a * 16 + D), true, by rw [HWW.out], rfl, by go_num, by omega, HWB.out, HN⟩
            case measure => simp [intOf]; omega
          · have hov2 : a ≤ (18446744073709551615 - D) / 16 := by omega
            have HN := Lib.hid (HST.out ov ⟨fun h => .inl h, fun h => by rcases h with h | h; exact h; exact absurd h hov⟩)
            have HW : Hid (IntKind.u64.wrap (a * 16 + D) = a * 16 + D) := by
              rw [IntKind.wrap_u64]
              show _ = _
              omega
            have hlt2 : a * 16 + D < 18446744073709551616 := by omega
            rw [HW.out] at HN
            clear HST HWB hov
            go_wp2_with fail
            refine (HC.out _).mono ?_
            rintro e w' ⟨rfl, rfl⟩
            go_wp2
            go_round
            case rel => exact ⟨k + 1, a * 16 + D, ov, rfl, rfl, by go_num, by omega, by omega, HN⟩
            case measure => simp [intOf]; omega
      · obtain rfl : k = l.length := by omega
        obtain ⟨i1, i2⟩ := hr.out
        rw [List.take_length] at i1 i2
        rcases i2 with ⟨rfl, h2⟩ | ⟨rfl, h2⟩
        · obtain ⟨r1, r2⟩ := read_over (HPL.out i1) (by omega)
          have HR := Lib.hid (And.intro r1 r2)
          clear r1 r2 i1 h2 hr
          go_wp2
          go_ret2
          exact ⟨by rw [HR.out.1, HR.out.2]; rfl, Fr.refl _ _⟩
        · obtain ⟨r1, r2⟩ := read_ok (HPL.out i1) (by omega)
          rw [← Int.ofNat_inj] at r1
          have HR : Hid ((readN 16 l : Int) = a ∧ readE 16 l = 0) := ⟨by omega, r2⟩
          clear r1 r2 i1 h2 hr
          go_wp2
          go_ret2
          exact ⟨by rw [HR.out.1, HR.out.2]; rfl, Fr.refl _ _⟩

end Go.Proofs.YtlcgmniahdngdaaDoor
