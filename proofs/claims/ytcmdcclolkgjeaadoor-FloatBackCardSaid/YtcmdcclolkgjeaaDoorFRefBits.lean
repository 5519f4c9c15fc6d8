/- The walk of the reference: the bits of a whole number and a power of two. -/
import Derived.Test.YtcmdcclolkgjeaaDoorFRef
namespace Go.Proofs.YtcmdcclolkgjeaaDoor
open Go.RowKit

def BitRel (m : Nat) (e : Int) (k : Nat) (y : Int) : Prop := (-1074 ≤ e → -1074 ≤ y ∧ k * 2 ^ (y + 1074).toNat = m * 2 ^ (e + 1074).toNat) ∧ (m ≠ 0 → k ≠ 0)
theorem BitRel.step {m : Nat} {e : Int} {k : Nat} {y : Int} (h : BitRel m e k y) (hy : -1074 < y) : BitRel m e (k * 2) (y - 1) := by
  refine ⟨fun he => ⟨by omega, ?_⟩, fun hm => by have := h.2 hm; omega⟩
  rw [← (h.1 he).2, show (y + 1074).toNat = (y - 1 + 1074).toNat + 1 by omega, Nat.pow_succ, Nat.mul_assoc, Nat.mul_comm 2]
def BitsPost (w : World) (m : Nat) (x : Int) (e : Ending) (w' : World) : Prop :=
  w = w' ∧ ∃ (r : Nat) (ok : Bool), r < 9223372036854775808 ∧ e = .returned (.tuple #[.int .u64 (r : Int), .bool ok]) ∧
    ∀ c, c < 9223372036854775808 → kindF c < 3 → -1074 ≤ x → magF c = m * 2 ^ (x + 1074).toNat → m ≠ 0 → r = c ∧ ok = true

set_option maxRecDepth 100000 in
set_option maxHeartbeats 1600000 in
theorem bits2_any (m : Nat) (hm : m < 9007199254740992) (x : Int) (hx : -2000 ≤ x ∧ x ≤ 2000) (w : World) : Calls Tryd.prog 46 #[.int .u64 (m : Int), .int .i64 x] w (BitsPost w m x) := by
  obtain ⟨MI, hMI⟩ : ∃ MI, (m : Int) = MI := ⟨_, rfl⟩
  have hm0 : 0 ≤ MI ∧ MI < 9007199254740992 := by omega
  have hm1 : m = MI.toNat := by omega
  rw [hMI]
  have HM := Lib.hid hm1
  clear hm hMI hm1
  go_enter Tryd.func46, Tryd.ntmps46
  go_wp2
  go_loop [0, 1] (fun a x' => ∃ A y : Int, a = .int .u64 A ∧ x' = .int .i64 y ∧ (0 ≤ A ∧ A < 9007199254740992) ∧ (-2000 ≤ y ∧ y ≤ 2000) ∧ Hid (BitRel m x A.toNat y)) (fun _ x' => (intOf x' + 1074).toNat)
  case atStart => exact ⟨MI, x, rfl, rfl, hm0, hx, by rw [← HM.out]; exact ⟨fun h => ⟨h, rfl⟩, fun h => h⟩⟩
  case round =>
    obtain ⟨A, y, rfl, rfl, hA, hy, hr⟩ := hrel
    obtain ⟨hA0, hA1⟩ := hA
    obtain ⟨hy0, hy1⟩ := hy
    by_cases hc : A < 4503599627370496 ∧ -1074 < y
    · have hst : Hid (BitRel m x (A * 2).toNat (y - 1)) := by
        rw [show (A * 2).toNat = A.toNat * 2 by omega]; exact hr.out.step hc.2
      obtain ⟨hc1, hc2⟩ := hc
      clear hr
      go_wp2
      go_round
      case rel => exact ⟨A * 2, y - 1, by go_num, by go_num, by omega, by omega, hst⟩
      case measure => simp [intOf]; omega
    · have hfin : Hid (∀ c, c < 9223372036854775808 → kindF c < 3 → -1074 ≤ x → magF c = m * 2 ^ (x + 1074).toNat → m ≠ 0 → -1074 ≤ y ∧ y ≤ 971 ∧ magF c = A.toNat * 2 ^ (y + 1074).toNat) := by
        intro c hcl hk hx1 hmag hm1
        obtain ⟨r1, r2⟩ := hr.out.1 hx1
        refine ⟨r1, ?_, by rw [hmag, r2]⟩
        rcases Int.lt_or_le 971 y with h9 | h9
        · exfalso
          have h1 : 4503599627370496 ≤ A.toNat := by omega
          have h2 := mag_num_lt hk
          obtain ⟨K, hK⟩ : ∃ K, K = 2046 := ⟨_, rfl⟩
          rw [mag_inf K hK, hmag, ← r2] at h2
          have h3 : 4503599627370496 * 2 ^ K ≤ A.toNat * 2 ^ (y + 1074).toNat := Nat.mul_le_mul h1 (Nat.pow_le_pow_right (by decide) (by omega))
          omega
        · exact h9
      clear hr
      by_cases h1 : 971 < y
      · go_wp2
        go_ret2
        exact ⟨rfl, 0, false, by decide, rfl, fun c h2 h3 h4 h5 h6 => by have := (hfin.out c h2 h3 h4 h5 h6).2.1; omega⟩
      by_cases h2 : y < -1074
      · go_wp2
        all_goals
          go_ret2
          exact ⟨rfl, 0, false, by decide, rfl, fun c h2 h3 h4 h5 h6 => by have := (hfin.out c h2 h3 h4 h5 h6).1; omega⟩
      by_cases h3 : A < 4503599627370496
      · have hres : Hid (∀ c, c < 9223372036854775808 → kindF c < 3 → -1074 ≤ x → magF c = m * 2 ^ (x + 1074).toNat → m ≠ 0 → A.toNat = c) := by
          intro c h4 h5 h6 h7 h8
          obtain ⟨j1, j2, j3⟩ := hfin.out c h4 h5 h6 h7 h8
          refine mag_inj (by omega) h4 ?_
          have := mag_at 0 A.toNat (by omega) (.inl rfl) (by decide)
          rw [Nat.zero_mul, Nat.zero_add] at this
          rw [this, j3, show (y + 1074).toNat = 0 by omega]
        have hAc : ((A.toNat : Nat) : Int) = A := by omega
        have HAC := Lib.hid hAc
        have hy2 : y ≤ -1074 := by omega
        clear hfin hc hAc
        go_wp2
        go_ret2
        exact ⟨rfl, A.toNat, true, by omega, by rw [HAC.out]; rfl, fun c h4 h5 h6 h7 h8 => ⟨hres.out c h4 h5 h6 h7 h8, rfl⟩⟩
      · obtain ⟨Y, hY⟩ : ∃ Y : Nat, y + 1074 = (Y : Int) := ⟨(y + 1074).toNat, by omega⟩
        have hres : Hid (∀ c, c < 9223372036854775808 → kindF c < 3 → -1074 ≤ x → magF c = m * 2 ^ (x + 1074).toNat → m ≠ 0 → Y * 4503599627370496 + A.toNat = c) := by
          intro c h4 h5 h6 h7 h8
          obtain ⟨j1, j2, j3⟩ := hfin.out c h4 h5 h6 h7 h8
          refine mag_inj (by omega) h4 ?_
          rw [mag_at Y A.toNat (by omega) (.inr (by omega)) (by omega), j3, show (y + 1074).toNat = Y by omega]
        have hAc : ((Y * 4503599627370496 + A.toNat : Nat) : Int) = (Y : Int) * 4503599627370496 + A := by omega
        have HAC := Lib.hid hAc
        have hY2 : (Y : Int) ≤ 2045 := by omega
        clear hfin hc hAc
        go_wp2
        go_ret2
        exact ⟨rfl, Y * 4503599627370496 + A.toNat, true, by omega, by rw [HAC.out]; rfl, fun c h4 h5 h6 h7 h8 => ⟨hres.out c h4 h5 h6 h7 h8, rfl⟩⟩
end Go.Proofs.YtcmdcclolkgjeaaDoor
