/- The walk of package digits: what a text is as an int. -/
import Derived.Test.YtlcgmniahdngdaaGreatDoorDRead
namespace Go.Proofs.YtlcgmniahdngdaaGreatDoor
open Go.RowKit

theorem trim_none {l : List UInt8} (h : Lib.hasPrefix l [45] = false) : Lib.trimPrefix l [45] = l := by
  unfold Lib.trimPrefix; rw [h]; rfl
/-- The roads of ReadInt. -/
def IntWay (P : Bool) (t0 : Bool) (er : Int) (n : Int) (v : Int) (e : Int) : Prop :=
  (er = 2 ∧ v = 0 ∧ e = 2) ∨ (er = 0 ∧ P = true ∧ t0 = true ∧ v = 0 ∧ e = 2) ∨ (er = 4 ∧ t0 = false ∧ v = 0 ∧ e = 4) ∨
  (er = 0 ∧ P = true ∧ t0 = false ∧ 0 < n ∧ n ≤ 9223372036854775807 ∧ v = -n ∧ e = 0) ∨ (er = 0 ∧ P = true ∧ t0 = false ∧ n = 9223372036854775808 ∧ v = -9223372036854775808 ∧ e = 0) ∨ (er = 0 ∧ P = true ∧ t0 = false ∧ 9223372036854775808 < n ∧ v = 0 ∧ e = 4) ∨
  (er = 0 ∧ P = false ∧ n ≤ 9223372036854775807 ∧ v = n ∧ e = 0) ∨ (er = 0 ∧ P = false ∧ 9223372036854775808 ≤ n ∧ v = 0 ∧ e = 4)
theorem int_way (l : List UInt8) : IntWay (Lib.hasPrefix l [45]) (decide (Lib.trimPrefix l [45] = [48])) (readE 10 (Lib.trimPrefix l [45]) : Int) (readN 10 (Lib.trimPrefix l [45]) : Int) (intN l) (intE l : Int) := by
  unfold IntWay intN intE
  cases hP : Lib.hasPrefix l [45]
  · rw [trim_none hP, if_neg Bool.false_ne_true, if_neg Bool.false_ne_true]
    have hz := @read_zero l
    rcases readE_is 10 l with h | ⟨h, h2⟩ | ⟨h, h2⟩
    · rw [h, if_pos rfl]
      by_cases h3 : readN 10 l < 9223372036854775808
      · rw [if_pos ⟨rfl, h3⟩, if_pos h3]
        exact .inr (.inr (.inr (.inr (.inr (.inr (.inl ⟨rfl, rfl, by omega, rfl, rfl⟩))))))
      · rw [if_neg (fun k => h3 k.2), if_neg h3]
        exact .inr (.inr (.inr (.inr (.inr (.inr (.inr ⟨rfl, rfl, by omega, rfl, rfl⟩))))))
    · rw [h, if_neg (fun k => by cases k.1), if_neg (by decide)]
      exact .inl ⟨rfl, rfl, rfl⟩
    · rw [h, if_neg (fun k => by cases k.1), if_neg (by decide)]
      refine .inr (.inr (.inl ⟨rfl, decide_eq_false (fun hl => ?_), rfl, rfl⟩))
      have hd := (read_dig 10 (by decide) (by decide) (u := 0) (by decide)).2
      rw [digB_small (by decide)] at hd
      rw [hl, show ([48] : List UInt8) = [charV 0] by rfl, hd] at h
      cases h
  · rw [if_pos rfl, if_pos rfl]
    generalize Lib.trimPrefix l [45] = t at *
    have hz := @read_zero t
    have hl := readN_lt 10 t
    rcases readE_is 10 t with h | ⟨h, h2⟩ | ⟨h, h2⟩
    · rw [h, if_pos rfl]
      have hz2 := hz h
      by_cases h0 : readN 10 t = 0
      · rw [if_neg (fun k => by omega), if_pos h0, decide_eq_true (hz2.1 h0)]
        exact .inr (.inl ⟨rfl, rfl, rfl, rfl, rfl⟩)
      · rw [if_neg h0, decide_eq_false (fun k => h0 (hz2.2 k))]
        by_cases h3 : readN 10 t ≤ 9223372036854775808
        · rw [if_pos ⟨rfl, by omega, h3⟩, if_pos h3]
          by_cases h4 : readN 10 t = 9223372036854775808
          · refine .inr (.inr (.inr (.inr (.inl ⟨rfl, rfl, rfl, by omega, by omega, rfl⟩))))
          · refine .inr (.inr (.inr (.inl ⟨rfl, rfl, rfl, by omega, by omega, rfl, rfl⟩)))
        · rw [if_neg (fun k => h3 k.2.2), if_neg h3]
          exact .inr (.inr (.inr (.inr (.inr (.inl ⟨rfl, rfl, rfl, by omega, rfl, rfl⟩)))))
    · rw [h, if_neg (fun k => by cases k.1), if_neg (by decide)]
      exact .inl ⟨rfl, rfl, rfl⟩
    · rw [h, if_neg (fun k => by cases k.1), if_neg (by decide)]
      refine .inr (.inr (.inl ⟨rfl, decide_eq_false (fun hl => ?_), rfl, rfl⟩))
      have hd := (read_dig 10 (by decide) (by decide) (u := 0) (by decide)).2
      rw [digB_small (by decide)] at hd
      rw [hl, show ([48] : List UInt8) = [charV 0] by rfl, hd] at h
      cases h

set_option maxRecDepth 100000 in
set_option maxHeartbeats 1600000 in
theorem readint_any (l : List UInt8) (hl : l.length ≤ 2000) (w : World) (hE : ErrW w) : Calls Tryz.prog 53 #[.string (bytesOf l)] w (RiPost w l) := by
  have HCP : Hid (∀ w, Calls Tryz.prog 58 #[.string (bytesOf l), .string ⟨#[45]⟩] w fun e w' => e = .returned (.tuple #[.string (bytesOf (Lib.trimPrefix l [45])), .bool (Lib.hasPrefix l [45])]) ∧ w' = w) := fun w => Tryz.strings_CutPrefix (bytesOf l) ⟨#[45]⟩ w
  have l1 := trim_len l [45]
  have HRD := Lib.hid (read10 (Lib.trimPrefix l [45]) (by omega) w hE)
  have ht := bytes_is (Lib.trimPrefix l [45]) [48]
  have hw := int_way l
  have hlt := readN_lt 10 (Lib.trimPrefix l [45])
  unfold RiPost
  unfold RdPost at HRD
  generalize intN l = V at *
  obtain ⟨E, hE2⟩ : ∃ E, (intE l : Int) = E := ⟨_, rfl⟩
  obtain ⟨N, hN⟩ : ∃ N, (readN 10 (Lib.trimPrefix l [45]) : Int) = N := ⟨_, rfl⟩
  obtain ⟨R, hR⟩ : ∃ R, (readE 10 (Lib.trimPrefix l [45]) : Int) = R := ⟨_, rfl⟩
  have hN0 : 0 ≤ N ∧ N < 18446744073709551616 := by omega
  rw [hE2, hN, hR] at hw
  rw [hE2]
  rw [hN, hR] at HRD
  clear hE2 hN hR hlt
  generalize decide (Lib.trimPrefix l [45] = [48]) = t0 at *
  generalize Lib.hasPrefix l [45] = P at *
  generalize bytesOf (Lib.trimPrefix l [45]) = T at *
  generalize bytesOf l = S at *
  clear hE l1 hl
  have hneg : 0 < N → N ≤ 9223372036854775808 → IntKind.i64.wrap (IntKind.u64.wrap (-N)) = -N := fun h1 h2 => by
    rw [IntKind.wrap_u64, IntKind.wrap_i64]; omega
  obtain ⟨hn0, hn1⟩ := hN0
  unfold IntWay at hw
  rcases hw with ⟨rfl, rfl, rfl⟩ | ⟨rfl, rfl, rfl, rfl, rfl⟩ | ⟨rfl, rfl, rfl, rfl⟩ | ⟨rfl, rfl, rfl, h4, h5, rfl, rfl⟩ | ⟨rfl, rfl, rfl, rfl, rfl, rfl⟩ | ⟨rfl, rfl, rfl, h4, rfl, rfl⟩ | ⟨rfl, rfl, h4, rfl, rfl⟩ | ⟨rfl, rfl, h4, rfl, rfl⟩
  all_goals
    try (have hng := hneg (by omega) (by omega))
    try (have hq : (N == 9223372036854775808) = false := by (rw [beq_eq_false_iff_ne]; omega))
    clear hneg
    try (cases P)
    all_goals
      try (cases t0)
      all_goals
        go_enter Tryz.func53, Tryz.ntmps53
        go_wp2_with fail
        refine (HCP.out _).mono ?_
        rintro e w' ⟨rfl, rfl⟩
        go_wp2_with fail
        refine (HRD.out).mono ?_
        rintro e w1 ⟨rfl, hf⟩
        have HF := Lib.hid hf
        clear hf
        go_wp2
        go_ret2
        exact ⟨rfl, HF.out⟩
end Go.Proofs.YtlcgmniahdngdaaGreatDoor
