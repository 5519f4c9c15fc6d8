/- The walk of the law FloatNear. -/
import Derived.Test.YtcmdcclolkgjeaaDoorFWords
import Derived.Deep.DeepCutAuto
namespace Go.Proofs.YtcmdcclolkgjeaaDoor
open Go.RowKit

set_option maxRecDepth 100000 in
set_option maxHeartbeats 1600000 in
theorem FloatNear_any (a b : Nat) (ha : a < 18446744073709551616) (hb : b < 18446744073709551616) (W : World) (hT : TabD W) (hP : Lib.TabIs Tryd.prog W "internal/strconv.uint64pow10" .u64 Lib.pow10Tab) :
    Calls Tryd.prog 7 #[.int .u64 (a : Int), .int .u64 (b : Int)] W (LawPost W) := by
  have HL := Lib.hid (lives_any W hT hP)
  have H1 := Lib.hid (of_any a W)
  have H2 := Lib.hid (of_any b W)
  have HK := Lib.hid (kind_any a ha W)
  clear hT hP
  by_cases hk : kindF a = 4 ∨ kindF a = 3 ∨ kindF a = 0
  · have hkc : kindF a = 4 ∨ kindF a = 3 ∨ kindF a = 0 := hk
    generalize kindF a = K at *
    clear hk
    rcases hkc with rfl | rfl | rfl
    all_goals
      go_enter Tryd.func7, Tryd.ntmps7
      go_wp2_with (first | ((with_reducible refine (H1.out).mono ?_); rintro e w' ⟨rfl, rfl⟩) | ((with_reducible refine (H2.out).mono ?_); rintro e w' ⟨rfl, rfl⟩) | ((with_reducible refine (HK.out).mono ?_); rintro e w' ⟨rfl, rfl⟩))
      refine (HL.out).mono ?_
      rintro e w1 ⟨rfl, hf⟩
      have HF := Lib.hid hf
      clear hf
      go_wp2
      go_ret
      exact ⟨rfl, HF.out⟩
  · rw [not_or, not_or] at hk
    obtain ⟨n4, n3, n0⟩ := hk
    obtain ⟨u, d, hu, hd, hul, hdl, ku, kd, keu, ked, hdu, hud⟩ := near_ex ha n4 n3 n0
    have g1 : (FloatKind.f64.format.order u a == some .gt) = true := gt_order hul ha ku n4 (lt_of_key ha hul (by omega) (.inl n0))
    have g2 : (FloatKind.f64.format.order d a == some .lt) = true := lt_order hdl ha kd n4 (lt_of_key hdl ha (by omega) (.inr n0))
    have g3 : ((FloatKind.f64.format.order a b == some .lt) && (FloatKind.f64.format.order b u == some .lt)) = false := by
      rw [Bool.and_eq_false_iff]
      cases h1 : (FloatKind.f64.format.order a b == some .lt)
      · exact .inl rfl
      · cases h2 : (FloatKind.f64.format.order b u == some .lt)
        · exact .inr rfl
        · have k1 := key_of_lt ha hb (order_lt ha hb h1).1
          have k2 := key_of_lt hb hul (order_lt hb hul h2).1
          omega
    have g4 : ((FloatKind.f64.format.order d b == some .lt) && (FloatKind.f64.format.order b a == some .lt)) = false := by
      rw [Bool.and_eq_false_iff]
      cases h1 : (FloatKind.f64.format.order d b == some .lt)
      · exact .inl rfl
      · cases h2 : (FloatKind.f64.format.order b a == some .lt)
        · exact .inr rfl
        · have k1 := key_of_lt hdl hb (order_lt hdl hb h1).1
          have k2 := key_of_lt hb ha (order_lt hb ha h2).1
          omega
    have HU := Lib.hid (up_any a ha W)
    have HD := Lib.hid (down_any a ha W)
    rw [hu] at HU
    rw [hd] at HD
    have HKU := Lib.hid (kind_any u hul W)
    have HKD := Lib.hid (kind_any d hdl W)
    have HDU := Lib.hid (down_any u hul W)
    have HUD := Lib.hid (up_any d hdl W)
    have HS := Lib.hid (same_any a a W)
    rw [beq_self_eq_true] at HS
    have q4 : ((kindF a : Int) == 4) = false := by rw [beq_eq_false_iff_ne]; omega
    have q3 : ((kindF a : Int) == 3) = false := by rw [beq_eq_false_iff_ne]; omega
    have q0 : ((kindF a : Int) == 0) = false := by rw [beq_eq_false_iff_ne]; omega
    have HX : Hid ((kindF u ≠ 0 → downF u = a) ∧ (kindF d ≠ 0 → upF d = a)) := ⟨hdu, hud⟩
    obtain ⟨x1, hx1⟩ : ∃ x, (FloatKind.f64.format.order a b == some .lt) = x := ⟨_, rfl⟩
    obtain ⟨x2, hx2⟩ : ∃ x, (FloatKind.f64.format.order b u == some .lt) = x := ⟨_, rfl⟩
    obtain ⟨y1, hy1⟩ : ∃ x, (FloatKind.f64.format.order d b == some .lt) = x := ⟨_, rfl⟩
    obtain ⟨y2, hy2⟩ : ∃ x, (FloatKind.f64.format.order b a == some .lt) = x := ⟨_, rfl⟩
    rw [hx1, hx2] at g3
    rw [hy1, hy2] at g4
    have G3 := Lib.hid g3
    have G4 := Lib.hid g4
    generalize kindF a = K at *
    clear n4 n3 n0 hu hd hul hdl ku kd keu ked hdu hud g3 g4 ha hb
    go_enter Tryd.func7, Tryd.ntmps7
    go_upto_region 5 with (first | ((with_reducible refine (H1.out).mono ?_); rintro e w' ⟨rfl, rfl⟩) | ((with_reducible refine (H2.out).mono ?_); rintro e w' ⟨rfl, rfl⟩) | ((with_reducible refine (HK.out).mono ?_); rintro e w' ⟨rfl, rfl⟩) | ((with_reducible refine (HU.out).mono ?_); rintro e w' ⟨rfl, rfl⟩) | ((with_reducible refine (HD.out).mono ?_); rintro e w' ⟨rfl, rfl⟩))
    go_cut [60] (fun v w' => v = .bool false ∧ w' = W)
    case first =>
      have h3 := G3.out
      have h4 := G4.out
      cases x1
      · clear h3
        cases y1
        · clear h4
          go_wp2
          go_meet
          exact ⟨rfl, rfl⟩
        · obtain rfl : y2 = false := by cases y2; rfl; cases h4
          clear h4
          go_wp2
          go_meet
          exact ⟨rfl, rfl⟩
      · obtain rfl : x2 = false := by cases x2; rfl; cases h3
        clear h3
        cases y1
        · clear h4
          go_wp2
          go_meet
          exact ⟨rfl, rfl⟩
        · obtain rfl : y2 = false := by cases y2; rfl; cases h4
          clear h4
          go_wp2
          go_meet
          exact ⟨rfl, rfl⟩
    case rest =>
    obtain ⟨rfl, hw⟩ := hcut
    subst hw
    clear g1 g2 hx1 hx2 hy1 hy2 G3 G4 q4 q3 q0
    have hxo := HX.out
    by_cases c1 : kindF u = 0
    · rw [c1] at HKU
      by_cases c2 : kindF d = 0
      · rw [c2] at HKD
        clear c1 c2 hxo
        go_wp2_with (first | ((with_reducible refine (HKU.out).mono ?_); rintro e w' ⟨rfl, rfl⟩) | ((with_reducible refine (HKD.out).mono ?_); rintro e w' ⟨rfl, rfl⟩))
        refine (HL.out).mono ?_
        rintro e w1 ⟨rfl, hf⟩
        have HF := Lib.hid hf
        clear hf
        go_wp2
        go_ret
        exact ⟨rfl, HF.out⟩
      · have r2 : ((kindF d : Int) != 0) = true := by simp [c2]
        rw [hxo.2 c2] at HUD
        generalize kindF d = k2 at *
        clear c1 c2 hxo HX
        go_wp2_with (first | ((with_reducible refine (HKU.out).mono ?_); rintro e w' ⟨rfl, rfl⟩) | ((with_reducible refine (HKD.out).mono ?_); rintro e w' ⟨rfl, rfl⟩) | ((with_reducible refine (HUD.out).mono ?_); rintro e w' ⟨rfl, rfl⟩) | ((with_reducible refine (HS.out).mono ?_); rintro e w' ⟨rfl, rfl⟩))
        refine (HL.out).mono ?_
        rintro e w1 ⟨rfl, hf⟩
        have HF := Lib.hid hf
        clear hf
        go_wp2
        go_ret
        exact ⟨rfl, HF.out⟩
    · have r1 : ((kindF u : Int) != 0) = true := by simp [c1]
      rw [hxo.1 c1] at HDU
      by_cases c2 : kindF d = 0
      · rw [c2] at HKD
        generalize kindF u = k1 at *
        clear c1 c2 hxo HX
        go_wp2_with (first | ((with_reducible refine (HKU.out).mono ?_); rintro e w' ⟨rfl, rfl⟩) | ((with_reducible refine (HKD.out).mono ?_); rintro e w' ⟨rfl, rfl⟩) | ((with_reducible refine (HDU.out).mono ?_); rintro e w' ⟨rfl, rfl⟩) | ((with_reducible refine (HS.out).mono ?_); rintro e w' ⟨rfl, rfl⟩))
        refine (HL.out).mono ?_
        rintro e w1 ⟨rfl, hf⟩
        have HF := Lib.hid hf
        clear hf
        go_wp2
        go_ret
        exact ⟨rfl, HF.out⟩
      · have r2 : ((kindF d : Int) != 0) = true := by simp [c2]
        rw [hxo.2 c2] at HUD
        generalize kindF u = k1 at *
        generalize kindF d = k2 at *
        clear c1 c2 hxo HX
        go_wp2_with (first | ((with_reducible refine (HKU.out).mono ?_); rintro e w' ⟨rfl, rfl⟩) | ((with_reducible refine (HKD.out).mono ?_); rintro e w' ⟨rfl, rfl⟩) | ((with_reducible refine (HDU.out).mono ?_); rintro e w' ⟨rfl, rfl⟩) | ((with_reducible refine (HUD.out).mono ?_); rintro e w' ⟨rfl, rfl⟩) | ((with_reducible refine (HS.out).mono ?_); rintro e w' ⟨rfl, rfl⟩))
        refine (HL.out).mono ?_
        rintro e w1 ⟨rfl, hf⟩
        have HF := Lib.hid hf
        clear hf
        go_wp2
        go_ret
        exact ⟨rfl, HF.out⟩

theorem FloatNear_of {x y : Int} (hx : (Lit.int .u64 x).wf = true) (hy : (Lit.int .u64 y).wf = true) (W : World) (hL : laidMetH Tryd.prog Rows.floatNearRow.laid W) : Calls Tryd.prog 7 #[.int .u64 x, .int .u64 y] W (LawPost W) := by
  obtain ⟨a, rfl, ha⟩ := u64_nat hx
  obtain ⟨b, rfl, hb⟩ := u64_nat hy
  exact FloatNear_any a b ha hb W (tabs_of_laid hL).1 (tabs_of_laid hL).2
end Go.Proofs.YtcmdcclolkgjeaaDoor
