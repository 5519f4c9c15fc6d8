/- The walk of the law FloatBest. -/
import Derived.Test.YtcmdcclolkgjeaaDoorFWords
namespace Go.Proofs.YtcmdcclolkgjeaaDoor
open Go.RowKit

set_option maxRecDepth 100000 in
set_option maxHeartbeats 3200000 in
theorem best2_least (p : Option Addr) (len cap : Nat) (fs : List Nat) (w : World) (h : Words w p len fs) (hlen : len ≤ 1000000) :
    Calls Tryd.prog 16 #[.slice p len cap, .bool false] w (NatOne w (bestF aheadF 9218868437227405312 fs)) := by
  have hi : (len : Int) ≤ 1000000 := by omega
  have HH := Lib.hid h
  clear h
  go_enter Tryd.func16, Tryd.ntmps16
  go_wp2
  go_loop [6] (fun i => ∃ k : Nat, k ≤ len ∧ i = .int .i64 k ∧ Hid ((fs.take k).any (kindF · == 4) = false)) (fun i => len - (intOf i).toNat)
  case atStart => exact ⟨0, Nat.zero_le _, rfl, rfl⟩
  case round =>
    obtain ⟨k, hk, rfl, hr⟩ := hrel
    by_cases hlt : k < len
    · obtain ⟨pb, off, f, rfl, hx, hfl, hc⟩ := HH.out.at hlt
      have HN := Lib.hid (nan2_any f hfl w)
      by_cases h4 : kindF f = 4
      · have HRES : Hid (bestF aheadF 9218868437227405312 fs = 9221120237041090560) := by
          have : fs.any (kindF · == 4) = true := List.any_eq_true.2 ⟨f, List.mem_of_getElem? hx, by rw [h4]; rfl⟩
          unfold bestF
          rw [if_pos this]
          exact rfl
        rw [show (kindF f == 4) = true by rw [h4]; rfl] at HN
        clear hx h4 hr
        go_wp2_with fail
        refine (HN.out).mono ?_
        rintro e w' ⟨rfl, rfl⟩
        go_wp2
        go_ret
        exact ⟨by rw [HRES.out]; rfl, rfl⟩
      · have h4b : (kindF f == 4) = false := by rw [beq_eq_false_iff_ne]; exact h4
        rw [h4b] at HN
        have hany : Hid ((fs.take (k + 1)).any (kindF · == 4) = false) := by
          rw [List.take_add_one, hx, Option.toList_some, List.any_append, hr.out]
          have : [f].any (kindF · == 4) = false := by simp [h4b]
          rw [this]; exact rfl
        clear hx h4 h4b hr
        go_wp2_with fail
        refine (HN.out).mono ?_
        rintro e w' ⟨rfl, rfl⟩
        go_wp2
        go_round
        case rel => exact ⟨k + 1, by omega, by go_num, hany⟩
        case measure => simp [intOf]; omega
    · obtain rfl : k = len := by omega
      have HNO : Hid (fs.any (kindF · == 4) = false) := by
        have := hr.out
        rwa [List.take_of_length_le (by rw [HH.out.len]; exact Nat.le_refl _)] at this
      clear hr hlt hk
      go_wp2
      go_loop [5, 7] (fun v i => ∃ j o : Nat, j ≤ k ∧ v = .int .u64 (o : Int) ∧ i = .int .i64 j ∧ Hid ((bestO aheadF (fs.take j)).getD 9218868437227405312 = o)) (fun _ i => k - (intOf i).toNat)
      case atStart => exact ⟨0, 9218868437227405312, Nat.zero_le _, rfl, rfl, rfl⟩
      case round =>
        obtain ⟨j, o, hj, rfl, rfl, hr⟩ := hrel
        by_cases hlt : j < k
        · obtain ⟨pb, off, f, rfl, hx, hfl, hc⟩ := HH.out.at hlt
          have hst : bestO aheadF (fs.take (j + 1)) = bestStep aheadF (bestO aheadF (fs.take j)) f := by rw [List.take_add_one, hx, Option.toList_some, best_snoc]
          by_cases h0 : j = 0
          · subst h0
            rw [Nat.add_zero] at hc
            have HNEW : Hid ((bestO aheadF (fs.take (0 + 1))).getD 9218868437227405312 = f) := by rw [hst]; exact rfl
            clear hst hx hr
            go_wp2
            go_round
            case rel => exact ⟨0 + 1, f, by omega, rfl, by go_num, HNEW⟩
            case measure => simp [intOf]; omega
          · have hsome : ∃ x, bestO aheadF (fs.take j) = some x := by
              obtain ⟨i, rfl⟩ : ∃ i, j = i + 1 := ⟨j - 1, by omega⟩
              obtain ⟨_, _, g, _, hg, _, _⟩ := HH.out.at (show i < k by omega)
              rw [List.take_add_one, hg, Option.toList_some, best_snoc]
              unfold bestStep
              split
              · exact ⟨_, rfl⟩
              · split
                · exact ⟨_, rfl⟩
                · exact ⟨_, rfl⟩
            obtain ⟨x, hxs⟩ := hsome
            have hxl : x < 18446744073709551616 := best_all (P := fun x => x < 18446744073709551616) aheadF (fs.take j) none (fun _ h => by cases h) (fun y hy => HH.out.2 y (List.mem_of_mem_take hy)) x hxs
            obtain rfl : x = o := by have := hr.out; rw [hxs] at this; exact this
            have q0 : ((j : Int) == 0) = false := by rw [beq_eq_false_iff_ne]; omega
            have HAB : Hid (Calls Tryd.prog 24 #[.int .u64 (f : Int), .int .u64 (x : Int)] w (OneBool w (aheadF f x))) := before2_any f x hfl hxl w
            cases hab : aheadF f x with
            | true =>
              have HNEW : Hid ((bestO aheadF (fs.take (j + 1))).getD 9218868437227405312 = f) := by rw [hst, hxs]; unfold bestStep; dsimp only; rw [hab]; exact rfl
              rw [hab] at HAB
              clear hst hx hr hab hxs h0
              go_wp2_with fail
              refine (HAB.out).mono ?_
              rintro e w' ⟨rfl, rfl⟩
              go_wp2
              go_round
              case rel => exact ⟨j + 1, f, by omega, rfl, by go_num, HNEW⟩
              case measure => simp [intOf]; omega
            | false =>
              have HNEW : Hid ((bestO aheadF (fs.take (j + 1))).getD 9218868437227405312 = x) := by rw [hst, hxs]; unfold bestStep; dsimp only; rw [hab]; exact rfl
              rw [hab] at HAB
              clear hst hx hr hab hxs h0
              go_wp2_with fail
              refine (HAB.out).mono ?_
              rintro e w' ⟨rfl, rfl⟩
              go_wp2
              go_round
              case rel => exact ⟨j + 1, x, by omega, rfl, by go_num, HNEW⟩
              case measure => simp [intOf]; omega
        · obtain rfl : j = k := by omega
          have HRES : Hid (bestF aheadF 9218868437227405312 fs = o) := by
            have := hr.out
            rw [List.take_of_length_le (by rw [HH.out.len]; exact Nat.le_refl _)] at this
            unfold bestF
            rw [if_neg (by rw [HNO.out]; exact Bool.false_ne_true)]
            exact this
          clear hr
          go_wp2
          go_ret
          exact ⟨by rw [HRES.out]; rfl, rfl⟩

set_option maxRecDepth 100000 in
set_option maxHeartbeats 3200000 in
theorem best2_most (p : Option Addr) (len cap : Nat) (fs : List Nat) (w : World) (h : Words w p len fs) (hlen : len ≤ 1000000) :
    Calls Tryd.prog 16 #[.slice p len cap, .bool true] w (NatOne w (bestF aheadR 18442240474082181120 fs)) := by
  have hi : (len : Int) ≤ 1000000 := by omega
  have HH := Lib.hid h
  clear h
  go_enter Tryd.func16, Tryd.ntmps16
  go_wp2
  go_loop [6] (fun i => ∃ k : Nat, k ≤ len ∧ i = .int .i64 k ∧ Hid ((fs.take k).any (kindF · == 4) = false)) (fun i => len - (intOf i).toNat)
  case atStart => exact ⟨0, Nat.zero_le _, rfl, rfl⟩
  case round =>
    obtain ⟨k, hk, rfl, hr⟩ := hrel
    by_cases hlt : k < len
    · obtain ⟨pb, off, f, rfl, hx, hfl, hc⟩ := HH.out.at hlt
      have HN := Lib.hid (nan2_any f hfl w)
      by_cases h4 : kindF f = 4
      · have HRES : Hid (bestF aheadR 18442240474082181120 fs = 9221120237041090560) := by
          have : fs.any (kindF · == 4) = true := List.any_eq_true.2 ⟨f, List.mem_of_getElem? hx, by rw [h4]; rfl⟩
          unfold bestF
          rw [if_pos this]
          exact rfl
        rw [show (kindF f == 4) = true by rw [h4]; rfl] at HN
        clear hx h4 hr
        go_wp2_with fail
        refine (HN.out).mono ?_
        rintro e w' ⟨rfl, rfl⟩
        go_wp2
        go_ret
        exact ⟨by rw [HRES.out]; rfl, rfl⟩
      · have h4b : (kindF f == 4) = false := by rw [beq_eq_false_iff_ne]; exact h4
        rw [h4b] at HN
        have hany : Hid ((fs.take (k + 1)).any (kindF · == 4) = false) := by
          rw [List.take_add_one, hx, Option.toList_some, List.any_append, hr.out]
          have : [f].any (kindF · == 4) = false := by simp [h4b]
          rw [this]; exact rfl
        clear hx h4 h4b hr
        go_wp2_with fail
        refine (HN.out).mono ?_
        rintro e w' ⟨rfl, rfl⟩
        go_wp2
        go_round
        case rel => exact ⟨k + 1, by omega, by go_num, hany⟩
        case measure => simp [intOf]; omega
    · obtain rfl : k = len := by omega
      have HNO : Hid (fs.any (kindF · == 4) = false) := by
        have := hr.out
        rwa [List.take_of_length_le (by rw [HH.out.len]; exact Nat.le_refl _)] at this
      clear hr hlt hk
      go_wp2
      go_loop [5, 7] (fun v i => ∃ j o : Nat, j ≤ k ∧ v = .int .u64 (o : Int) ∧ i = .int .i64 j ∧ Hid ((bestO aheadR (fs.take j)).getD 18442240474082181120 = o)) (fun _ i => k - (intOf i).toNat)
      case atStart => exact ⟨0, 18442240474082181120, Nat.zero_le _, rfl, rfl, rfl⟩
      case round =>
        obtain ⟨j, o, hj, rfl, rfl, hr⟩ := hrel
        by_cases hlt : j < k
        · obtain ⟨pb, off, f, rfl, hx, hfl, hc⟩ := HH.out.at hlt
          have hst : bestO aheadR (fs.take (j + 1)) = bestStep aheadR (bestO aheadR (fs.take j)) f := by rw [List.take_add_one, hx, Option.toList_some, best_snoc]
          by_cases h0 : j = 0
          · subst h0
            rw [Nat.add_zero] at hc
            have HNEW : Hid ((bestO aheadR (fs.take (0 + 1))).getD 18442240474082181120 = f) := by rw [hst]; exact rfl
            clear hst hx hr
            go_wp2
            go_round
            case rel => exact ⟨0 + 1, f, by omega, rfl, by go_num, HNEW⟩
            case measure => simp [intOf]; omega
          · have hsome : ∃ x, bestO aheadR (fs.take j) = some x := by
              obtain ⟨i, rfl⟩ : ∃ i, j = i + 1 := ⟨j - 1, by omega⟩
              obtain ⟨_, _, g, _, hg, _, _⟩ := HH.out.at (show i < k by omega)
              rw [List.take_add_one, hg, Option.toList_some, best_snoc]
              unfold bestStep
              split
              · exact ⟨_, rfl⟩
              · split
                · exact ⟨_, rfl⟩
                · exact ⟨_, rfl⟩
            obtain ⟨x, hxs⟩ := hsome
            have hxl : x < 18446744073709551616 := best_all (P := fun x => x < 18446744073709551616) aheadR (fs.take j) none (fun _ h => by cases h) (fun y hy => HH.out.2 y (List.mem_of_mem_take hy)) x hxs
            obtain rfl : x = o := by have := hr.out; rw [hxs] at this; exact this
            have q0 : ((j : Int) == 0) = false := by rw [beq_eq_false_iff_ne]; omega
            have HAB : Hid (Calls Tryd.prog 24 #[.int .u64 (x : Int), .int .u64 (f : Int)] w (OneBool w (aheadR f x))) := before2_any x f hxl hfl w
            cases hab : aheadR f x with
            | true =>
              have HNEW : Hid ((bestO aheadR (fs.take (j + 1))).getD 18442240474082181120 = f) := by rw [hst, hxs]; unfold bestStep; dsimp only; rw [hab]; exact rfl
              rw [hab] at HAB
              clear hst hx hr hab hxs h0
              go_wp2_with fail
              refine (HAB.out).mono ?_
              rintro e w' ⟨rfl, rfl⟩
              go_wp2
              go_round
              case rel => exact ⟨j + 1, f, by omega, rfl, by go_num, HNEW⟩
              case measure => simp [intOf]; omega
            | false =>
              have HNEW : Hid ((bestO aheadR (fs.take (j + 1))).getD 18442240474082181120 = x) := by rw [hst, hxs]; unfold bestStep; dsimp only; rw [hab]; exact rfl
              rw [hab] at HAB
              clear hst hx hr hab hxs h0
              go_wp2_with fail
              refine (HAB.out).mono ?_
              rintro e w' ⟨rfl, rfl⟩
              go_wp2
              go_round
              case rel => exact ⟨j + 1, x, by omega, rfl, by go_num, HNEW⟩
              case measure => simp [intOf]; omega
        · obtain rfl : j = k := by omega
          have HRES : Hid (bestF aheadR 18442240474082181120 fs = o) := by
            have := hr.out
            rw [List.take_of_length_le (by rw [HH.out.len]; exact Nat.le_refl _)] at this
            unfold bestF
            rw [if_neg (by rw [HNO.out]; exact Bool.false_ne_true)]
            exact this
          clear hr
          go_wp2
          go_ret
          exact ⟨by rw [HRES.out]; rfl, rfl⟩

set_option maxRecDepth 100000 in
set_option maxHeartbeats 1600000 in
theorem FloatBest_any (p : Option Addr) (len cap : Nat) (fs : List Nat) (W : World) (h : Words W p len fs) (hT : TabD W) (hP : Lib.TabIs Tryd.prog W "internal/strconv.uint64pow10" .u64 Lib.pow10Tab) :
    Calls Tryd.prog 4 #[.slice p len cap] W (LawPost W) := by
  by_cases h300 : 300 < len
  · have hi : (300 : Int) < len := by omega
    have HL := Lib.hid (lives_any W hT hP)
    clear h hT hP h300
    go_enter Tryd.func4, Tryd.ntmps4
    go_wp2_with fail
    refine (HL.out).mono ?_
    rintro e w1 ⟨rfl, hf⟩
    have HF := Lib.hid hf
    clear hf
    go_wp2
    go_ret
    exact ⟨rfl, HF.out⟩
  · have hi : (len : Int) ≤ 300 := by omega
    have HFL := Lib.hid (floats_any p len cap fs W h.1 h.2 (by omega))
    have HB1 : Hid (∀ w', Fr (fun _ => False) W w' → Calls Tryd.prog 16 #[.slice p len cap, .bool false] w' (NatOne w' (bestF aheadF 9218868437227405312 fs))) := fun w' hf => best2_least p len cap fs w' (h.frame hf) (by omega)
    have HB2 : Hid (∀ w', Fr (fun _ => False) W w' → Calls Tryd.prog 16 #[.slice p len cap, .bool true] w' (NatOne w' (bestF aheadR 18442240474082181120 fs))) := fun w' hf => best2_most p len cap fs w' (h.frame hf) (by omega)
    have HL : Hid (∀ w', Fr (fun _ => False) W w' → Calls Tryd.prog 12 #[] w' (BPost w' true)) := fun w' hf => lives_any w' (hT.frame hf) (tabIs_frame hP hf)
    have HLEN := Lib.hid h.len
    clear h hT hP h300
    go_enter Tryd.func4, Tryd.ntmps4
    go_wp2_with fail
    refine (HFL.out).mono ?_
    rintro e w1 ⟨v, rfl, hrow⟩
    obtain ⟨q, c, rfl, hfl, _⟩ := flts_of_row hrow
    have HF1 := Lib.hid hrow.2.2.2
    have HL1 := Lib.hid (least_post q fs.length c fs w1 hfl (by have := HLEN.out; omega))
    have HM1 := Lib.hid (most_post q fs.length c fs w1 hfl (by have := HLEN.out; omega))
    have HX1 := Lib.hid (bits_any (bestF aheadF 9218868437227405312 fs) w1)
    have HX2 := Lib.hid (bits_any (bestF aheadR 18442240474082181120 fs) w1)
    generalize bestF aheadF 9218868437227405312 fs = A1 at *
    generalize bestF aheadR 18442240474082181120 fs = A2 at *
    clear hrow hfl HFL
    go_wp2_with fail
    refine (HL1.out).mono ?_
    rintro e w' ⟨rfl, rfl⟩
    go_wp2_with fail
    refine (HX1.out).mono ?_
    rintro e w' ⟨rfl, rfl⟩
    go_wp2_with fail
    refine (HB1.out _ HF1.out).mono ?_
    rintro e w' ⟨rfl, rfl⟩
    go_wp2_with fail
    refine (HM1.out).mono ?_
    rintro e w' ⟨rfl, rfl⟩
    go_wp2_with fail
    refine (HX2.out).mono ?_
    rintro e w' ⟨rfl, rfl⟩
    go_wp2_with fail
    refine (HB2.out _ HF1.out).mono ?_
    rintro e w' ⟨rfl, rfl⟩
    go_wp2_with fail
    refine (HL.out _ HF1.out).mono ?_
    rintro e w2 ⟨rfl, hf2⟩
    have HF2 := Lib.hid (HF1.out.then hf2)
    clear hf2
    go_wp2
    go_ret
    exact ⟨rfl, HF2.out⟩
theorem FloatBest_of {a : Option Addr} {len cap : Nat} {z : List Int} {W : World} (h : Nums .u64 W a len z) (hz : ∀ n ∈ z, (Lit.int .u64 n).wf = true) (hL : laidMetH Tryd.prog Rows.floatBestRow.laid W) : Calls Tryd.prog 4 #[.slice a len cap] W (LawPost W) :=
  FloatBest_any a len cap _ W (words_of h hz) (tabs_of_laid hL).1 (tabs_of_laid hL).2
end Go.Proofs.YtcmdcclolkgjeaaDoor
