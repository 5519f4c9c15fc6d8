/- The walks of the last of some floats; Least, Most. -/
import Derived.Test.YtcmdcclolkgjeaaDoorFBest
namespace Go.Proofs.YtcmdcclolkgjeaaDoor
open Go.RowKit

/-- The other way round. -/
def aheadR (a b : Nat) : Bool := aheadF b a
set_option maxRecDepth 100000 in
theorem mostcl_any (a b : Nat) (ha : a < 18446744073709551616) (hb : b < 18446744073709551616) (w : World) :
    Calls Tryd.prog 38 #[.float .f64 a, .float .f64 b] w fun e w' => e = .returned (.bool (aheadR a b)) ∧ w = w' := by
  have H := Lib.hid (before_any b a hb ha w)
  change Hid (Calls Tryd.prog 11 _ w fun e w' => e = .returned (.bool (aheadR a b)) ∧ w = w') at H
  generalize aheadR a b = r at *
  go_enter Tryd.func38, Tryd.ntmps38
  go_wp2_with fail
  refine (H.out).mono ?_
  rintro e w' ⟨rfl, rfl⟩
  go_wp2
  go_ret
  exact ⟨rfl, rfl⟩

set_option maxRecDepth 100000 in
set_option maxHeartbeats 1600000 in
theorem best_most (no : Nat) (hno : no < 18446744073709551616) (p : Option Addr) (len cap : Nat) (fs : List Nat) (w : World) (h : Flts w p len fs) (hlen : len ≤ 1000000) :
    Calls Tryd.prog 36 #[.slice p len cap, .float .f64 no, .func (.func 38) #[] #[]] w (OneFloat w (bestF aheadR no fs)) := by
  have HOF := Lib.hid (of_any 9221120237041090560 w)
  have HL := Lib.hid hlen
  have hi : (len : Int) ≤ 1000000 := by omega
  have HH := Lib.hid h
  clear h hlen
  go_enter Tryd.func36, Tryd.ntmps36
  go_wp2
  go_loop [7, 8, 14] (fun v7 v8 i => ∃ (k o : Nat) (is : Bool), k ≤ len ∧ v7 = .float .f64 o ∧ v8 = .bool is ∧ i = .int .i64 k ∧ Hid (BestRel aheadR no fs k o is)) (fun _ _ i => len - (intOf i).toNat)
  case atStart => exact ⟨0, no, false, Nat.zero_le _, rfl, rfl, rfl, ⟨rfl, rfl, rfl⟩⟩
  case round =>
    obtain ⟨k, o, is, hk, rfl, rfl, rfl, hr⟩ := hrel
    by_cases hlt : k < len
    · obtain ⟨pb, off, f, rfl, hx, hfl, hc⟩ := HH.out.at hlt
      have htk : fs.take (k + 1) = fs.take k ++ [f] := by rw [List.take_add_one, hx]; rfl
      have hn := nan_ne hfl
      by_cases h4 : kindF f = 4
      · have hres : bestF aheadR no fs = 9221120237041090560 := by
          unfold bestF
          rw [if_pos]
          rw [List.any_eq_true]
          exact ⟨f, List.mem_of_getElem? hx, by rw [h4]; rfl⟩
        rw [show (kindF f == 4) = true by rw [h4]; rfl] at hn
        have HRES := Lib.hid hres
        clear hres htk hx h4 hr
        go_wp2_with fail
        refine (HOF.out).mono ?_
        rintro e w' ⟨rfl, rfl⟩
        go_wp2
        go_ret
        exact ⟨by rw [HRES.out]; rfl, rfl⟩
      · have h4b : (kindF f == 4) = false := by rw [beq_eq_false_iff_ne]; exact h4
        rw [h4b] at hn
        have hany : (fs.take (k + 1)).any (kindF · == 4) = false := by rw [htk, List.any_append, hr.out.1]; simp [h4b]
        have hst : bestO aheadR (fs.take (k + 1)) = bestStep aheadR (bestO aheadR (fs.take k)) f := by rw [htk, best_snoc]
        have hol : o < 18446744073709551616 := by
          rw [← hr.out.2.1]
          cases hb : bestO aheadR (fs.take k) with
          | none => exact hno
          | some x => exact best_all (P := fun x => x < 18446744073709551616) aheadR (fs.take k) none (fun _ h => by cases h) (fun y hy => by
              obtain ⟨j, hj⟩ := List.getElem?_of_mem (List.mem_of_mem_take hy)
              have hj2 : j < len := by rw [← HH.out.1]; exact (List.getElem?_eq_some_iff.1 hj).1
              obtain ⟨_, _, g, _, hg, hgl, _⟩ := HH.out.at hj2
              rw [hj] at hg
              obtain rfl := Option.some.inj hg
              exact hgl) x hb
        have HAB := Lib.hid (mostcl_any f o hfl hol)
        have HR : Hid (BestRel aheadR no fs k o is) := hr
        have HANY := Lib.hid hany
        have HST := Lib.hid hst
        clear hany hst htk hx h4 h4b hr hol
        cases is with
        | false =>
          have hnew : BestRel aheadR no fs (k + 1) f true := by
            have hn0 : bestO aheadR (fs.take k) = none := by
              cases hb : bestO aheadR (fs.take k) with
              | none => rfl
              | some x => have := HR.out.2.2; rw [hb] at this; cases this
            exact ⟨HANY.out, by rw [HST.out, hn0]; rfl, by rw [HST.out, hn0]; rfl⟩
          have HNEW := Lib.hid hnew
          clear hnew HST HANY HR HAB
          go_wp2
          go_round
          case rel => exact ⟨k + 1, f, true, by omega, rfl, rfl, by go_num, HNEW⟩
          case measure => simp [intOf]; omega
        | true =>
          have hsm : bestO aheadR (fs.take k) = some o := by
            have h1 := HR.out.2.1
            have h2 := HR.out.2.2
            cases hb : bestO aheadR (fs.take k) with
            | none => rw [hb] at h2; cases h2
            | some x => rw [hb] at h1; rw [← h1]; rfl
          cases hab : aheadR f o with
          | true =>
            have HNEW : Hid (BestRel aheadR no fs (k + 1) f true) := ⟨HANY.out, by rw [HST.out, hsm]; unfold bestStep; dsimp only; rw [hab]; rfl, by rw [HST.out, hsm]; unfold bestStep; dsimp only; rw [hab]; rfl⟩
            rw [hab] at HAB
            clear HST HANY HR hsm hab
            go_wp2_with fail
            refine (HAB.out _).mono ?_
            rintro e w' ⟨rfl, rfl⟩
            go_wp2
            go_round
            case rel => exact ⟨k + 1, f, true, by omega, rfl, rfl, by go_num, HNEW⟩
            case measure => simp [intOf]; omega
          | false =>
            have HNEW : Hid (BestRel aheadR no fs (k + 1) o true) := ⟨HANY.out, by rw [HST.out, hsm]; unfold bestStep; dsimp only; rw [hab]; rfl, by rw [HST.out, hsm]; unfold bestStep; dsimp only; rw [hab]; rfl⟩
            rw [hab] at HAB
            clear HST HANY HR hsm hab
            go_wp2_with fail
            refine (HAB.out _).mono ?_
            rintro e w' ⟨rfl, rfl⟩
            go_wp2
            go_round
            case rel => exact ⟨k + 1, o, true, by omega, rfl, rfl, by go_num, HNEW⟩
            case measure => simp [intOf]; omega
    · obtain rfl : k = len := by omega
      have hres : bestF aheadR no fs = o := by
        have h1 := hr.out
        rw [BestRel, List.take_of_length_le (by rw [HH.out.1]; exact Nat.le_refl _)] at h1
        unfold bestF
        rw [if_neg (by rw [h1.1]; exact Bool.false_ne_true)]
        exact h1.2.1
      have HRES := Lib.hid hres
      clear hres hr
      go_wp2
      go_ret
      exact ⟨by rw [HRES.out]; rfl, rfl⟩
theorem inf_plus (w : World) : Calls Tryd.prog 37 #[.int .i64 1] w fun e w' => e = .returned (.float .f64 9218868437227405312) ∧ w = w' := by
  have h : ∀ w, (callFunc 33 #[.int .u64 9218868437227405312]).run Tryd.prog w = .ok (.value (.float .f64 9218868437227405312)) w := fun w => by kernel_rfl
  go_enter Tryd.func37, Tryd.ntmps37
  go_wp2
  go_ret
  exact ⟨rfl, rfl⟩
theorem inf_minus (w : World) : Calls Tryd.prog 37 #[.int .i64 (-1)] w fun e w' => e = .returned (.float .f64 18442240474082181120) ∧ w = w' := by
  have h : ∀ w, (callFunc 33 #[.int .u64 18442240474082181120]).run Tryd.prog w = .ok (.value (.float .f64 18442240474082181120)) w := fun w => by kernel_rfl
  go_enter Tryd.func37, Tryd.ntmps37
  go_wp2
  go_ret
  exact ⟨rfl, rfl⟩


theorem least_post (p : Option Addr) (len cap : Nat) (fs : List Nat) (w : World) (h : Flts w p len fs) (hlen : len ≤ 1000000) :
    Calls Tryd.prog 15 #[.slice p len cap] w (OneFloat w (bestF aheadF 9218868437227405312 fs)) := by
  have HB := Lib.hid (best_before 9218868437227405312 (by decide) p len cap fs w h hlen)
  have HI := Lib.hid (inf_plus w)
  generalize bestF aheadF 9218868437227405312 fs = B at *
  clear h
  go_enter Tryd.func15, Tryd.ntmps15
  go_wp2_with fail
  refine (HI.out).mono ?_
  rintro e w' ⟨rfl, rfl⟩
  go_wp2_with fail
  refine (HB.out).mono ?_
  rintro e w' ⟨rfl, rfl⟩
  go_wp2
  go_ret
  exact ⟨rfl, rfl⟩
theorem most_post (p : Option Addr) (len cap : Nat) (fs : List Nat) (w : World) (h : Flts w p len fs) (hlen : len ≤ 1000000) :
    Calls Tryd.prog 17 #[.slice p len cap] w (OneFloat w (bestF aheadR 18442240474082181120 fs)) := by
  have HB := Lib.hid (best_most 18442240474082181120 (by decide) p len cap fs w h hlen)
  have HI := Lib.hid (inf_minus w)
  generalize bestF aheadR 18442240474082181120 fs = B at *
  clear h
  go_enter Tryd.func17, Tryd.ntmps17
  go_wp2_with fail
  refine (HI.out).mono ?_
  rintro e w' ⟨rfl, rfl⟩
  go_wp2_with fail
  refine (HB.out).mono ?_
  rintro e w' ⟨rfl, rfl⟩
  go_wp2
  go_ret
  exact ⟨rfl, rfl⟩
end Go.Proofs.YtcmdcclolkgjeaaDoor
