/- The walks of the first and the last of some floats. -/
import Derived.Test.YtcmdcclolkgjeaaDoorFRow
namespace Go.Proofs.YtcmdcclolkgjeaaDoor
open Go.RowKit

/-- The best float so far. -/
def bestStep (ah : Nat → Nat → Bool) (o : Option Nat) (f : Nat) : Option Nat :=
  match o with
  | none => some f
  | some x => if ah f x then some f else some x
def bestO (ah : Nat → Nat → Bool) (fs : List Nat) : Option Nat := fs.foldl (bestStep ah) none
def bestF (ah : Nat → Nat → Bool) (no : Nat) (fs : List Nat) : Nat := if fs.any (kindF · == 4) then 9221120237041090560 else (bestO ah fs).getD no
theorem best_snoc (ah : Nat → Nat → Bool) (fs : List Nat) (f : Nat) : bestO ah (fs ++ [f]) = bestStep ah (bestO ah fs) f := by unfold bestO; rw [List.foldl_append]; rfl
theorem best_all {P : Nat → Prop} (ah : Nat → Nat → Bool) : ∀ (fs : List Nat) (o : Option Nat), (∀ x, o = some x → P x) → (∀ f ∈ fs, P f) → ∀ x, fs.foldl (bestStep ah) o = some x → P x
  | [], _, ho, _, x, h => ho x h
  | f :: fs, o, ho, hf, x, h => by
    refine best_all ah fs (bestStep ah o f) (fun y hy => ?_) (fun g hg => hf g (by simp [hg])) x h
    unfold bestStep at hy
    split at hy
    · simp at hy; subst hy; exact hf _ (by simp)
    · rename_i z
      split at hy
      · simp at hy; subst hy; exact hf _ (by simp)
      · simp at hy; subst hy; exact ho _ rfl
theorem Flts.at {w : World} {p : Option Addr} {len : Nat} {fs : List Nat} (h : Flts w p len fs) {k : Nat} (hk : k < len) : ∃ b off f, p = some ⟨b, off, none⟩ ∧ fs[k]? = some f ∧ f < 18446744073709551616 ∧ w.cell? ⟨b, off + k, none⟩ = some (.float .f64 f) := h.2 k hk

/-- Between two rounds: none of the floats so far is a NaN. -/
def BestRel (ah : Nat → Nat → Bool) (no : Nat) (fs : List Nat) (k : Nat) (o : Nat) (is : Bool) : Prop :=
  (fs.take k).any (kindF · == 4) = false ∧ (bestO ah (fs.take k)).getD no = o ∧ (bestO ah (fs.take k)).isSome = is

set_option maxRecDepth 100000 in
set_option maxHeartbeats 1600000 in
theorem best_before (no : Nat) (hno : no < 18446744073709551616) (p : Option Addr) (len cap : Nat) (fs : List Nat) (w : World) (h : Flts w p len fs) (hlen : len ≤ 1000000) :
    Calls Tryd.prog 36 #[.slice p len cap, .float .f64 no, .func (.func 11) #[] #[]] w (OneFloat w (bestF aheadF no fs)) := by
  have HOF := Lib.hid (of_any 9221120237041090560 w)
  have HL := Lib.hid hlen
  have hi : (len : Int) ≤ 1000000 := by omega
  have HH := Lib.hid h
  clear h hlen
  go_enter Tryd.func36, Tryd.ntmps36
  go_wp2
  go_loop [7, 8, 14] (fun v7 v8 i => ∃ (k o : Nat) (is : Bool), k ≤ len ∧ v7 = .float .f64 o ∧ v8 = .bool is ∧ i = .int .i64 k ∧ Hid (BestRel aheadF no fs k o is)) (fun _ _ i => len - (intOf i).toNat)
  case atStart => exact ⟨0, no, false, Nat.zero_le _, rfl, rfl, rfl, ⟨rfl, rfl, rfl⟩⟩
  case round =>
    obtain ⟨k, o, is, hk, rfl, rfl, rfl, hr⟩ := hrel
    by_cases hlt : k < len
    · obtain ⟨pb, off, f, rfl, hx, hfl, hc⟩ := HH.out.at hlt
      have htk : fs.take (k + 1) = fs.take k ++ [f] := by rw [List.take_add_one, hx]; rfl
      have hn := nan_ne hfl
      by_cases h4 : kindF f = 4
      · have hres : bestF aheadF no fs = 9221120237041090560 := by
          unfold bestF
          rw [if_pos]
          rw [List.any_eq_true]
          exact ⟨f, List.mem_of_getElem? hx, by rw [h4]; rfl⟩
        rw [show (kindF f == 4) = true by rw [h4]; rfl] at hn
        have HRES := Lib.hid hres
        clear hres htk hx h4 hr
        go_wp2_with fail
        refine (HOF.out).mono ?_
        rintro e w' ⟨rfl, rfl⟩
        go_wp2
        go_ret
        exact ⟨by rw [HRES.out]; rfl, rfl⟩
      · have h4b : (kindF f == 4) = false := by rw [beq_eq_false_iff_ne]; exact h4
        rw [h4b] at hn
        have hany : (fs.take (k + 1)).any (kindF · == 4) = false := by rw [htk, List.any_append, hr.out.1]; simp [h4b]
        have hst : bestO aheadF (fs.take (k + 1)) = bestStep aheadF (bestO aheadF (fs.take k)) f := by rw [htk, best_snoc]
        have hol : o < 18446744073709551616 := by
          rw [← hr.out.2.1]
          cases hb : bestO aheadF (fs.take k) with
          | none => exact hno
          | some x => exact best_all (P := fun x => x < 18446744073709551616) aheadF (fs.take k) none (fun _ h => by cases h) (fun y hy => by
              obtain ⟨j, hj⟩ := List.getElem?_of_mem (List.mem_of_mem_take hy)
              have hj2 : j < len := by rw [← HH.out.1]; exact (List.getElem?_eq_some_iff.1 hj).1
              obtain ⟨_, _, g, _, hg, hgl, _⟩ := HH.out.at hj2
              rw [hj] at hg
              obtain rfl := Option.some.inj hg
              exact hgl) x hb
        have HAB := Lib.hid (before_any f o hfl hol)
        have HR : Hid (BestRel aheadF no fs k o is) := hr
        have HANY := Lib.hid hany
        have HST := Lib.hid hst
        clear hany hst htk hx h4 h4b hr hol
        cases is with
        | false =>
          have hnew : BestRel aheadF no fs (k + 1) f true := by
            have hn0 : bestO aheadF (fs.take k) = none := by
              cases hb : bestO aheadF (fs.take k) with
              | none => rfl
              | some x => have := HR.out.2.2; rw [hb] at this; cases this
            exact ⟨HANY.out, by rw [HST.out, hn0]; rfl, by rw [HST.out, hn0]; rfl⟩
          have HNEW := Lib.hid hnew
          clear hnew HST HANY HR HAB
          go_wp2
          go_round
          case rel => exact ⟨k + 1, f, true, by omega, rfl, rfl, by go_num, HNEW⟩
          case measure => simp [intOf]; omega
        | true =>
          have hsm : bestO aheadF (fs.take k) = some o := by
            have h1 := HR.out.2.1
            have h2 := HR.out.2.2
            cases hb : bestO aheadF (fs.take k) with
            | none => rw [hb] at h2; cases h2
            | some x => rw [hb] at h1; rw [← h1]; rfl
          cases hab : aheadF f o with
          | true =>
            have HNEW : Hid (BestRel aheadF no fs (k + 1) f true) := ⟨HANY.out, by rw [HST.out, hsm]; unfold bestStep; dsimp only; rw [hab]; rfl, by rw [HST.out, hsm]; unfold bestStep; dsimp only; rw [hab]; rfl⟩
            rw [hab] at HAB
            clear HST HANY HR hsm hab
            go_wp2_with fail
            refine (HAB.out _).mono ?_
            rintro e w' ⟨rfl, rfl⟩
            go_wp2
            go_round
            case rel => exact ⟨k + 1, f, true, by omega, rfl, rfl, by go_num, HNEW⟩
            case measure => simp [intOf]; omega
          | false =>
            have HNEW : Hid (BestRel aheadF no fs (k + 1) o true) := ⟨HANY.out, by rw [HST.out, hsm]; unfold bestStep; dsimp only; rw [hab]; rfl, by rw [HST.out, hsm]; unfold bestStep; dsimp only; rw [hab]; rfl⟩
            rw [hab] at HAB
            clear HST HANY HR hsm hab
            go_wp2_with fail
            refine (HAB.out _).mono ?_
            rintro e w' ⟨rfl, rfl⟩
            go_wp2
            go_round
            case rel => exact ⟨k + 1, o, true, by omega, rfl, rfl, by go_num, HNEW⟩
            case measure => simp [intOf]; omega
    · obtain rfl : k = len := by omega
      have hres : bestF aheadF no fs = o := by
        have h1 := hr.out
        rw [BestRel, List.take_of_length_le (by rw [HH.out.1]; exact Nat.le_refl _)] at h1
        unfold bestF
        rw [if_neg (by rw [h1.1]; exact Bool.false_ne_true)]
        exact h1.2.1
      have HRES := Lib.hid hres
      clear hres hr
      go_wp2
      go_ret
      exact ⟨by rw [HRES.out]; rfl, rfl⟩
end Go.Proofs.YtcmdcclolkgjeaaDoor
