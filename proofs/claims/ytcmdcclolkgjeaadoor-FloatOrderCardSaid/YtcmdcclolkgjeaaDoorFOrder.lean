/- The walk of the law FloatOrder. -/
import Derived.Test.YtcmdcclolkgjeaaDoorFWords
namespace Go.Proofs.YtcmdcclolkgjeaaDoor
open Go.RowKit

theorem ahead_tri {a b c : Nat} (ha : a < 18446744073709551616) (hb : b < 18446744073709551616) (x y u v : Bool) (hx : aheadF a b = x) (hy : aheadF b a = y) (hu : aheadF b c = u) (hv : aheadF a c = v) :
    (x && y) = false ∧ (x = false → y = false → a = b) ∧ (x = true → u = true → v = true) := by
  unfold aheadF at *
  subst hx hy hu hv
  refine ⟨?_, ?_, ?_⟩
  · rw [Bool.and_eq_false_iff, decide_eq_false_iff_not, decide_eq_false_iff_not]; omega
  · rw [decide_eq_false_iff_not, decide_eq_false_iff_not]; intro h1 h2; exact key_inj ha hb (by omega)
  · rw [decide_eq_true_eq, decide_eq_true_eq, decide_eq_true_eq]; omega
theorem ahead_self (a : Nat) : aheadF a a = false := by unfold aheadF; simp

set_option maxRecDepth 100000 in
set_option maxHeartbeats 6400000 in
theorem FloatOrder_any (a b c : Nat) (ha : a < 18446744073709551616) (hb : b < 18446744073709551616) (hc : c < 18446744073709551616) (W : World) (hT : TabD W) (hP : Lib.TabIs Tryd.prog W "internal/strconv.uint64pow10" .u64 Lib.pow10Tab) :
    Calls Tryd.prog 3 #[.int .u64 (a : Int), .int .u64 (b : Int), .int .u64 (c : Int)] W (LawPost W) := by
  have HL := Lib.hid (lives_any W hT hP)
  have H1 := Lib.hid (of_any a W)
  have H2 := Lib.hid (of_any b W)
  have H3 := Lib.hid (of_any c W)
  have HAB := Lib.hid (before_any a b ha hb W)
  have HBA := Lib.hid (before_any b a hb ha W)
  have HAA := Lib.hid (before_any a a ha ha W)
  have HBC := Lib.hid (before_any b c hb hc W)
  have HAC := Lib.hid (before_any a c ha hc W)
  rw [ahead_self] at HAA
  obtain ⟨x, hx⟩ : ∃ x, aheadF a b = x := ⟨_, rfl⟩
  obtain ⟨y, hy⟩ : ∃ x, aheadF b a = x := ⟨_, rfl⟩
  obtain ⟨u, hu⟩ : ∃ x, aheadF b c = x := ⟨_, rfl⟩
  obtain ⟨v, hv⟩ : ∃ x, aheadF a c = x := ⟨_, rfl⟩
  obtain ⟨t1, t2, t3⟩ := ahead_tri ha hb x y u v hx hy hu hv
  obtain ⟨l, hl⟩ : ∃ l, (FloatKind.f64.format.order a b == some .lt) = l := ⟨_, rfl⟩
  obtain ⟨g, hg⟩ : ∃ l, (FloatKind.f64.format.order a b == some .gt) = l := ⟨_, rfl⟩
  have hlx : l = true → x = true := fun h => by
    rw [h] at hl
    rw [← hx]; unfold aheadF; rw [decide_eq_true_eq]; exact key_of_lt ha hb (order_lt ha hb hl).1
  have hgy : g = true → y = true := fun h => by
    rw [h] at hg
    rw [← hy]; unfold aheadF; rw [decide_eq_true_eq]; exact key_of_lt hb ha (order_gt ha hb hg).1
  rw [hx] at HAB
  rw [hy] at HBA
  rw [hu] at HBC
  rw [hv] at HAC
  have HT2 := Lib.hid t2
  clear hT hP hx hy hu hv hc
  cases x
  · obtain rfl : l = false := by cases l; rfl; exact absurd (hlx rfl) Bool.false_ne_true
    clear t3 hlx
    cases y
    · have hab := t2 rfl rfl
      obtain rfl : g = false := by cases g; rfl; exact absurd (hgy rfl) Bool.false_ne_true
      subst hab
      clear t1 t2 hgy HT2
      go_enter Tryd.func3, Tryd.ntmps3
      go_wp2_with (first | ((with_reducible refine (H1.out).mono ?_); rintro e w' ⟨rfl, rfl⟩) | ((with_reducible refine (H3.out).mono ?_); rintro e w' ⟨rfl, rfl⟩) | ((with_reducible refine (HAA.out).mono ?_); rintro e w' ⟨rfl, rfl⟩))
      refine (HL.out).mono ?_
      rintro e w1 ⟨rfl, hf⟩
      have HF := Lib.hid hf
      clear hf
      go_wp2
      go_ret
      exact ⟨rfl, HF.out⟩
    · clear t1 t2 HT2 hgy
      cases g
      all_goals
        go_enter Tryd.func3, Tryd.ntmps3
        go_wp2_with (first | ((with_reducible refine (H1.out).mono ?_); rintro e w' ⟨rfl, rfl⟩) | ((with_reducible refine (H2.out).mono ?_); rintro e w' ⟨rfl, rfl⟩) | ((with_reducible refine (H3.out).mono ?_); rintro e w' ⟨rfl, rfl⟩) | ((with_reducible refine (HAA.out).mono ?_); rintro e w' ⟨rfl, rfl⟩) | ((with_reducible refine (HAB.out).mono ?_); rintro e w' ⟨rfl, rfl⟩) | ((with_reducible refine (HBA.out).mono ?_); rintro e w' ⟨rfl, rfl⟩))
        refine (HL.out).mono ?_
        rintro e w1 ⟨rfl, hf⟩
        have HF := Lib.hid hf
        clear hf
        go_wp2
        go_ret
        exact ⟨rfl, HF.out⟩
  · obtain rfl : y = false := by cases y; rfl; exact absurd t1 (by decide)
    obtain rfl : g = false := by cases g; rfl; exact absurd (hgy rfl) Bool.false_ne_true
    have h3 := t3 rfl
    clear t1 t2 t3 hlx hgy HT2
    cases u
    · clear h3
      cases l
      all_goals
        go_enter Tryd.func3, Tryd.ntmps3
        go_wp2_with (first | ((with_reducible refine (H1.out).mono ?_); rintro e w' ⟨rfl, rfl⟩) | ((with_reducible refine (H2.out).mono ?_); rintro e w' ⟨rfl, rfl⟩) | ((with_reducible refine (H3.out).mono ?_); rintro e w' ⟨rfl, rfl⟩) | ((with_reducible refine (HAA.out).mono ?_); rintro e w' ⟨rfl, rfl⟩) | ((with_reducible refine (HAB.out).mono ?_); rintro e w' ⟨rfl, rfl⟩) | ((with_reducible refine (HBA.out).mono ?_); rintro e w' ⟨rfl, rfl⟩) | ((with_reducible refine (HBC.out).mono ?_); rintro e w' ⟨rfl, rfl⟩))
        refine (HL.out).mono ?_
        rintro e w1 ⟨rfl, hf⟩
        have HF := Lib.hid hf
        clear hf
        go_wp2
        go_ret
        exact ⟨rfl, HF.out⟩
    · obtain rfl := h3 rfl
      clear h3
      cases l
      all_goals
        go_enter Tryd.func3, Tryd.ntmps3
        go_wp2_with (first | ((with_reducible refine (H1.out).mono ?_); rintro e w' ⟨rfl, rfl⟩) | ((with_reducible refine (H2.out).mono ?_); rintro e w' ⟨rfl, rfl⟩) | ((with_reducible refine (H3.out).mono ?_); rintro e w' ⟨rfl, rfl⟩) | ((with_reducible refine (HAA.out).mono ?_); rintro e w' ⟨rfl, rfl⟩) | ((with_reducible refine (HAB.out).mono ?_); rintro e w' ⟨rfl, rfl⟩) | ((with_reducible refine (HBA.out).mono ?_); rintro e w' ⟨rfl, rfl⟩) | ((with_reducible refine (HBC.out).mono ?_); rintro e w' ⟨rfl, rfl⟩) | ((with_reducible refine (HAC.out).mono ?_); rintro e w' ⟨rfl, rfl⟩))
        refine (HL.out).mono ?_
        rintro e w1 ⟨rfl, hf⟩
        have HF := Lib.hid hf
        clear hf
        go_wp2
        go_ret
        exact ⟨rfl, HF.out⟩

theorem FloatOrder_of {x y z : Int} (hx : (Lit.int .u64 x).wf = true) (hy : (Lit.int .u64 y).wf = true) (hz : (Lit.int .u64 z).wf = true) (W : World) (hL : laidMetH Tryd.prog Rows.floatOrderRow.laid W) : Calls Tryd.prog 3 #[.int .u64 x, .int .u64 y, .int .u64 z] W (LawPost W) := by
  obtain ⟨a, rfl, ha⟩ := u64_nat hx
  obtain ⟨b, rfl, hb⟩ := u64_nat hy
  obtain ⟨c, rfl, hc⟩ := u64_nat hz
  exact FloatOrder_any a b c ha hb hc W (tabs_of_laid hL).1 (tabs_of_laid hL).2
end Go.Proofs.YtcmdcclolkgjeaaDoor
