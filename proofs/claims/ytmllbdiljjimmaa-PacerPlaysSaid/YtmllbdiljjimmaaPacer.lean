/- The walks of package pacer. -/
import Derived.Test.YtmllbdiljjimmaaKey
namespace Go.Proofs.Ytmllbdiljjimmaa
open Go.RowKit

/-! ### Numbers as floats -/
theorem floatOf_eq (n : Int) (k : Nat) (hk : k = 1074) : floatOfInt .f64 n = packF (decide (n < 0)) (n.natAbs * 2 ^ k) := by
  have h := nearest_rnd (decide (n < 0)) n.natAbs k
  rw [show (-1074 + (k : Int)) = 0 by omega] at h
  exact h
theorem floatOf_lt (n : Int) : floatOfInt .f64 n < 18446744073709551616 := by
  rw [floatOf_eq n _ rfl]; exact (pack_lt _ _).1
theorem floatOf_num (n : Int) : kindF (floatOfInt .f64 n) ≠ 4 := by
  rw [floatOf_eq n _ rfl]; exact (pack_lt _ _).2

/-- Small numbers are floats, and numbers. -/
theorem small_num (n : Nat) (h : n ≤ 1099511627776) : ∃ r, floatOfInt .f64 (n : Int) = r ∧ r < 9218868437227405312 ∧ (n ≠ 0 → 0 < r) := by
  refine ⟨_, rfl, ?_⟩
  obtain ⟨k, hk⟩ : ∃ k, k = 1074 := ⟨_, rfl⟩
  rw [floatOf_eq _ k hk, show decide ((n : Int) < 0) = false by rw [decide_eq_false_iff_not]; omega, Int.natAbs_natCast]
  unfold packF
  rw [if_neg Bool.false_ne_true]
  by_cases h0 : n = 0
  · subst h0
    rw [Nat.zero_mul, rnd_zero]
    exact ⟨by decide, fun h => absurd rfl h⟩
  · have hL := log_len (k := k) h0
    rw [← rnd_of hL]
    have hlog : n.log2 < 41 := by
      rw [Nat.log2_lt h0]
      exact Nat.lt_of_le_of_lt h (by decide)
    unfold roundN roundAt
    obtain ⟨a, ha⟩ : ∃ a, n.log2 + 1 + k - 53 = a := ⟨_, rfl⟩
    rw [ha]
    have hm := Nat.mod_lt (n * 2 ^ k / 2 ^ a) (show 0 < 9007199254740992 by decide)
    generalize n * 2 ^ k / 2 ^ a % 9007199254740992 = q at *
    have hb : a ≤ 1062 := by omega
    have hc : 1 ≤ a := by omega
    constructor
    · refine Nat.lt_of_le_of_lt (Nat.min_le_left _ _) ?_
      split <;> omega
    · intro _
      rw [Nat.lt_min]
      constructor
      · split <;> omega
      · decide

theorem quo_some (m n : Nat) (hm : m ≤ 1099511627776) (hn : n ≤ 1099511627776) (h0 : n ≠ 0) : ∃ r, floatBits .quo .f64 (floatOfInt .f64 (m : Int)) (floatOfInt .f64 (n : Int)) = some r ∧ r < 18446744073709551616 := by
  obtain ⟨x, hx, hx1, _⟩ := small_num m hm
  obtain ⟨y, hy, hy1, hy2⟩ := small_num n hn
  rw [hx, hy]
  have hy2 := hy2 h0
  have kx : kindF x < 3 := (kind_num x).2 (by unfold rungF; omega)
  have ky : kindF y < 3 := (kind_num y).2 (by unfold rungF; omega)
  obtain ⟨mx, ex, rx, _⟩ := read_num (b := x) (by omega) kx
  obtain ⟨my, ey, ry, vy⟩ := read_num (b := y) (by omega) ky
  have hmy : my ≠ 0 := by
    rintro rfl
    rw [Nat.zero_mul] at vy
    have := mag_zero vy
    unfold rungF at this
    omega
  cases h : floatBits .quo .f64 x y with
  | some r =>
    have hw := floatBits_wf h
    simp only [Lit.wf, decide_eq_true_eq] at hw
    exact ⟨r, rfl, hw⟩
  | none =>
    exfalso
    have h' : dbl.div x y = none := h
    unfold Ieee.Format.div at h'
    rw [rx, ry] at h'
    unfold Ieee.Datum.quotient at h'
    dsimp only at h'
    rw [if_neg hmy] at h'
    cases h'
/-- The share that was left. -/
def ratioF (live words : Nat) : Nat := (floatBits .quo .f64 (floatOfInt .f64 (live : Int)) (floatOfInt .f64 (words : Int))).getD 0
theorem ratio_run (m n : Nat) (hm : m ≤ 1099511627776) (hn : n ≤ 1099511627776) (h0 : n ≠ 0) : floatBits .quo .f64 (floatOfInt .f64 (m : Int)) (floatOfInt .f64 (n : Int)) = some (ratioF m n) ∧ ratioF m n < 18446744073709551616 := by
  obtain ⟨r, h1, h2⟩ := quo_some m n hm hn h0
  unfold ratioF
  rw [h1]
  exact ⟨rfl, h2⟩

/-- A pacer, in block b; its ratios in the row v. -/
def PacB (W w : World) (b g l m : Nat) (v : Value) (rs : List Nat) : Prop :=
  Blk w b [.float .f64 g, .float .f64 l, .float .f64 m, v, .bool true] 110 ∧ FRow W v rs w ∧ v.ownBlock ≠ some b ∧ W.heap.size ≤ b
theorem PacB.frame {S : Nat → Prop} {W w w' : World} {b g l m : Nat} {v : Value} {rs : List Nat} (h : PacB W w b g l m v rs) (hf : Fr S w w') (hb : ¬ S b) (hv : ∀ i, v.ownBlock = some i → ¬ S i) (hs : ∀ i, S i → W.heap.size ≤ i) : PacB W w' b g l m v rs :=
  ⟨h.1.frame hf hb, h.2.1.frame hf hv hs, h.2.2⟩

def OneBool (w : World) (v : Bool) (e : Ending) (w' : World) : Prop := e = .returned (.bool v) ∧ w = w'
set_option maxRecDepth 100000 in
set_option maxHeartbeats 400000 in
theorem none_nil (w : World) : Calls Try.prog 81 #[.pointer none] w (OneBool w true) := by
  go_enter Try.func81, Try.ntmps81
  go_wp2
  go_ret
  exact ⟨rfl, rfl⟩
set_option maxRecDepth 100000 in
set_option maxHeartbeats 400000 in
theorem none_any (b : Nat) (cs : List Value) (w : World) (h : Blk w b cs 110) (h4 : cs[4]? = some (.bool true)) : Calls Try.prog 81 #[.pointer (some ⟨b, 0, none⟩)] w (OneBool w false) := by
  have c := h.cell 4 h4
  clear h h4
  go_enter Try.func81, Try.ntmps81
  go_wp2
  go_ret
  exact ⟨rfl, rfl⟩

/-- May a pacer be made? -/
def mayF (g l m : Nat) : Bool := !(kindF g == 4) && (!(kindF l == 4) && (!(kindF m == 4) && !aheadF m l))
def NewPost (w : World) (g l m : Nat) (e : Ending) (w' : World) : Prop :=
  (mayF g l m = true → e = .returned (.tuple #[.pointer (some ⟨w.heap.size, 0, none⟩), .int .i64 0]) ∧ Blk w' w.heap.size [.float .f64 g, .float .f64 l, .float .f64 m, .slice none 0 0, .bool true] 110 ∧ Fr (fun _ => False) w w' ∧ w.heap.size < w'.heap.size) ∧
  (mayF g l m = false → e = .returned (.tuple #[.pointer none, .int .i64 5]) ∧ w = w')
theorem nan_ne {b : Nat} (hb : b < 18446744073709551616) : (FloatKind.f64.format.order b b != some .eq) = (kindF b == 4) := by
  have := order_self hb
  rw [bne, this, Bool.not_not]

set_option maxRecDepth 100000 in
set_option maxHeartbeats 800000 in
theorem new_any (g l m : Nat) (hg : g < 18446744073709551616) (hl : l < 18446744073709551616) (hm : m < 18446744073709551616) (w : World) :
    Calls Try.prog 33 #[.float .f64 g, .float .f64 l, .float .f64 m] w (NewPost w g l m) := by
  have n1 := nan_ne hg
  have n2 := nan_ne hl
  have n3 := nan_ne hm
  have HB := Lib.hid (before_any m l hm hl)
  unfold NewPost mayF
  generalize (kindF g == 4) = k1 at *
  generalize (kindF l == 4) = k2 at *
  generalize (kindF m == 4) = k3 at *
  generalize aheadF m l = k4 at *
  cases k1
  · cases k2
    · cases k3
      · cases k4
        · go_enter Try.func33, Try.ntmps33
          go_wp2_with fail
          refine (HB.out w).mono ?_
          rintro e w' ⟨rfl, rfl⟩
          go_wp2
          go_ret2
          refine ⟨fun _ => ⟨rfl, Blk.new w [.float .f64 g, .float .f64 l, .float .f64 m, .slice none 0 0, .bool true] 110, (Fr.refl _ w).alloc _, by simp⟩, fun h => by cases h⟩
        · go_enter Try.func33, Try.ntmps33
          go_wp2_with fail
          refine (HB.out w).mono ?_
          rintro e w' ⟨rfl, rfl⟩
          go_wp2
          go_ret2
          exact ⟨fun h => (by cases h), fun _ => ⟨rfl, rfl⟩⟩
      · go_enter Try.func33, Try.ntmps33
        go_wp2
        go_ret2
        exact ⟨fun h => (by cases h), fun _ => ⟨rfl, rfl⟩⟩
    · go_enter Try.func33, Try.ntmps33
      go_wp2
      go_ret2
      exact ⟨fun h => (by cases h), fun _ => ⟨rfl, rfl⟩⟩
  · go_enter Try.func33, Try.ntmps33
    go_wp2
    go_ret2
    exact ⟨fun h => (by cases h), fun _ => ⟨rfl, rfl⟩⟩
end Go.Proofs.Ytmllbdiljjimmaa
