/- The walks of the references: kinds; what lies in a row of floats. -/
import Derived.Test.YtmllbdiljjimmaaWide6
import Derived.Test.YtmllbdiljjimmaaRegion3
namespace Go.Proofs.Ytmllbdiljjimmaa
open Go.RowKit

theorem kind_ref (b : Nat) (_hb : b < 18446744073709551616) : kindF b = if 9218868437227405312 < b % 9223372036854775808 then 4 else if b % 9223372036854775808 = 9218868437227405312 then 3 else if 4503599627370496 ≤ b % 9223372036854775808 then 2 else if 0 < b % 9223372036854775808 then 1 else 0 := by
  unfold kindF expo frac
  have e1 : b / 4503599627370496 % 2048 = b % 9223372036854775808 / 4503599627370496 := by omega
  have e2 : b % 4503599627370496 = b % 9223372036854775808 % 4503599627370496 := by omega
  rw [e1, e2]
  have hx : b % 9223372036854775808 < 9223372036854775808 := Nat.mod_lt _ (by decide)
  generalize b % 9223372036854775808 = x at *
  (repeat' split) <;> omega

set_option maxRecDepth 100000 in
set_option maxHeartbeats 800000 in
theorem kind2_any (b : Nat) (hb : b < 18446744073709551616) (w : World) :
    Calls Try.prog 89 #[.int .u64 (b : Int)] w fun e w' => e = .returned (.int .i64 (kindF b : Int)) ∧ w = w' := by
  have hk := kind_ref b hb
  have hx : (b : Int) % 9223372036854775808 = ((b % 9223372036854775808 : Nat) : Int) := by omega
  have hxl : b % 9223372036854775808 < 9223372036854775808 := Nat.mod_lt _ (by decide)
  generalize b % 9223372036854775808 = x at *
  by_cases h4 : 9218868437227405312 < x
  · rw [hk, if_pos h4]
    clear hk
    go_enter Try.func89, Try.ntmps89
    go_wp2
    go_ret
    exact ⟨rfl, rfl⟩
  · by_cases h3 : x = 9218868437227405312
    · rw [hk, if_neg h4, if_pos h3]
      subst h3
      clear hk
      go_enter Try.func89, Try.ntmps89
      go_wp2
      go_ret
      exact ⟨rfl, rfl⟩
    · have g3 : ((x : Int) == 9218868437227405312) = false := by rw [beq_eq_false_iff_ne]; omega
      have i4 : (x : Int) ≤ 9218868437227405312 := by omega
      by_cases h2 : 4503599627370496 ≤ x
      · rw [hk, if_neg h4, if_neg h3, if_pos h2]
        have i2 : (4503599627370496 : Int) ≤ x := by omega
        clear hk h3 h2 h4
        go_enter Try.func89, Try.ntmps89
        go_wp2
        go_ret
        exact ⟨rfl, rfl⟩
      · have i2 : (x : Int) < 4503599627370496 := by omega
        by_cases h1 : 0 < x
        · rw [hk, if_neg h4, if_neg h3, if_neg h2, if_pos h1]
          have d2 : decide ((4503599627370496 : Int) ≤ x) = false := by simpa using i2
          have d1 : decide (0 < x) = true := by simpa using h1
          clear hk h3 h2 h4 i2 h1
          go_enter Try.func89, Try.ntmps89
          go_wp2
          go_ret
          exact ⟨rfl, rfl⟩
        · rw [hk, if_neg h4, if_neg h3, if_neg h2, if_neg h1]
          obtain rfl : x = 0 := by omega
          clear hk h3
          go_enter Try.func89, Try.ntmps89
          go_wp2
          go_ret
          exact ⟨rfl, rfl⟩

/-- What lies in a row of floats, told plainly. -/
structure Pt where
  a : Nat
  b : Nat
  nan : Bool
  up : Bool
  down : Bool
  all : Bool
def Pt.add (p : Pt) (f : Nat) : Pt :=
  ⟨p.a + (if kindF f < 3 ∧ f < 9223372036854775808 then magF f else 0), p.b + (if kindF f < 3 ∧ 9223372036854775808 ≤ f then magF (f - 9223372036854775808) else 0),
    p.nan || kindF f == 4, p.up || f == 9218868437227405312, p.down || f == 18442240474082181120, p.all && f == 9223372036854775808⟩
def Pt.of (l : List Nat) : Pt := l.foldl Pt.add ⟨0, 0, false, false, false, decide (0 < l.length)⟩
def Pt.upto (l : List Nat) (k : Nat) : Pt := (l.take k).foldl Pt.add ⟨0, 0, false, false, false, decide (0 < l.length)⟩
theorem Pt.upto_succ {l : List Nat} {k f : Nat} (h : l[k]? = some f) : Pt.upto l (k + 1) = (Pt.upto l k).add f := by
  unfold Pt.upto
  rw [List.take_add_one, h, Option.toList_some, List.foldl_append]; rfl
theorem Pt.upto_all {l : List Nat} : Pt.upto l l.length = Pt.of l := by unfold Pt.upto Pt.of; rw [List.take_length]
theorem Pt.upto_le (l : List Nat) : ∀ k, (Pt.upto l k).a ≤ k * magTop ∧ (Pt.upto l k).b ≤ k * magTop := by
  intro k
  induction k with
  | zero => unfold Pt.upto; simp
  | succ k ih =>
    cases h : l[k]? with
    | none =>
      have : Pt.upto l (k + 1) = Pt.upto l k := by unfold Pt.upto; rw [List.take_add_one, h]; simp
      rw [this, Nat.succ_mul]; omega
    | some f =>
      rw [Pt.upto_succ h, Nat.succ_mul]
      have h1 := mag_lt f
      have h2 := mag_lt (f - 9223372036854775808)
      unfold Pt.add
      dsimp only
      generalize k * magTop = X at *
      generalize magTop = T at *
      constructor
      · split <;> omega
      · split <;> omega
theorem tops2 : 4611686018427387904 * magTop < wTop := by
  obtain ⟨k, hk⟩ : ∃ k : Nat, k = 2046 := ⟨_, rfl⟩
  obtain ⟨m, hm⟩ : ∃ k : Nat, k = 140 := ⟨_, rfl⟩
  rw [magTop_eq k hk, wTop_eq m hm]
  have e1 : 4611686018427387904 * (9007199254740992 * 2 ^ k) = 2 ^ (62 + (53 + k)) := by rw [Nat.pow_add, Nat.pow_add]
  have e2 : 65536 ^ m = 2 ^ (16 * m) := by rw [Nat.pow_mul]
  rw [e1, e2]
  exact Nat.pow_lt_pow_right (by decide) (by omega)
theorem upto_lt (l : List Nat) (k : Nat) (hk : k ≤ 4611686018427387904) : (Pt.upto l k).a < wTop ∧ (Pt.upto l k).b < wTop := by
  have h := Pt.upto_le l k
  have h1 : k * magTop ≤ 4611686018427387904 * magTop := Nat.mul_le_mul_right _ hk
  have h2 := tops2
  omega
end Go.Proofs.Ytmllbdiljjimmaa

/- The walks of the references: what lies in a row of floats. -/
namespace Go.Proofs.Ytmllbdiljjimmaa
open Go.RowKit

/-- A row of words that came in. -/
def Words (w : World) (p : Option Addr) (len : Nat) (fs : List Nat) : Prop := Nums .u64 w p len (fs.map Int.ofNat) ∧ ∀ f ∈ fs, f < 18446744073709551616
theorem Words.len {w : World} {p : Option Addr} {len : Nat} {fs : List Nat} (h : Words w p len fs) : fs.length = len := by have := h.1.1; simpa using this
theorem Words.at {w : World} {p : Option Addr} {len : Nat} {fs : List Nat} (h : Words w p len fs) {k : Nat} (hk : k < len) : ∃ b off f, p = some ⟨b, off, none⟩ ∧ fs[k]? = some f ∧ f < 18446744073709551616 ∧ w.cell? ⟨b, off + k, none⟩ = some (.int .u64 (f : Int)) := by
  obtain ⟨b, off, x, hp, hx, hc⟩ := h.1.2 k hk
  obtain ⟨f, hfx, rfl⟩ : ∃ f : Nat, fs[k]? = some f ∧ x = (f : Int) := by
    rw [List.getElem?_map] at hx
    cases hfk : fs[k]? with
    | none => rw [hfk] at hx; cases hx
    | some f => rw [hfk] at hx; exact ⟨f, rfl, by simpa using hx.symm⟩
  exact ⟨b, off, f, hp, hfx, h.2 f (List.mem_of_getElem? hfx), hc⟩
theorem Words.frame {w w' : World} {p : Option Addr} {len : Nat} {fs : List Nat} (h : Words w p len fs) (hf : Fr (fun _ => False) w w') : Words w' p len fs := ⟨h.1.frame hf, h.2⟩

/-- The worlds in which a row is taken apart: the two sums so far. -/
def PartsW (w : World) (B a b : Nat) (wr : World) : Prop := WB wr B zeroW ∧ WB wr (B + 1) zeroW ∧ WB wr (B + 1 + 1) (digN 140 a) ∧ WB wr (B + 1 + 1 + 1) (digN 140 b) ∧ Fr (fun _ => False) w wr ∧ w.heap.size ≤ B

theorem four_new (w : World) : ∀ w1, (((w.alloc (.cells Try.zeroCells93 93)).alloc (.cells Try.zeroCells93 93)).alloc (.cells Try.zeroCells93 93)).alloc (.cells Try.zeroCells93 93) = w1 →
    PartsW w w.heap.size 0 0 w1 := by
  intro w1 h
  rw [show Try.zeroCells93 = (digCells zeroW).toArray from zero_wide] at h
  have h' : (((w.alloc (.cells (digCells zeroW).toArray 93)).alloc (.cells (digCells zeroW).toArray 93)).alloc (.cells Try.zeroCells93 93)).alloc (.cells Try.zeroCells93 93) = w1 := by rw [zero_wide]; exact h
  obtain ⟨h1, h2, h3, h4, h5⟩ := four_boxes w zeroW zeroW w1 h'
  have e : digN 140 0 = zeroW := (digN_of zeroW_len (Digs.zero _) (toD_zero _)).symm
  exact ⟨h1, h2, by rw [e]; exact h3, by rw [e]; exact h4, h5, Nat.le_refl _⟩

theorem PartsW.frame {w : World} {B a b : Nat} {w1 w2 : World} (h : PartsW w B a b w1) (hf : Fr (fun _ => False) w1 w2) : PartsW w B a b w2 :=
  ⟨h.1.frame hf (fun h => h), h.2.1.frame hf (fun h => h), h.2.2.1.frame hf (fun h => h), h.2.2.2.1.frame hf (fun h => h), h.2.2.2.2.1.then hf, h.2.2.2.2.2⟩
theorem PartsW.setA {w : World} {B a b : Nat} {w1 : World} (h : PartsW w B a b w1) (a' : Nat) : PartsW w B a' b (w1.setRow (B + 1 + 1) (digCells (digN 140 a')).toArray) :=
  ⟨h.1.setRowOther (B + 1 + 1) _ (by omega), h.2.1.setRowOther (B + 1 + 1) _ (by omega), Blk.setRow (c := digCells (digN 140 a)) h.2.2.1 _, h.2.2.2.1.setRowOther (B + 1 + 1) _ (by omega), h.2.2.2.2.1.setRow (B + 1 + 1) (.inr (by have := h.2.2.2.2.2; omega)) _, h.2.2.2.2.2⟩
theorem PartsW.setB {w : World} {B a b : Nat} {w1 : World} (h : PartsW w B a b w1) (b' : Nat) : PartsW w B a b' (w1.setRow (B + 1 + 1 + 1) (digCells (digN 140 b')).toArray) :=
  ⟨h.1.setRowOther (B + 1 + 1 + 1) _ (by omega), h.2.1.setRowOther (B + 1 + 1 + 1) _ (by omega), h.2.2.1.setRowOther (B + 1 + 1 + 1) _ (by omega), Blk.setRow (c := digCells (digN 140 b)) h.2.2.2.1 _, h.2.2.2.2.1.setRow (B + 1 + 1 + 1) (.inr (by have := h.2.2.2.2.2; omega)) _, h.2.2.2.2.2⟩
theorem PartsW.drew {w : World} {B a b : Nat} {w1 : World} (h : PartsW w B a b w1) : PartsW w B a b w1.drew := h.frame (Fr.refl _ w1).drew

/-- A number is added to a wide one: opaque values. -/
theorem sum_step (a d : Nat) (hs : a + d < wTop) : ∃ (ca cr : Array Value) (z : Value), z = wideV d ∧ (∀ w b, WB w b (digN 140 a) → w.heap[b]? = some (.cells ca 93 (0, 0))) ∧
    (Try.prog.info? 93).map (·.size) = some ca.size ∧ (Try.prog.info? 93).map (·.size) = some cr.size ∧ ca.size = cr.size ∧ cr.all (·.oneCell') = true ∧ cr = (digCells (digN 140 (a + d))).toArray ∧
    (∀ w, Calls Try.prog 78 #[.agg ca, z] w fun e w' => e = .returned (.agg cr) ∧ Fr (fun _ => False) w w') := by
  refine ⟨(digCells (digN 140 a)).toArray, (digCells (digN 140 (a + d))).toArray, wideV d, rfl, fun _ _ h => h, info_digs _ (digN_len _ _), info_digs _ (digN_len _ _), ?_, digs_one _, rfl, plus_fix a d (by omega) (by omega) hs⟩
  rw [digs_size _ (digN_len _ _), digs_size _ (digN_len _ _)]

/-- The classes of the last statement: how much of the results has been put. -/
def EndW (w : World) (B : Nat) (la lb : List Value) (s : Nat) (w' : World) : Prop :=
  Fr (fun _ => False) w w' ∧ Blk w' (B + 1 + 1) la 93 ∧ Blk w' (B + 1 + 1 + 1) lb 93 ∧ (s = 0 → WB w' B zeroW) ∧ (s ≤ 1 → WB w' (B + 1) zeroW) ∧ (1 ≤ s → Blk w' B la 93) ∧ (2 ≤ s → Blk w' (B + 1) lb 93)
theorem EndW.put0 {w : World} {B : Nat} {la lb : List Value} {w' : World} (hB : w.heap.size ≤ B) (h : EndW w B la lb 0 w') : EndW w B la lb 1 (w'.setRow B la.toArray) := by
  obtain ⟨h1, h2, h3, h4, h5, h6, h7⟩ := h
  exact ⟨h1.setRow B (.inr hB) _, h2.setRowOther B _ (by omega), h3.setRowOther B _ (by omega), fun h => by omega, fun _ => (h5 (by omega)).setRowOther B _ (by omega), fun _ => Blk.setRow (c := digCells zeroW) (h4 rfl) la, fun h => by omega⟩
theorem EndW.put1 {w : World} {B : Nat} {la lb : List Value} {w' : World} (hB : w.heap.size ≤ B) (h : EndW w B la lb 1 w') : EndW w B la lb 2 (w'.setRow (B + 1) lb.toArray) := by
  obtain ⟨h1, h2, h3, h4, h5, h6, h7⟩ := h
  exact ⟨h1.setRow (B + 1) (.inr (by omega)) _, h2.setRowOther (B + 1) _ (by omega), h3.setRowOther (B + 1) _ (by omega), fun h => by omega, fun h => by omega, fun _ => (h6 (by omega)).setRowOther (B + 1) _ (by omega), fun _ => Blk.setRow (c := digCells zeroW) (h5 (by omega)) lb⟩
theorem EndW.next {w : World} {B : Nat} {la lb : List Value} {s : Nat} {w' : World} (hs : 2 ≤ s) (h : EndW w B la lb s w') : EndW w B la lb (s + 1) w' := by
  obtain ⟨h1, h2, h3, h4, h5, h6, h7⟩ := h
  exact ⟨h1, h2, h3, fun h => by omega, fun h => by omega, fun _ => h6 (by omega), fun _ => h7 hs⟩

def PartsPost (w : World) (p : Pt) (e : Ending) (w' : World) : Prop :=
  e = .returned (.tuple #[wideV p.a, wideV p.b, .bool (p.nan || (p.up && p.down)), .bool p.up, .bool p.down, .bool p.all]) ∧ Fr (fun _ => False) w w'

set_option maxRecDepth 100000 in
set_option maxHeartbeats 3200000 in
theorem parts_any (q : Option Addr) (len cap : Nat) (fs : List Nat) (w : World) (h : Words w q len fs) (hlen : len ≤ 1000000) :
    Calls Try.prog 64 #[.slice q len cap] w (PartsPost w (Pt.of fs)) := by
  have hfl := h.len
  have HN := Lib.hid (four_new w)
  have HW := Lib.hid h
  clear h
  go_enter Try.func64, Try.ntmps64
  go_upto_region 2 with fail
  generalize hW : (((w.alloc _).alloc _).alloc _).alloc _ = w1
  have hp := HN.out w1 hW
  generalize hbb : w.heap.size = B at *
  have HP := Lib.hid hp
  clear hW hp HN hbb
  go_wp2
  go_loopw [10, 11, 12, 13, 14] (fun a b c d i wr => ∃ k : Nat, k ≤ len ∧ i = .int .i64 (k : Int) ∧ a = .bool (Pt.upto fs k).nan ∧ b = .bool (Pt.upto fs k).up ∧ c = .bool (Pt.upto fs k).down ∧ d = .bool (Pt.upto fs k).all ∧ Hid (PartsW w B (Pt.upto fs k).a (Pt.upto fs k).b wr)) (fun _ _ _ _ i _ => len - (intOf i).toNat)
  case atStart => exact ⟨0, by omega, rfl, rfl, rfl, rfl, by unfold Pt.upto; simp [hfl], HP.out⟩
  case round =>
    clear HP
    obtain ⟨k, hk, rfl, rfl, rfl, rfl, rfl, hr⟩ := hrel
    by_cases hlt : k < len
    · obtain ⟨pb, off, f, rfl, hfx, hfl2, hc0⟩ := HW.out.at hlt
      have hc := ((HW.out.frame hr.out.2.2.2.2.1).at hlt)
      obtain ⟨pb', off', f', e1, e2, _, hc⟩ := hc
      cases e1
      rw [hfx] at e2
      cases e2
      have hadd := Pt.upto_succ hfx
      have hkk := kind2_any f hfl2 wr
      have hk2 : (k : Int) < len := by omega
      have hcon := fun m => upto_lt fs m
      have hle1 : (Pt.upto fs (k + 1)).a < wTop ∧ (Pt.upto fs (k + 1)).b < wTop := upto_lt fs (k + 1) (by omega)
      have hle0 : (Pt.upto fs k).a < wTop ∧ (Pt.upto fs k).b < wTop := upto_lt fs k (by omega)
      rw [hadd] at hle1
      have HADD : Hid (∀ wx, Hid (PartsW w B ((Pt.upto fs k).add f).a ((Pt.upto fs k).add f).b wx) → Hid (PartsW w B (Pt.upto fs (k + 1)).a (Pt.upto fs (k + 1)).b wx)) := fun wx h => by rw [hadd]; exact h
      have HA1 : Hid (((Pt.upto fs k).add f).nan = (Pt.upto fs (k + 1)).nan ∧ ((Pt.upto fs k).add f).up = (Pt.upto fs (k + 1)).up ∧ ((Pt.upto fs k).add f).down = (Pt.upto fs (k + 1)).down ∧ ((Pt.upto fs k).add f).all = (Pt.upto fs (k + 1)).all) := by rw [hadd]; exact ⟨rfl, rfl, rfl, rfl⟩
      clear hadd hcon
      generalize hp1e : Pt.upto fs (k + 1) = p1 at *
      have HPX := Lib.hid hp1e
      clear hp1e
      generalize Pt.upto fs k = p at *
      obtain ⟨pa, pb2, pn, pu, pd, pl⟩ := p
      have hkle := kind_le f
      obtain ⟨b4, h4⟩ : ∃ b4, (((kindF f : Nat) : Int) == 4) = b4 := ⟨_, rfl⟩
      obtain ⟨bi, hi⟩ : ∃ b, ((f : Int) == 9218868437227405312) = b := ⟨_, rfl⟩
      obtain ⟨bj, hj⟩ : ∃ b, ((f : Int) == 18442240474082181120) = b := ⟨_, rfl⟩
      obtain ⟨bs, hs⟩ : ∃ b, ((f : Int) == 9223372036854775808) = b := ⟨_, rfl⟩
      have HB : Hid (b4 = (kindF f == 4) ∧ bi = (f == 9218868437227405312) ∧ bj = (f == 18442240474082181120) ∧ bs = (f == 9223372036854775808)) := by
        refine ⟨?_, ?_, ?_, ?_⟩
        · rw [← h4, Bool.eq_iff_iff, beq_iff_eq, beq_iff_eq]; omega
        · rw [← hi, Bool.eq_iff_iff, beq_iff_eq, beq_iff_eq]; omega
        · rw [← hj, Bool.eq_iff_iff, beq_iff_eq, beq_iff_eq]; omega
        · rw [← hs, Bool.eq_iff_iff, beq_iff_eq, beq_iff_eq]; omega
      have HP1 : Hid (p1.nan = (pn || b4) ∧ p1.up = (pu || bi) ∧ p1.down = (pd || bj) ∧ p1.all = (pl && bs)) := by
        obtain ⟨g1, g2, g3, g4⟩ := HA1.out
        obtain ⟨j1, j2, j3, j4⟩ := HB.out
        refine ⟨?_, ?_, ?_, ?_⟩
        · rw [← g1, j1]; rfl
        · rw [← g2, j2]; rfl
        · rw [← g3, j3]; rfl
        · rw [← g4, j4]; rfl
      clear HA1 HB
      have HKK := Lib.hid hkk
      have HADD2 : Hid (∀ wx, Hid (PartsW w B (pa + (if kindF f < 3 ∧ f < 9223372036854775808 then magF f else 0)) (pb2 + (if kindF f < 3 ∧ 9223372036854775808 ≤ f then magF (f - 9223372036854775808) else 0)) wx) → Hid (PartsW w B p1.a p1.b wx)) := HADD.out
      have HLE : Hid ((pa + (if kindF f < 3 ∧ f < 9223372036854775808 then magF f else 0) < wTop) ∧ (pb2 + (if kindF f < 3 ∧ 9223372036854775808 ≤ f then magF (f - 9223372036854775808) else 0)) < wTop) := hle1
      have HLE0 : Hid (pa < wTop ∧ pb2 < wTop) := hle0
      obtain ⟨n1, u1, d1, l1, hp1⟩ : ∃ n1 u1 d1 l1, (p1.nan = n1 ∧ p1.up = u1 ∧ p1.down = d1 ∧ p1.all = l1) := ⟨_, _, _, _, rfl, rfl, rfl, rfl⟩
      rw [hp1.1, hp1.2.1, hp1.2.2.1, hp1.2.2.2] at HP1
      have HPE := Lib.hid hp1
      clear hkk HADD hle1 hle0 hp1
      dsimp only at hr
      generalize kindF f = K at *
      go_upto_region 10 with (go_at_call 89; refine (HKK.out).mono ?_; rintro e w' ⟨rfl, rfl⟩)
      go_cut [10] (fun v wx => v = .bool n1 ∧ wx = wr)
      case first =>
        have hq := HP1.out.1
        cases pn
        all_goals
          go_wp2
          go_meet
          exact ⟨by rw [hq]; simp, rfl⟩
      case rest =>
        obtain ⟨rfl, rfl⟩ := hcut
        go_upto_region 11 with fail
        go_cut [11] (fun v wx => v = .bool u1 ∧ wx = wc)
        case first =>
          have hq := HP1.out.2.1
          cases pu
          all_goals
            go_wp2
            go_meet
            exact ⟨by rw [hq]; simp, rfl⟩
        case rest =>
        obtain ⟨rfl, hw⟩ := hcut
        subst hw
        go_upto_region 12 with fail
        go_cut [12] (fun v wx => v = .bool d1 ∧ wx = wc)
        case first =>
          have hq := HP1.out.2.2.1
          cases pd
          all_goals
            go_wp2
            go_meet
            exact ⟨by rw [hq]; simp, rfl⟩
        case rest =>
        obtain ⟨rfl, hw⟩ := hcut
        subst hw
        go_upto_region 13 with fail
        go_cut [13] (fun v wx => v = .bool l1 ∧ wx = wc)
        case first =>
          have hq := HP1.out.2.2.2
          cases pl
          all_goals
            go_wp2
            go_meet
            exact ⟨by rw [hq]; simp, rfl⟩
        case rest =>
        obtain ⟨rfl, hw⟩ := hcut
        subst hw
        clear hi hj hs h4 hkle HP1 HKK
        obtain ⟨t1, ht1⟩ : ∃ t, decide (K < 3 ∧ f < 9223372036854775808) = t := ⟨_, rfl⟩
        obtain ⟨t2, ht2⟩ : ∃ t, decide (K < 3 ∧ 9223372036854775808 ≤ f) = t := ⟨_, rfl⟩
        have HT1 := Lib.hid ht1
        have HT2 := Lib.hid ht2
        clear ht1 ht2
        go_upto_region 14 with fail
        go_cut [67] (fun v wx => v = .bool t1 ∧ wx = wc)
        case first =>
          by_cases hK : K < 3
          · have hd : decide (K < 3) = true := by simpa using hK
            have hq : t1 = decide ((f : Int) < 9223372036854775808) := by rw [← HT1.out]; simp [hK]; omega
            go_wp2
            go_meet
            exact ⟨by rw [hq], rfl⟩
          · have hd : decide (K < 3) = false := by simpa using hK
            have hq : t1 = false := by rw [← HT1.out]; simp [hK]
            go_wp2
            go_meet
            exact ⟨by rw [hq], rfl⟩
        case rest =>
        obtain ⟨rfl, hw⟩ := hcut
        subst hw
        obtain ⟨a1, ha1⟩ : ∃ x, x = pa + (if K < 3 ∧ f < 9223372036854775808 then magF f else 0) := ⟨_, rfl⟩
        obtain ⟨b1, hb1⟩ : ∃ x, x = pb2 + (if K < 3 ∧ 9223372036854775808 ≤ f then magF (f - 9223372036854775808) else 0) := ⟨_, rfl⟩
        rw [← ha1, ← hb1] at HADD2 HLE
        have HA1 : Hid ((t1 = true → f < 9223372036854775808 ∧ a1 = pa + magF f) ∧ (t1 = false → a1 = pa)) := by
          refine ⟨fun h => ?_, fun h => ?_⟩
          · have h2 := HT1.out
            rw [h, decide_eq_true_eq] at h2
            exact ⟨h2.2, by rw [ha1, if_pos h2]⟩
          · have h2 := HT1.out
            rw [h, decide_eq_false_iff_not] at h2
            rw [ha1, if_neg h2, Nat.add_zero]
        have HB1 : Hid ((t2 = true → 9223372036854775808 ≤ f ∧ b1 = pb2 + magF (f - 9223372036854775808)) ∧ (t2 = false → b1 = pb2)) := by
          refine ⟨fun h => ?_, fun h => ?_⟩
          · have h2 := HT2.out
            rw [h, decide_eq_true_eq] at h2
            exact ⟨h2.2, by rw [hb1, if_pos h2]⟩
          · have h2 := HT2.out
            rw [h, decide_eq_false_iff_not] at h2
            rw [hb1, if_neg h2, Nat.add_zero]
        clear ha1 hb1 HT1
        go_upto_if 67 with fail
        go_cut [] (fun wx => Hid (PartsW w B a1 pb2 wx))
        case first =>
          cases t1 with
          | false =>
            obtain rfl := HA1.out.2 rfl
            go_wp2
            go_meet
            exact hr
          | true =>
            obtain ⟨hf63, hs1⟩ := HA1.out.1 rfl
            have hval := value_fix f hf63
            obtain ⟨ca, cr, z, hz, hR, hI1, hI2, hS, hO, hcr, hpl⟩ := sum_step pa (magF f) (by rw [← hs1]; exact HLE.out.1)
            rw [← hs1] at hcr
            unfold WPost at hval
            rw [← hz] at hval
            have HV := Lib.hid hval
            have HPL := Lib.hid hpl
            have HI1 := Lib.hid hI1
            have HI2 := Lib.hid hI2
            have HS := Lib.hid hS
            have HO := Lib.hid hO
            have HSET : Hid (∀ wx, PartsW w B pa pb2 wx → PartsW w B a1 pb2 (wx.setRow (B + 1 + 1) cr)) := fun wx h => by rw [hcr]; exact h.setA a1
            have HR : Hid (∀ wx, PartsW w B pa pb2 wx → wx.heap[B + 1 + 1]? = some (.cells ca 93 (0, 0))) := fun wx h => hR wx _ h.2.2.1
            have HCELL : Hid (∀ wx, PartsW w B pa pb2 wx → wx.cell? ⟨pb, off + k, none⟩ = some (.int .u64 (f : Int))) := fun wx h => (World.cell?_of_block (w := w) (h.2.2.2.2.1.block pb (cell_lt hc0) (fun h => h))).trans hc0
            clear hval hpl hI1 hI2 hS hO hR hcr hz hs1
            go_upto_region 15 with fail
            refine region_class (PartsW w B pa pb2) 7 (by kernel_rfl) (by kernel_rfl) hr.out.drew ?_
            simp only [List.take_succ_cons, List.take_zero, List.drop_succ_cons, List.drop_zero]
            refine quiet_run (.agg ca) rfl (fun w' hw' => run_row rfl (B + 1 + 1) rfl 93 ca (0, 0) _ (HR.out w' hw') Try.underlying93 rfl HI1.out) ?_
            refine quiet_run (.slice (some ⟨pb, off, none⟩) len cap) rfl (fun w' _ => BigFrame.run_move (.tmp 0) rfl w') ?_
            refine quiet_run (.int .i64 (k : Int)) rfl (fun w' _ => BigFrame.run_move (.tmp 14) rfl w') ?_
            simp only [Act.put, List.setIfInBounds_toArray, List.set_cons_zero, List.set_cons_succ]
            refine quiet_run (.pointer (some ⟨pb, off + k, none⟩)) rfl (fun w' _ => by go_simp) ?_
            refine quiet_run (.int .u64 (f : Int)) rfl (fun w' hw' => by have hcc := HCELL.out w' hw'; go_simp) ?_
            refine quiet_call z 93 #[.int .u64 (f : Int)] rfl (fun w' => by go_simp) (fun w' hw' => (HV.out w').mono fun _ _ h => ⟨h.1, hw'.frame h.2⟩) ?_
            refine quiet_call (.agg cr) 78 #[.agg ca, z] rfl (fun w' => by go_simp) (fun w' hw' => (HPL.out w').mono fun _ _ h => ⟨h.1, hw'.frame h.2⟩) ?_
            refine wpQuiet_nil ?_
            intro w2 hw2
            simp only [Act.put, List.setIfInBounds_toArray, List.set_cons_zero, List.set_cons_succ]
            have HFIN : Hid (PartsW w B a1 pb2 (w2.setRow (B + 1 + 1) cr)) := HSET.out _ hw2
            have HR2 := Lib.hid (HR.out w2 hw2)
            clear hw2 HR HSET HCELL HV HPL
            go_wp2_with (refine wpList_store_row rfl 93 _ _ rfl (B + 1 + 1) cr rfl rfl 93 ca HR2.out HI2.out HS.out HO.out ?_)
            go_meet
            exact HFIN
        case rest =>
        rename_i wo
        obtain ⟨wc', hwc⟩ : ∃ x, x = wc := ⟨_, rfl⟩
        have hr2 : Hid (PartsW w B a1 pb2 wc) := hcut
        have hc2 : wc.cell? ⟨pb, off + k, none⟩ = some (.int .u64 (f : Int)) := (World.cell?_of_block (w := w) (hr2.out.2.2.2.2.1.block pb (cell_lt hc0) (fun h => h))).trans hc0
        clear hwc hcut hr hc HA1
        go_upto_region 16 with fail
        go_cut [83] (fun v wx => v = .bool t2 ∧ wx = wc)
        case first =>
          by_cases hK : K < 3
          · have hd : decide (K < 3) = true := by simpa using hK
            have hq : t2 = decide ((9223372036854775808 : Int) ≤ (f : Int)) := by rw [← HT2.out]; simp [hK]; omega
            go_wp2
            go_meet
            exact ⟨by rw [hq], rfl⟩
          · have hd : decide (K < 3) = false := by simpa using hK
            have hq : t2 = false := by rw [← HT2.out]; simp [hK]
            go_wp2
            go_meet
            exact ⟨by rw [hq], rfl⟩
        case rest =>
        obtain ⟨rfl, hw⟩ := hcut
        subst hw
        clear HT2
        go_upto_if 83 with fail
        cases t2 with
        | false =>
            obtain rfl := HB1.out.2 rfl
            have HEND : Hid (PartsW w B p1.a p1.b wc) := HADD2.out _ hr2
            clear hr2 hc2 HADD2 HB1 HLE HLE0 hc0
            go_wp2
            go_roundw
            case rel => exact ⟨k + 1, by omega, by go_num, by rw [HPX.out, HPE.out.1], by rw [HPX.out, HPE.out.2.1], by rw [HPX.out, HPE.out.2.2.1], by rw [HPX.out, HPE.out.2.2.2], by rw [HPX.out]; exact HEND⟩
            case measure => simp [intOf]; omega
        | true =>
            obtain ⟨hf63, hs1⟩ := HB1.out.1 rfl
            obtain ⟨f2, hf2⟩ : ∃ f2, f - 9223372036854775808 = f2 := ⟨_, rfl⟩
            rw [hf2] at hs1
            have hsub : (f : Int) - 9223372036854775808 = (f2 : Int) := by omega
            have hfl3 : f2 < 9223372036854775808 := by omega
            have hwr : IntKind.u64.wrap (f2 : Int) = (f2 : Int) := by rw [IntKind.wrap_u64]; omega
            clear hf2 hf63
            have hval := value_fix f2 hfl3
            obtain ⟨ca, cr, z, hz, hR, hI1, hI2, hS, hO, hcr, hpl⟩ := sum_step pb2 (magF f2) (by rw [← hs1]; exact HLE.out.2)
            rw [← hs1] at hcr
            unfold WPost at hval
            rw [← hz] at hval
            have HV := Lib.hid hval
            have HPL := Lib.hid hpl
            have HI1 := Lib.hid hI1
            have HI2 := Lib.hid hI2
            have HS := Lib.hid hS
            have HO := Lib.hid hO
            have HSET : Hid (∀ wx, PartsW w B a1 pb2 wx → PartsW w B a1 b1 (wx.setRow (B + 1 + 1 + 1) cr)) := fun wx h => by rw [hcr]; exact h.setB b1
            have HR : Hid (∀ wx, PartsW w B a1 pb2 wx → wx.heap[B + 1 + 1 + 1]? = some (.cells ca 93 (0, 0))) := fun wx h => hR wx _ h.2.2.2.1
            have HCELL : Hid (∀ wx, PartsW w B a1 pb2 wx → wx.cell? ⟨pb, off + k, none⟩ = some (.int .u64 (f : Int))) := fun wx h => (World.cell?_of_block (w := w) (h.2.2.2.2.1.block pb (cell_lt hc0) (fun h => h))).trans hc0
            clear hval hpl hI1 hI2 hS hO hR hcr hz hs1
            go_upto_region 17 with fail
            refine region_class (PartsW w B a1 pb2) 8 (by kernel_rfl) (by kernel_rfl) hr2.out.drew ?_
            simp only [List.take_succ_cons, List.take_zero, List.drop_succ_cons, List.drop_zero]
            refine quiet_run (.agg ca) rfl (fun w' hw' => run_row rfl (B + 1 + 1 + 1) rfl 93 ca (0, 0) _ (HR.out w' hw') Try.underlying93 rfl HI1.out) ?_
            refine quiet_run (.slice (some ⟨pb, off, none⟩) len cap) rfl (fun w' _ => BigFrame.run_move (.tmp 0) rfl w') ?_
            refine quiet_run (.int .i64 (k : Int)) rfl (fun w' _ => BigFrame.run_move (.tmp 14) rfl w') ?_
            simp only [Act.put, List.setIfInBounds_toArray, List.set_cons_zero, List.set_cons_succ]
            refine quiet_run (.pointer (some ⟨pb, off + k, none⟩)) rfl (fun w' _ => by go_simp) ?_
            refine quiet_run (.int .u64 (f : Int)) rfl (fun w' hw' => by have hcc := HCELL.out w' hw'; go_simp) ?_
            refine quiet_run (.int .u64 (f2 : Int)) rfl (fun w' _ => by go_simp) ?_
            refine quiet_call z 93 #[.int .u64 (f2 : Int)] rfl (fun w' => by go_simp) (fun w' hw' => (HV.out w').mono fun _ _ h => ⟨h.1, hw'.frame h.2⟩) ?_
            refine quiet_call (.agg cr) 78 #[.agg ca, z] rfl (fun w' => by go_simp) (fun w' hw' => (HPL.out w').mono fun _ _ h => ⟨h.1, hw'.frame h.2⟩) ?_
            refine wpQuiet_nil ?_
            intro w2 hw2
            simp only [Act.put, List.setIfInBounds_toArray, List.set_cons_zero, List.set_cons_succ]
            have HFIN : Hid (PartsW w B a1 b1 (w2.setRow (B + 1 + 1 + 1) cr)) := HSET.out _ hw2
            have HR2 := Lib.hid (HR.out w2 hw2)
            have HEND : Hid (PartsW w B p1.a p1.b (w2.setRow (B + 1 + 1 + 1) cr)) := HADD2.out _ HFIN
            clear hw2 HR HSET HCELL HV HPL HFIN hr2 hc2 HADD2 HB1 HLE HLE0 hc0
            go_wp2_with (refine wpList_store_row rfl 93 _ _ rfl (B + 1 + 1 + 1) cr rfl rfl 93 ca HR2.out HI2.out HS.out HO.out ?_)
            go_roundw
            case rel => exact ⟨k + 1, by omega, by go_num, by rw [HPX.out, HPE.out.1], by rw [HPX.out, HPE.out.2.1], by rw [HPX.out, HPE.out.2.2.1], by rw [HPX.out, HPE.out.2.2.2], by rw [HPX.out]; exact HEND⟩
            case measure => simp [intOf]; omega
    · obtain rfl : k = len := by omega
      have hall : Pt.upto fs k = Pt.of fs := by rw [← hfl]; exact Pt.upto_all
      rw [hall] at hr ⊢
      generalize Pt.of fs = p at *
      obtain ⟨pa, pb2, pn, pu, pd, pl⟩ := p
      dsimp only at hr ⊢
      have HBW : Hid (w.heap.size ≤ B) := hr.out.2.2.2.2.2
      have hI1 := info_digs (digN 140 pa) (digN_len _ _)
      have hI2 := info_digs (digN 140 pb2) (digN_len _ _)
      have hO1 := digs_one (digN 140 pa)
      have hO2 := digs_one (digN 140 pb2)
      have hz1 : (digCells zeroW).toArray.size = (digCells (digN 140 pa)).toArray.size := by rw [digs_size _ (digN_len _ _), digs_size zeroW zeroW_len]
      have hz2 : (digCells zeroW).toArray.size = (digCells (digN 140 pb2)).toArray.size := by rw [digs_size _ (digN_len _ _), digs_size zeroW zeroW_len]
      have hE : EndW w B (digCells (digN 140 pa)) (digCells (digN 140 pb2)) 0 wr.drew := ⟨hr.out.2.2.2.2.1.drew, hr.out.2.2.1, hr.out.2.2.2.1, fun _ => hr.out.1, fun _ => hr.out.2.1, fun h => by omega, fun h => by omega⟩
      have hwa : wideV pa = .agg (digCells (digN 140 pa)).toArray := rfl
      have hwb : wideV pb2 = .agg (digCells (digN 140 pb2)).toArray := rfl
      have hpost : ∀ w', Fr (fun _ => False) w w' → PartsPost w ⟨pa, pb2, pn, pu, pd, pl⟩ (.returned (.tuple #[.agg (digCells (digN 140 pa)).toArray, .agg (digCells (digN 140 pb2)).toArray, .bool (pn || (pu && pd)), .bool pu, .bool pd, .bool pl])) w' := fun w' hf => ⟨by rw [← hwa, ← hwb], hf⟩
      clear hwa hwb hall HW hr hlen hfl hk hlt
      generalize digCells (digN 140 pa) = la at *
      generalize digCells (digN 140 pb2) = lb at *
      have HI1 := Lib.hid hI1
      have HI2 := Lib.hid hI2
      have HO1 := Lib.hid hO1
      have HO2 := Lib.hid hO2
      have HZ1 := Lib.hid hz1
      have HZ2 := Lib.hid hz2
      have HE := Lib.hid hE
      have HPOST := Lib.hid hpost
      clear hI1 hI2 hO1 hO2 hz1 hz2 hE hpost
      go_upto_region 18 with fail
      refine region_steps (EndW w B la lb) 12 (by kernel_rfl) (by kernel_rfl) HE.out ?_
      simp only [List.take_succ_cons, List.take_zero, List.drop_succ_cons, List.drop_zero]
      refine head_run (.agg la.toArray) rfl (fun s w' hw' => step_value _ (run_row rfl (B + 1 + 1) rfl 93 la.toArray (0, 0) _ hw'.2.1 Try.underlying93 rfl HI1.out) hw') ?_
      refine head_run (.agg lb.toArray) rfl (fun s w' hw' => step_value _ (run_row rfl (B + 1 + 1 + 1) rfl 93 lb.toArray (0, 0) _ hw'.2.2.1 Try.underlying93 rfl HI2.out) hw') ?_
      refine head_run (.bool pn) rfl (fun s w' hw' => step_value _ (BigFrame.run_move (.tmp 10) rfl w') hw') ?_
      simp only [Act.put, List.setIfInBounds_toArray, List.set_cons_zero, List.set_cons_succ]
      refine head_run (.bool pn) rfl (fun s w' hw' => step_value _ (BigFrame.run_move (.tmp 94) rfl w') hw') ?_
      simp only [Act.put, List.setIfInBounds_toArray, List.set_cons_zero, List.set_cons_succ]
      cases pn with
      | true =>
        refine head_skipG (by rfl) ?_
        simp only [Act.put, List.setIfInBounds_toArray, List.set_cons_zero, List.set_cons_succ]
        refine head_skipG (by rfl) ?_
        simp only [Act.put, List.setIfInBounds_toArray, List.set_cons_zero, List.set_cons_succ]
        refine head_skipG (by rfl) ?_
        simp only [Act.put, List.setIfInBounds_toArray, List.set_cons_zero, List.set_cons_succ]
        refine head_skipG (by rfl) ?_
        simp only [Act.put, List.setIfInBounds_toArray, List.set_cons_zero, List.set_cons_succ]
        refine head_run (.bool true) rfl (fun s w' hw' => step_value _ (by go_simp) hw') ?_
        simp only [Act.put, List.setIfInBounds_toArray, List.set_cons_zero, List.set_cons_succ]
        refine head_run (.bool pu) rfl (fun s w' hw' => step_value _ (BigFrame.run_move (.tmp 11) rfl w') hw') ?_
        simp only [Act.put, List.setIfInBounds_toArray, List.set_cons_zero, List.set_cons_succ]
        refine head_run (.bool pd) rfl (fun s w' hw' => step_value _ (BigFrame.run_move (.tmp 12) rfl w') hw') ?_
        simp only [Act.put, List.setIfInBounds_toArray, List.set_cons_zero, List.set_cons_succ]
        refine head_run (.bool pl) rfl (fun s w' hw' => step_value _ (BigFrame.run_move (.tmp 13) rfl w') hw') ?_
        simp only [Act.put, List.setIfInBounds_toArray, List.set_cons_zero, List.set_cons_succ]
        refine head_nil ?_
        refine tail_run undef rfl (fun w' hw' => step_skip _ (run_put_row rfl B la.toArray rfl rfl 93 (digCells zeroW).toArray (hw'.2.2.2.1 rfl) HI1.out HZ1.out HO1.out) (hw'.put0 HBW.out)) ?_
        simp only [Act.put]
        refine tail_run undef rfl (fun w' hw' => step_skip _ (run_put_row rfl (B + 1) lb.toArray rfl rfl 93 (digCells zeroW).toArray (hw'.2.2.2.2.1 (by omega)) HI2.out HZ2.out HO2.out) (hw'.put1 HBW.out)) ?_
        simp only [Act.put]
        refine tail_run (.bool true) rfl (fun w' hw' => step_value _ (BigFrame.run_assign (.tmp 100) rfl w') (hw'.next (by omega))) ?_
        simp only [Act.put, List.setIfInBounds_toArray, List.set_cons_zero, List.set_cons_succ]
        refine tail_run (.bool pu) rfl (fun w' hw' => step_value _ (BigFrame.run_assign (.tmp 101) rfl w') (hw'.next (by omega))) ?_
        simp only [Act.put, List.setIfInBounds_toArray, List.set_cons_zero, List.set_cons_succ]
        refine tail_run (.bool pd) rfl (fun w' hw' => step_value _ (BigFrame.run_assign (.tmp 102) rfl w') (hw'.next (by omega))) ?_
        simp only [Act.put, List.setIfInBounds_toArray, List.set_cons_zero, List.set_cons_succ]
        refine tail_run (.bool pl) rfl (fun w' hw' => step_value _ (BigFrame.run_assign (.tmp 103) rfl w') (hw'.next (by omega))) ?_
        simp only [Act.put, List.setIfInBounds_toArray, List.set_cons_zero, List.set_cons_succ]
        refine tail_nil ?_
        intro w2 hw2
        have HW2 := Lib.hid hw2
        clear hw2
        go_wp2
        refine bodyPost_ret (results_cell2_tmp4 (by rfl) _ _ B (B + 1) 93 93 la.toArray lb.toArray (0, 0) (0, 0) _ _ _ _ _ rfl rfl rfl rfl rfl rfl (HW2.out.2.2.2.2.2.1 (by decide)) (HW2.out.2.2.2.2.2.2 (by decide)) Try.underlying93 rfl HI1.out HI2.out) rfl ?_
        exact HPOST.out _ HW2.out.1
      | false =>
        cases pu with
        | true =>
          refine head_runG (.bool true) (by rfl) (fun s w' hw' => step_value _ (BigFrame.run_move (.tmp 11) rfl w') hw') ?_
          simp only [Act.put, List.setIfInBounds_toArray, List.set_cons_zero, List.set_cons_succ]
          refine head_runG (.bool true) (by rfl) (fun s w' hw' => step_value _ (BigFrame.run_move (.tmp 96) rfl w') hw') ?_
          simp only [Act.put, List.setIfInBounds_toArray, List.set_cons_zero, List.set_cons_succ]
          refine head_runG (.bool pd) (by rfl) (fun s w' hw' => step_value _ (BigFrame.run_move (.tmp 12) rfl w') hw') ?_
          simp only [Act.put, List.setIfInBounds_toArray, List.set_cons_zero, List.set_cons_succ]
          refine head_runG (.bool pd) (by rfl) (fun s w' hw' => step_value _ (by go_simp) hw') ?_
          simp only [Act.put, List.setIfInBounds_toArray, List.set_cons_zero, List.set_cons_succ]
          refine head_run (.bool pd) rfl (fun s w' hw' => step_value _ (by go_simp) hw') ?_
          simp only [Act.put, List.setIfInBounds_toArray, List.set_cons_zero, List.set_cons_succ]
          refine head_run (.bool true) rfl (fun s w' hw' => step_value _ (BigFrame.run_move (.tmp 11) rfl w') hw') ?_
          simp only [Act.put, List.setIfInBounds_toArray, List.set_cons_zero, List.set_cons_succ]
          refine head_run (.bool pd) rfl (fun s w' hw' => step_value _ (BigFrame.run_move (.tmp 12) rfl w') hw') ?_
          simp only [Act.put, List.setIfInBounds_toArray, List.set_cons_zero, List.set_cons_succ]
          refine head_run (.bool pl) rfl (fun s w' hw' => step_value _ (BigFrame.run_move (.tmp 13) rfl w') hw') ?_
          simp only [Act.put, List.setIfInBounds_toArray, List.set_cons_zero, List.set_cons_succ]
          refine head_nil ?_
          refine tail_run undef rfl (fun w' hw' => step_skip _ (run_put_row rfl B la.toArray rfl rfl 93 (digCells zeroW).toArray (hw'.2.2.2.1 rfl) HI1.out HZ1.out HO1.out) (hw'.put0 HBW.out)) ?_
          simp only [Act.put]
          refine tail_run undef rfl (fun w' hw' => step_skip _ (run_put_row rfl (B + 1) lb.toArray rfl rfl 93 (digCells zeroW).toArray (hw'.2.2.2.2.1 (by omega)) HI2.out HZ2.out HO2.out) (hw'.put1 HBW.out)) ?_
          simp only [Act.put]
          refine tail_run (.bool pd) rfl (fun w' hw' => step_value _ (BigFrame.run_assign (.tmp 100) rfl w') (hw'.next (by omega))) ?_
          simp only [Act.put, List.setIfInBounds_toArray, List.set_cons_zero, List.set_cons_succ]
          refine tail_run (.bool true) rfl (fun w' hw' => step_value _ (BigFrame.run_assign (.tmp 101) rfl w') (hw'.next (by omega))) ?_
          simp only [Act.put, List.setIfInBounds_toArray, List.set_cons_zero, List.set_cons_succ]
          refine tail_run (.bool pd) rfl (fun w' hw' => step_value _ (BigFrame.run_assign (.tmp 102) rfl w') (hw'.next (by omega))) ?_
          simp only [Act.put, List.setIfInBounds_toArray, List.set_cons_zero, List.set_cons_succ]
          refine tail_run (.bool pl) rfl (fun w' hw' => step_value _ (BigFrame.run_assign (.tmp 103) rfl w') (hw'.next (by omega))) ?_
          simp only [Act.put, List.setIfInBounds_toArray, List.set_cons_zero, List.set_cons_succ]
          refine tail_nil ?_
          intro w2 hw2
          have HW2 := Lib.hid hw2
          clear hw2
          go_wp2
          refine bodyPost_ret (results_cell2_tmp4 (by rfl) _ _ B (B + 1) 93 93 la.toArray lb.toArray (0, 0) (0, 0) _ _ _ _ _ rfl rfl rfl rfl rfl rfl (HW2.out.2.2.2.2.2.1 (by decide)) (HW2.out.2.2.2.2.2.2 (by decide)) Try.underlying93 rfl HI1.out HI2.out) rfl ?_
          exact HPOST.out _ HW2.out.1
        | false =>
          refine head_runG (.bool false) (by rfl) (fun s w' hw' => step_value _ (BigFrame.run_move (.tmp 11) rfl w') hw') ?_
          simp only [Act.put, List.setIfInBounds_toArray, List.set_cons_zero, List.set_cons_succ]
          refine head_runG (.bool false) (by rfl) (fun s w' hw' => step_value _ (BigFrame.run_move (.tmp 96) rfl w') hw') ?_
          simp only [Act.put, List.setIfInBounds_toArray, List.set_cons_zero, List.set_cons_succ]
          refine head_skipG (by rfl) ?_
          simp only [Act.put, List.setIfInBounds_toArray, List.set_cons_zero, List.set_cons_succ]
          refine head_runG (.bool false) (by rfl) (fun s w' hw' => step_value _ (by go_simp) hw') ?_
          simp only [Act.put, List.setIfInBounds_toArray, List.set_cons_zero, List.set_cons_succ]
          refine head_run (.bool false) rfl (fun s w' hw' => step_value _ (by go_simp) hw') ?_
          simp only [Act.put, List.setIfInBounds_toArray, List.set_cons_zero, List.set_cons_succ]
          refine head_run (.bool false) rfl (fun s w' hw' => step_value _ (BigFrame.run_move (.tmp 11) rfl w') hw') ?_
          simp only [Act.put, List.setIfInBounds_toArray, List.set_cons_zero, List.set_cons_succ]
          refine head_run (.bool pd) rfl (fun s w' hw' => step_value _ (BigFrame.run_move (.tmp 12) rfl w') hw') ?_
          simp only [Act.put, List.setIfInBounds_toArray, List.set_cons_zero, List.set_cons_succ]
          refine head_run (.bool pl) rfl (fun s w' hw' => step_value _ (BigFrame.run_move (.tmp 13) rfl w') hw') ?_
          simp only [Act.put, List.setIfInBounds_toArray, List.set_cons_zero, List.set_cons_succ]
          refine head_nil ?_
          refine tail_run undef rfl (fun w' hw' => step_skip _ (run_put_row rfl B la.toArray rfl rfl 93 (digCells zeroW).toArray (hw'.2.2.2.1 rfl) HI1.out HZ1.out HO1.out) (hw'.put0 HBW.out)) ?_
          simp only [Act.put]
          refine tail_run undef rfl (fun w' hw' => step_skip _ (run_put_row rfl (B + 1) lb.toArray rfl rfl 93 (digCells zeroW).toArray (hw'.2.2.2.2.1 (by omega)) HI2.out HZ2.out HO2.out) (hw'.put1 HBW.out)) ?_
          simp only [Act.put]
          refine tail_run (.bool false) rfl (fun w' hw' => step_value _ (BigFrame.run_assign (.tmp 100) rfl w') (hw'.next (by omega))) ?_
          simp only [Act.put, List.setIfInBounds_toArray, List.set_cons_zero, List.set_cons_succ]
          refine tail_run (.bool false) rfl (fun w' hw' => step_value _ (BigFrame.run_assign (.tmp 101) rfl w') (hw'.next (by omega))) ?_
          simp only [Act.put, List.setIfInBounds_toArray, List.set_cons_zero, List.set_cons_succ]
          refine tail_run (.bool pd) rfl (fun w' hw' => step_value _ (BigFrame.run_assign (.tmp 102) rfl w') (hw'.next (by omega))) ?_
          simp only [Act.put, List.setIfInBounds_toArray, List.set_cons_zero, List.set_cons_succ]
          refine tail_run (.bool pl) rfl (fun w' hw' => step_value _ (BigFrame.run_assign (.tmp 103) rfl w') (hw'.next (by omega))) ?_
          simp only [Act.put, List.setIfInBounds_toArray, List.set_cons_zero, List.set_cons_succ]
          refine tail_nil ?_
          intro w2 hw2
          have HW2 := Lib.hid hw2
          clear hw2
          go_wp2
          refine bodyPost_ret (results_cell2_tmp4 (by rfl) _ _ B (B + 1) 93 93 la.toArray lb.toArray (0, 0) (0, 0) _ _ _ _ _ rfl rfl rfl rfl rfl rfl (HW2.out.2.2.2.2.2.1 (by decide)) (HW2.out.2.2.2.2.2.2 (by decide)) Try.underlying93 rfl HI1.out HI2.out) rfl ?_
          exact HPOST.out _ HW2.out.1
end Go.Proofs.Ytmllbdiljjimmaa
