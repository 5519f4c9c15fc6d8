/- The walks of package exact: Compare. -/
import Derived.Test.YtmllbdiljjimmaaFloat2
import Derived.Test.YtmllbdiljjimmaaNobody
namespace Go.Proofs.Ytmllbdiljjimmaa
open Go.RowKit

def rankI (plus minus : Bool) : Int := if plus then 1 else if minus then -1 else 0

set_option maxRecDepth 100000 in
set_option maxHeartbeats 800000 in
theorem rank_any (b : Nat) (made : Bool) (ns : List Nat) (nan plus minus : Bool) (count zeroes : Int) (w : World) (h : SumB w b made ns nan plus minus count zeroes) :
    Calls Try.prog 75 #[.pointer (some ⟨b, 0, none⟩)] w fun e w' => e = .returned (.int .i64 (rankI plus minus)) ∧ w = w' := by
  have c1 := h.cPlus
  have c2 := h.cMinus
  clear h
  cases plus <;> cases minus
  all_goals
    go_enter Try.func75, Try.ntmps75
    go_wp2
    go_ret
    exact ⟨rfl, rfl⟩
set_option maxRecDepth 100000 in
set_option maxHeartbeats 800000 in
theorem side_any (n : Int) (w : World) :
    Calls Try.prog 74 #[.int .i64 n] w fun e w' => e = .returned (.int .i64 (min (max n (-1)) 1)) ∧ w = w' := by
  go_enter Try.func74, Try.ntmps74
  go_wp2
  go_ret
  exact ⟨rfl, rfl⟩

/-- The complement of a sum's words, as far as place k. -/
def NotRel (w : World) (b : Nat) (made : Bool) (ns : List Nat) (nan plus minus : Bool) (count zeroes : Int) (k : Nat) (wr : World) : Prop :=
  ∃ ks, SumB wr b made ks nan plus minus count zeroes ∧ (∀ j, k ≤ j → ks[j]? = ns[j]?) ∧ toN (ks.take k) + toN (ns.take k) + 1 = 18446744073709551616 ^ k ∧ Fr (fun k => k = b) w wr

theorem not_step {T N x P : Nat} (h : T + N + 1 = P) (hx : x < 18446744073709551616) : (T + P * (18446744073709551615 - x)) + (N + P * x) + 1 = P * 18446744073709551616 := by
  have e : P * (18446744073709551615 - x + x) = P * 18446744073709551615 := by congr 1; omega
  rw [Nat.mul_add] at e
  generalize P * (18446744073709551615 - x) = A at *
  generalize P * x = B at *
  omega
theorem NotRel.step {w : World} {b : Nat} {made : Bool} {ns : List Nat} {nan plus minus : Bool} {count zeroes : Int} {k x : Nat} {wr : World} (h : NotRel w b made ns nan plus minus count zeroes k wr) (hk : k < 35) (hx : ns[k]? = some x) (hxl : x < 18446744073709551616) :
    NotRel w b made ns nan plus minus count zeroes (k + 1) ((wr.setCell ⟨b, 1 + k, none⟩ (.int .u64 ((18446744073709551615 - x : Nat) : Int))).drew) := by
  obtain ⟨ks, h1, h2, h3, h4⟩ := h
  have hl := h1.2.1
  refine ⟨ks.set k (18446744073709551615 - x), (h1.set hk (by omega)).drew, fun j hj => ?_, ?_, (h4.setCell ⟨b, 1 + k, none⟩ (.inl rfl) _).drew⟩
  · rw [List.getElem?_set_ne (by omega)]; exact h2 j (by omega)
  · have e1 : (ks.set k (18446744073709551615 - x))[k]? = some (18446744073709551615 - x) := by rw [List.getElem?_set_self (by omega)]
    have e2 : (ks.set k (18446744073709551615 - x)).take k = ks.take k := by rw [List.take_set, List.set_eq_of_length_le (by rw [List.length_take]; omega)]
    rw [toN_take e1, e2, toN_take hx, Nat.pow_succ]
    exact not_step h3 hxl

/-- How two sums compare. -/
def Got.bad (g : Got) : Bool := g.nan || (g.plus && g.minus)
def Got.cmp (g k : Got) : Int × Bool :=
  if g.bad || k.bad then (0, false) else if g.plus || g.minus || k.plus || k.minus then (min (max (rankI g.plus g.minus - rankI k.plus k.minus) (-1)) 1, true)
  else (if g.total = k.total then 0 else if k.total < g.total then 1 else -1, true)

theorem whole_lt (g : Got) : g.whole < 18446744073709551616 := by
  have h := rnd_le g.total.natAbs
  unfold Got.whole
  (repeat' split) <;> omega
theorem whole_bad (g : Got) : (dbl.order g.whole g.whole == some .eq) = !g.bad := by
  rw [order_self (whole_lt g)]
  congr 1
  unfold Got.whole Got.bad
  by_cases h : (g.nan || (g.plus && g.minus)) = true
  · rw [if_pos h, h]; decide
  · rw [if_neg h]
    rw [Bool.not_eq_true] at h
    rw [h, beq_eq_false_iff_ne]
    intro hk
    rw [kind_nan] at hk
    have hr := rnd_le g.total.natAbs
    unfold rungF at hk
    revert hk
    (repeat' split) <;> omega
theorem whole_bad2 (g : Got) : (dbl.order g.whole g.whole != some .eq) = g.bad := by
  have := whole_bad g
  rw [bne, this, Bool.not_not]

def CmpPost (w : World) (R : Int × Bool) (e : Ending) (w' : World) : Prop := e = .returned (.tuple #[.int .i64 R.1, .bool R.2]) ∧ Fr (fun _ => False) w w'

set_option maxRecDepth 100000 in
set_option maxHeartbeats 3200000 in
theorem compare_any (p1 p2 : Option Addr) (len1 len2 cap1 cap2 : Nat) (fs gs : List Nat) (w : World) (h1 : Flts w p1 len1 fs) (h2 : Flts w p2 len2 gs) (hl1 : len1 < 1000000) (hl2 : len2 < 1000000) :
    Calls Try.prog 30 #[.slice p1 len1 cap1, .slice p2 len2 cap2] w (CmpPost w ((Got.of fs).cmp (Got.of gs))) := by
  have HO1 := Lib.hid (of_sum p1 len1 cap1 fs w h1 (by omega))
  have HO2 : Hid (∀ w', Fr (fun _ => False) w w' → Calls Try.prog 61 #[.slice p2 len2 cap2] w' (OfPost w' gs)) := fun w' hf => of_sum p2 len2 cap2 gs w' (h2.frame hf (fun _ _ _ h => h)) (by omega)
  have hc1 := (zeroes_le fs).2
  have hc2 := (zeroes_le gs).2
  rw [h1.1] at hc1
  rw [h2.1] at hc2
  have hk1 := Got.ok_of fs
  have hk2 := Got.ok_of gs
  clear h1 h2
  unfold OfPost at HO1 HO2
  generalize Got.of fs = g at *
  generalize Got.of gs = k at *
  have hcmp : g.cmp k = if (g.bad || k.bad) = true then (0, false) else if (g.plus || g.minus || k.plus || k.minus) = true then (min (max (rankI g.plus g.minus - rankI k.plus k.minus) (-1)) 1, true)
    else (if g.total = k.total then 0 else if k.total < g.total then 1 else -1, true) := rfl
  generalize g.cmp k = R at *
  have HCMP := Lib.hid hcmp
  clear hcmp
  have HC1 := Lib.hid hc1
  have HC2 := Lib.hid hc2
  have HK1 := Lib.hid hk1
  have HK2 := Lib.hid hk2
  clear hc1 hc2 hk1 hk2
  go_enter Try.func30, Try.ntmps30
  go_wp2_with fail
  refine (HO1.out).mono ?_
  rintro e w1 ⟨x, rfl, hx, gx, fx⟩
  have HFX := Lib.hid fx
  have HX := Lib.hid hx
  have HGX := Lib.hid gx
  clear hx gx fx
  go_wp2_with fail
  refine (HO2.out w1 HFX.out).mono ?_
  rintro e w2 ⟨y, rfl, hy, gy, fy⟩
  have HFY := Lib.hid (HFX.out.then fy)
  have HGX2 := Lib.hid (HGX.out.frame fy (fun h => h))
  have HGY := Lib.hid gy
  have HXY : Hid (x ≠ y) := by have := HGX.out.lt; show x ≠ y; omega
  have HY : Hid (w.heap.size ≤ y) := by have := HFX.out.size; show w.heap.size ≤ y; omega
  clear hy gy fy HGX HFX HO1 HO2
  have HW1 := Lib.hid (whole_got x g w2 HGX2.out HK1.out (by rw [HC1.out]; omega))
  go_wp2_with fail
  refine (HW1.out).mono ?_
  rintro e w3 ⟨rfl, hf3⟩
  have HG3 := Lib.hid (HGX2.out.frame hf3 (fun h => h))
  have HY3 := Lib.hid (HGY.out.frame hf3 (fun h => h))
  have HF3 := Lib.hid (HFY.out.then hf3)
  clear hf3 HW1 HGX2 HGY HFY
  have HW2 := Lib.hid (whole_got y k w3 HY3.out HK2.out (by rw [HC2.out]; omega))
  go_wp2_with fail
  refine (HW2.out).mono ?_
  rintro e w4 ⟨rfl, hf4⟩
  have HG4 := Lib.hid (HG3.out.frame hf4 (fun h => h))
  have HY4 := Lib.hid (HY3.out.frame hf4 (fun h => h))
  have HF4 := Lib.hid (HF3.out.then hf4)
  clear hf4 HW2 HG3 HY3 HF3
  have q1 : (FloatKind.f64.format.order g.whole g.whole != some .eq) = g.bad := whole_bad2 g
  have q2 : (FloatKind.f64.format.order k.whole k.whole != some .eq) = k.bad := whole_bad2 k
  generalize g.whole = v1 at *
  generalize k.whole = v2 at *
  generalize g.bad = b1 at *
  generalize k.bad = b2 at *
  go_upto_region 3 with fail
  go_cut [21] (fun v wx => v = .bool (b1 || b2) ∧ wx = w4)
  case first =>
    cases b1
    all_goals
      go_wp2
      go_meet
      exact ⟨by simp, rfl⟩
  case rest =>
  obtain ⟨rfl, hw⟩ := hcut
  subst hw
  clear q1 q2
  generalize (b1 || b2) = bb at *
  cases bb with
  | true =>
    obtain rfl : R = (0, false) := by rw [HCMP.out, if_pos rfl]
    clear HCMP
    go_wp2
    go_ret2
    exact ⟨rfl, HF4.out⟩
  | false =>
  have hcmp := HCMP.out
  rw [if_neg Bool.false_ne_true] at hcmp
  have HCMP2 := Lib.hid hcmp
  clear hcmp HCMP
  obtain ⟨ns, hs, ht⟩ := HG4.out
  obtain ⟨ms, hs2, ht2⟩ := HY4.out
  have cg1 := hs.cPlus
  have cg2 := hs.cMinus
  have ck1 := hs2.cPlus
  have ck2 := hs2.cMinus
  have HS1 := Lib.hid hs
  have HS2 := Lib.hid hs2
  have HT1 := Lib.hid ht
  have HT2 := Lib.hid ht2
  have HRX := Lib.hid (rank_any x true ns _ _ _ _ _ wc hs)
  have HRY := Lib.hid (rank_any y true ms _ _ _ _ _ wc hs2)
  have HSIDE := Lib.hid (side_any (rankI g.plus g.minus - rankI k.plus k.minus) wc)
  clear hs hs2 ht ht2
  obtain ⟨gt, gn, gp, gm, gc, gz⟩ := g
  obtain ⟨kt, kn, kp, km, kc, kz⟩ := k
  dsimp only at *
  go_upto_region 5 with fail
  obtain ⟨bi, hbi⟩ : ∃ b, b = (gp || gm || kp || km) := ⟨_, rfl⟩
  rw [← hbi] at HCMP2
  have HBI := Lib.hid hbi
  clear hbi
  go_cut [30] (fun v wx => v = .bool bi ∧ wx = wc)
  case first =>
    have hq := HBI.out
    cases gp
    · cases gm
      · cases kp
        all_goals
          go_wp2
          go_meet
          exact ⟨by rw [hq]; simp, rfl⟩
      · go_wp2
        go_meet
        exact ⟨by rw [hq]; simp, rfl⟩
    · go_wp2
      go_meet
      exact ⟨by rw [hq]; simp, rfl⟩
  case rest =>
  obtain ⟨rfl, hw⟩ := hcut
  subst hw
  clear cg1 cg2 ck1 ck2
  cases bi with
  | true =>
    have hfin : CmpPost w R (.returned (.tuple #[.int .i64 (min (max (rankI gp gm - rankI kp km) (-1)) 1), .bool true])) wc := ⟨by rw [HCMP2.out, if_pos rfl], HF4.out⟩
    have hb : -1 ≤ rankI gp gm ∧ rankI gp gm ≤ 1 ∧ -1 ≤ rankI kp km ∧ rankI kp km ≤ 1 := by
      refine ⟨?_, ?_, ?_, ?_⟩ <;> unfold rankI <;> (repeat' split) <;> omega
    obtain ⟨hb1, hb2, hb3, hb4⟩ := hb
    have HFIN := Lib.hid hfin
    generalize rankI gp gm = r1 at *
    generalize rankI kp km = r2 at *
    generalize min (max (r1 - r2) (-1)) 1 = r3 at *
    clear hfin HCMP2
    go_wp2_with fail
    refine (HRX.out).mono ?_
    rintro e w' ⟨rfl, rfl⟩
    go_wp2_with fail
    refine (HRY.out).mono ?_
    rintro e w' ⟨rfl, rfl⟩
    go_wp2_with fail
    refine (HSIDE.out).mono ?_
    rintro e w' ⟨rfl, rfl⟩
    go_wp2_with fail
    go_ret2
    exact HFIN.out
  | false =>
  have hcmp := HCMP2.out
  rw [if_neg Bool.false_ne_true] at hcmp
  have HCMP3 := Lib.hid hcmp
  clear hcmp HCMP2 HRX HRY HSIDE
  have HB0 : Hid (gt.natAbs ≤ gc * magTop ∧ kt.natAbs ≤ kc * magTop ∧ gc < 1000000 ∧ kc < 1000000 ∧ gz ≤ gc ∧ kz ≤ kc) := ⟨HK1.out.1, HK2.out.1, by rw [HC1.out]; exact hl1, by rw [HC2.out]; exact hl2, HK1.out.2, HK2.out.2⟩
  have hn := HS1.out.2.1
  clear HG4 HY4 HBI HK1 HK2 HC1 HC2 hl1 hl2
  go_wp2_with fail
  go_loopw [59] (fun i wr => ∃ j : Nat, j ≤ 35 ∧ i = .int .i64 (j : Int) ∧ Hid (NotRel wc x true ns gn gp gm (gc : Int) (gz : Int) j wr)) (fun i _ => 35 - (intOf i).toNat)
  case atStart => exact ⟨0, by omega, rfl, ns, HS1.out, fun _ _ => rfl, by simp [toN], Fr.refl _ _⟩
  case round =>
    obtain ⟨j, hj, rfl, hr⟩ := hrel
    by_cases hlt : j < 35
    · obtain ⟨v, hv⟩ : ∃ v, ns[j]? = some v := ⟨ns[j]'(by omega), by simp⟩
      have hvl := HS1.out.2.2.get hv
      have hnew := hr.out.step hlt hv hvl
      obtain ⟨ks, k1, k2, k3, k4⟩ := hr.out
      have c1 := k1.limb ((k2 j (Nat.le_refl _)).trans hv)
      have f1 := k1.1.free (1 + j)
      have hnr := not_raw v hvl
      have hsg : IntKind.u64.signed = false := rfl
      have hj2 : (j : Int) < 35 := by omega
      have HN := Lib.hid hnew
      generalize 18446744073709551615 - v = nv at *
      clear hnew hv k1 k2 k3 k4 hr
      go_wp2_with fail
      go_region
      go_wp2
      go_roundw
      case rel => exact ⟨j + 1, by omega, by go_num, HN.out⟩
      case measure => simp [intOf]; omega
    · obtain rfl : j = 35 := by omega
      obtain ⟨ks, k1, k2, k3, k4⟩ := hr.out
      have hkn : toN ks + toN ns + 1 = M35 := by
        rw [List.take_of_length_le (by rw [k1.2.1]; omega), List.take_of_length_le (by omega)] at k3
        exact k3
      have hs2' : SumB wr y true ms kn kp km (kc : Int) (kz : Int) := ⟨HS2.out.1.frame k4 (fun e => HXY.out e.symm), HS2.out.2⟩
      have hb0 := HB0.out
      have hmrg := merge_any x y HXY.out true ks ms gn gp gm kn kp km (gc : Int) (gz : Int) (kc : Int) (kz : Int) wr k1 hs2' (by omega) (by omega) (by omega) (by omega) (by omega) (by omega) (by omega) (by omega)
      have HM := Lib.hid hmrg
      have HF5 := Lib.hid (HF4.out.trans k4 (fun i hi => .inr (by subst hi; exact HX.out)))
      have HKN := Lib.hid hkn
      clear hmrg k1 k2 k3 k4 hr hs2' hb0 hkn hlt hj
      go_wp2_with fail
      refine (HM.out).mono ?_
      rintro e w5 ⟨rfl, ls, a1, a2, a3⟩
      have hpl := plusAt_any x true ls _ _ _ _ _ 0 1 0 w5 a1 (by omega) (by omega) (by omega)
      rw [show ((0 : Nat) : Int) = 0 from rfl, show ((1 : Nat) : Int) = 1 from rfl] at hpl
      have HP := Lib.hid hpl
      have HA2 := Lib.hid a2
      have HF6 := Lib.hid (HF5.out.trans a3 (fun i hi => .inr (by subst hi; exact HX.out)))
      clear hpl a1 a2 a3 HM
      go_wp2_with fail
      refine (HP.out).mono ?_
      rintro e w6 ⟨rfl, ts, b1, b2, b3⟩
      have htt : (toN ts : Int) = (kt - gt) % (M35 : Int) := by
        have e1 := HT1.out
        have e2 := HT2.out
        have e3 := HKN.out
        have e4 := HA2.out
        rw [show (1 + 0 * 18446744073709551616) * 18446744073709551616 ^ 0 = 1 by rw [Nat.pow_zero]] at b2
        have e5 : toN ts = (toN ks + toN ms + 1) % M35 := by
          rw [b2, e4, show (18446744073709551616 : Nat) ^ 35 = M35 from rfl, Nat.mod_add_mod]
        have e6 : (toN ks : Int) = (M35 : Int) - toN ns - 1 := by omega
        rw [e5, Int.natCast_emod, Int.natCast_add, Int.natCast_add, e6, e1, e2]
        generalize (M35 : Int) = M at *
        rw [show M - gt % M - 1 + kt % M + ((1 : Nat) : Int) = (kt % M - gt % M) + M * 1 by omega, Int.add_mul_emod_self_left, ← Int.sub_emod]
      have hbnd : (kt - gt).natAbs < halfTop := by
        obtain ⟨z1, z2, z3, z4, _, _⟩ := HB0.out
        have y1 : gc * magTop + kc * magTop ≤ 2000000 * magTop := by rw [← Nat.add_mul]; exact Nat.mul_le_mul_right _ (by omega)
        have y2 := tops
        have y3 : 0 < magTop := Nat.lt_of_le_of_lt (Nat.zero_le _) (mag_lt 0)
        generalize magTop = T at *
        generalize halfTop = H at *
        have : 2000000 * T < 4611686018427387904 * T := Nat.mul_lt_mul_of_pos_right (by decide) y3
        omega
      obtain ⟨e1, e2⟩ := top_abs b1.2.1 b1.2.2 htt hbnd
      have hsz := size_any x true ts _ _ _ _ _ w6 b1
      unfold SizePost at hsz
      rw [e1, e2] at hsz
      have HSZ := Lib.hid hsz
      have HF7 := Lib.hid (HF6.out.trans b3 (fun i hi => .inr (by subst hi; exact HX.out)))
      clear hsz b1 b2 b3 htt hbnd e1 e2 HP HA2 HKN HF5 HF6 HT1 HT2 HS1 HS2 HB0 HF4
      go_wp2_with fail
      refine (HSZ.out).mono ?_
      rintro e w7 ⟨us, rfl, c1, c2, c3, c4⟩
      have hszm := limbs_size us c1
      have HIm : Hid ((Try.prog.info? 88).map (·.size) = some (limbCells us).toArray.size) := by rw [hszm]; exact info_limbs
      have HSm : Hid ((limbCells (List.replicate 35 0)).toArray.size = (limbCells us).toArray.size) := by rw [hszm]; rfl
      have HOm : Hid ((limbCells us).toArray.all (·.oneCell') = true) := limbs_one us
      have HLEN := Lib.hid (length_any us c1 c2)
      have HC3 := Lib.hid c3
      have HF8 := Lib.hid (HF7.out.then c4)
      generalize hg2 : w7.heap.size = g2 at *
      have HG2 := Lib.hid hg2
      have HNEW : Hid (∀ o, o = Obj.cells (limbCells (List.replicate 35 0)).toArray 88 → (w7.alloc o).heap[g2]? = some (.cells (limbCells (List.replicate 35 0)).toArray 88 (0, 0))) := fun o ho => by rw [ho, ← HG2.out]; exact Blk.new w7 (limbCells (List.replicate 35 0)) 88
      have HFN : Hid (∀ o, Fr (fun _ => False) w ((w7.alloc o).setRow g2 (limbCells us).toArray)) := fun o => (HF8.out.alloc _).setRow g2 (.inr (by have := HF8.out.size; rw [HG2.out] at this; exact this)) _
      unfold limbsV at *
      have HBU : Hid (∀ o, o = Obj.cells (limbCells (List.replicate 35 0)).toArray 88 → ((w7.alloc o).setRow g2 (limbCells us).toArray).heap[g2]? = some (.cells (limbCells us).toArray 88 (0, 0))) := fun o ho => Blk.setRow (c := limbCells (List.replicate 35 0)) (HNEW.out o ho) (limbCells us)
      clear hszm c1 c2 c3 c4 HSZ HF7
      go_upto_region 15 with (refine wpList_store_row rfl 88 _ _ rfl g2 (limbCells us).toArray rfl rfl 88 (limbCells (List.replicate 35 0)).toArray (HNEW.out _ rfl) HIm.out HSm.out HOm.out ?_)
      generalize hW2 : (w7.alloc _).setRow g2 _ = w8
      have HF9 : Hid (Fr (fun _ => False) w w8) := by rw [← hW2]; exact HFN.out _
      have HB8 : Hid (w8.heap[g2]? = some (.cells (limbCells us).toArray 88 (0, 0))) := by rw [← hW2]; exact HBU.out _ rfl
      clear hW2 HNEW HFN HBU HF8 HG2 hg2
      go_wp2_with (refine wpList_load_row rfl 88 _ rfl g2 rfl 88 (limbCells us).toArray (0, 0) _ HB8.out Try.underlying88 rfl HIm.out ?_)
      refine (HLEN.out w8).mono ?_
      rintro e w9 ⟨L, rfl, hL1, hL2, hf9⟩
      have HFA := Lib.hid (HF9.out.then hf9)
      rw [HC3.out] at hL2
      clear hf9 HF9 HB8
      by_cases hE : gt = kt
      · have hL0 : L = 0 := by
          rcases Nat.eq_zero_or_pos L with h | h
          · exact h
          · have := hL2.2 h
            rw [hE, Int.sub_self, Int.natAbs_zero] at this
            have hp := pow_pos2 (L - 1)
            omega
        subst hL0
        have hfin : CmpPost w R (.returned (.tuple #[.int .i64 0, .bool true])) w9 := ⟨by rw [HCMP3.out, if_pos hE], HFA.out⟩
        have HFIN := Lib.hid hfin
        clear hfin hE hL1 hL2
        go_wp2_with fail
        go_ret2
        exact HFIN.out
      · have hL0 : ((L : Int) == 0) = false := by
          rw [beq_eq_false_iff_ne]
          intro h
          obtain rfl : L = 0 := by omega
          have := hL2.1
          rw [Nat.pow_zero] at this
          omega
        by_cases hM : kt < gt
        · have hd : decide (kt - gt < 0) = true := by rw [decide_eq_true_eq]; omega
          have hfin : CmpPost w R (.returned (.tuple #[.int .i64 1, .bool true])) w9 := ⟨by rw [HCMP3.out, if_neg hE, if_pos hM], HFA.out⟩
          have HFIN := Lib.hid hfin
          clear hfin hE hL1 hL2
          go_wp2_with fail
          go_ret2
          exact HFIN.out
        · have hd : decide (kt - gt < 0) = false := by rw [decide_eq_false_iff_not]; omega
          have hfin : CmpPost w R (.returned (.tuple #[.int .i64 (-1), .bool true])) w9 := ⟨by rw [HCMP3.out, if_neg hE, if_neg hM], HFA.out⟩
          have HFIN := Lib.hid hfin
          clear hfin hE hL1 hL2
          go_wp2_with fail
          go_ret2
          exact HFIN.out
end Go.Proofs.Ytmllbdiljjimmaa
