/- The walks of the references: Compare. -/
import Derived.Test.YtmllbdiljjimmaaCompare
namespace Go.Proofs.Ytmllbdiljjimmaa
open Go.RowKit

/-- The document's comparison. -/
def Pt.cmp (p q : Pt) : Int × Bool :=
  if ((p.nan || (p.up && p.down)) || (q.nan || (q.up && q.down))) = true then (0, false)
  else if (p.up || p.down || q.up || q.down) = true then
    (if ((p.up && q.up) || (p.down && q.down)) = true then (0, true) else if (p.up || q.down) = true then (1, true) else (-1, true))
  else if p.a + q.b < q.a + p.b then (-1, true) else if q.a + p.b < p.a + q.b then (1, true) else (0, true)

/-- One wide number that is stored into a new block. -/
theorem one_stored (a : Nat) : ∃ (ca : Array Value), wideV a = .agg ca ∧ (∀ w b', WB w b' (digN 140 a) → w.heap[b']? = some (.cells ca 93 (0, 0))) ∧
    (Try.prog.info? 93).map (·.size) = some ca.size ∧ (digCells zeroW).toArray.size = ca.size ∧ ca.all (·.oneCell') = true ∧
    (∀ w w1, w.alloc (.cells Try.zeroCells93 93) = w1 → w1.heap[w.heap.size]? = some (.cells (digCells zeroW).toArray 93 (0, 0)) ∧ (w1.setRow w.heap.size ca).heap[w.heap.size]? = some (.cells ca 93 (0, 0)) ∧ Fr (fun _ => False) w (w1.setRow w.heap.size ca)) := by
  refine ⟨(digCells (digN 140 a)).toArray, rfl, fun _ _ h => h, info_digs _ (digN_len _ _), ?_, digs_one _, ?_⟩
  · rw [digs_size _ (digN_len _ _), digs_size zeroW zeroW_len]
  · rintro w w1 rfl
    rw [zero_wide]
    have h1 := Blk.new w (digCells zeroW) 93
    exact ⟨h1, Blk.setRow (c := digCells zeroW) h1 _, ((Fr.refl _ w).alloc _).setRow w.heap.size (.inr (Nat.le_refl _)) _⟩

set_option maxRecDepth 100000 in
set_option maxHeartbeats 6400000 in
theorem rcompare_any (p1 p2 : Option Addr) (len1 len2 cap1 cap2 : Nat) (fs gs : List Nat) (w : World) (h1 : Words w p1 len1 fs) (h2 : Words w p2 len2 gs) (hl1 : len1 ≤ 1000000) (hl2 : len2 ≤ 1000000) :
    Calls Try.prog 31 #[.slice p1 len1 cap1, .slice p2 len2 cap2] w (CmpPost w ((Pt.of fs).cmp (Pt.of gs))) := by
  have hp := parts_any p1 len1 cap1 fs w h1 hl1
  have hq : ∀ w', Fr (fun _ => False) w w' → Calls Try.prog 64 #[.slice p2 len2 cap2] w' (PartsPost w' (Pt.of gs)) := fun w' hf => parts_any p2 len2 cap2 gs w' (h2.frame hf) hl2
  have hlp : (Pt.of fs).a ≤ 1000000 * magTop ∧ (Pt.of fs).b ≤ 1000000 * magTop := by
    have := Pt.upto_le fs fs.length
    rw [Pt.upto_all] at this
    have h3 : fs.length * magTop ≤ 1000000 * magTop := Nat.mul_le_mul_right _ (by rw [h1.len]; exact hl1)
    omega
  have hlq : (Pt.of gs).a ≤ 1000000 * magTop ∧ (Pt.of gs).b ≤ 1000000 * magTop := by
    have := Pt.upto_le gs gs.length
    rw [Pt.upto_all] at this
    have h3 : gs.length * magTop ≤ 1000000 * magTop := Nat.mul_le_mul_right _ (by rw [h2.len]; exact hl2)
    omega
  have htop : 2000000 * magTop < wTop := by
    have h3 : 2000000 * magTop ≤ 4611686018427387904 * magTop := Nat.mul_le_mul_right _ (by decide)
    have := tops2
    omega
  clear h1 h2 hl1 hl2
  generalize Pt.of fs = p at *
  generalize Pt.of gs = q at *
  obtain ⟨a, b, pn, pu, pd, pl⟩ := p
  obtain ⟨c, d, qn, qu, qd, ql⟩ := q
  unfold PartsPost at hp hq
  dsimp only at hp hq hlp hlq
  obtain ⟨ca, cb, ea, eb, hRa, hRb, hIa, hIb, hSa, hSb, hOa, hOb, hNab⟩ := two_stored a b
  obtain ⟨cc, cd, ec, ed, hRc, hRd, hIc, hId, hSc, hSd, hOc, hOd, hNcd⟩ := two_stored c d
  obtain ⟨cx, ex, hRx, hIx, hSx, hOx, hNx⟩ := one_stored (a + d)
  obtain ⟨cy, ey, hRy, hIy, hSy, hOy, hNy⟩ := one_stored (c + b)
  have hpx := plus_fix a d (by omega) (by omega) (by omega)
  have hpy := plus_fix c b (by omega) (by omega) (by omega)
  have hl1 := less_fix (a + d) (c + b) (by omega) (by omega)
  have hl2 := less_fix (c + b) (a + d) (by omega) (by omega)
  unfold WPost at hpx hpy
  rw [ea, eb] at hp
  rw [ec, ed] at hq
  rw [ea, ed, ex] at hpx
  rw [ec, eb, ey] at hpy
  rw [ex, ey] at hl1 hl2
  have hR : (Pt.mk a b pn pu pd pl).cmp (Pt.mk c d qn qu qd ql) = if ((pn || (pu && pd)) || (qn || (qu && qd))) = true then (0, false)
    else if (pu || pd || qu || qd) = true then (if ((pu && qu) || (pd && qd)) = true then (0, true) else if (pu || qd) = true then (1, true) else (-1, true))
    else if a + d < c + b then (-1, true) else if c + b < a + d then (1, true) else (0, true) := rfl
  generalize (Pt.mk a b pn pu pd pl).cmp (Pt.mk c d qn qu qd ql) = R at *
  generalize (pn || (pu && pd)) = n1 at *
  generalize (qn || (qu && qd)) = n2 at *
  have HR := Lib.hid hR
  have HP := Lib.hid hp
  have HQ := Lib.hid hq
  have HIa := Lib.hid hIa
  have HIb := Lib.hid hIb
  have HIc := Lib.hid hIc
  have HId := Lib.hid hId
  have HIx := Lib.hid hIx
  have HIy := Lib.hid hIy
  have HSa := Lib.hid hSa
  have HSb := Lib.hid hSb
  have HSc := Lib.hid hSc
  have HSd := Lib.hid hSd
  have HSx := Lib.hid hSx
  have HSy := Lib.hid hSy
  have HOa := Lib.hid hOa
  have HOb := Lib.hid hOb
  have HOc := Lib.hid hOc
  have HOd := Lib.hid hOd
  have HOx := Lib.hid hOx
  have HOy := Lib.hid hOy
  have HRa := Lib.hid hRa
  have HRb := Lib.hid hRb
  have HRc := Lib.hid hRc
  have HRd := Lib.hid hRd
  have HNab := Lib.hid hNab
  have HNcd := Lib.hid hNcd
  have HNx := Lib.hid hNx
  have HNy := Lib.hid hNy
  have HPX := Lib.hid hpx
  have HPY := Lib.hid hpy
  have HL1 := Lib.hid hl1
  have HL2 := Lib.hid hl2
  clear hp hq hlp hlq htop ea eb ec ed ex ey hRa hRb hRc hRd hIa hIb hIc hId hIx hIy hSa hSb hSc hSd hSx hSy hOa hOb hOc hOd hOx hOy hNab hNcd hNx hNy hpx hpy hl1 hl2 hR hRx hRy
  go_enter Try.func31, Try.ntmps31
  go_wp2_with fail
  refine (HP.out).mono ?_
  rintro e w1 ⟨rfl, hf1⟩
  obtain ⟨k1, k2, k3, k4, k5⟩ := HNab.out w1 _ rfl
  have HF := Lib.hid (hf1.then k5)
  have HK1 := Lib.hid k1
  have HK2 := Lib.hid k2
  have HKa := Lib.hid (HRa.out _ _ k3)
  have HKb := Lib.hid (HRb.out _ _ k4)
  clear k1 k2 k3 k4 k5 hf1 HNab HP HRa HRb
  generalize hg : w1.heap.size = g at *
  generalize hw2 : (w1.alloc _).alloc _ = w2 at *
  go_upto_region 2 with (first | refine wpList_store_row rfl 93 _ _ rfl g ca rfl rfl 93 (digCells zeroW).toArray HK1.out HIa.out HSa.out HOa.out ?_ | refine wpList_store_row rfl 93 _ _ rfl (g + 1) cb rfl rfl 93 (digCells zeroW).toArray HK2.out HIb.out HSb.out HOb.out ?_)
  clear hg hw2 HK1 HK2 HSa HSb HOa HOb
  generalize (w2.setRow g ca).setRow (g + 1) cb = w3 at *
  go_wp2_with fail
  refine (HQ.out w3 HF.out).mono ?_
  rintro e w4 ⟨rfl, hf4⟩
  obtain ⟨k1, k2, k3, k4, k5⟩ := HNcd.out w4 _ rfl
  have HF5 := Lib.hid ((HF.out.then hf4).then k5)
  have HK1 := Lib.hid k1
  have HK2 := Lib.hid k2
  have HKc := Lib.hid (HRc.out _ _ k3)
  have HKd := Lib.hid (HRd.out _ _ k4)
  have HKa5 := Lib.hid ((hf4.then k5).heap HKa.out (fun h => h))
  have HKb5 := Lib.hid ((hf4.then k5).heap HKb.out (fun h => h))
  clear k1 k2 k3 k4 k5 hf4 HNcd HQ HRc HRd HKa HKb HF
  generalize hh : w4.heap.size = h at *
  generalize hw5 : (w4.alloc _).alloc _ = w5 at *
  go_upto_region 3 with (first | refine wpList_store_row rfl 93 _ _ rfl h cc rfl rfl 93 (digCells zeroW).toArray HK1.out HIc.out HSc.out HOc.out ?_ | refine wpList_store_row rfl 93 _ _ rfl (h + 1) cd rfl rfl 93 (digCells zeroW).toArray HK2.out HId.out HSd.out HOd.out ?_)
  clear hh hw5 HK1 HK2 HSc HSd HOc HOd
  generalize (w5.setRow h cc).setRow (h + 1) cd = w6 at *
  cases n1 with
  | true =>
    obtain rfl : R = (0, false) := by rw [HR.out]; rfl
    clear HR
    go_wp2_with fail
    go_ret2
    exact ⟨rfl, HF5.out⟩
  | false =>
  cases n2 with
  | true =>
    obtain rfl : R = (0, false) := by rw [HR.out]; rfl
    clear HR
    go_wp2_with fail
    go_ret2
    exact ⟨rfl, HF5.out⟩
  | false =>
  cases pu with
  | true =>
    cases pd with
    | true =>
      cases qu with
      | true =>
        cases qd with
        | true =>
          obtain rfl : R = (0, true) := by rw [HR.out]; rfl
          clear HR
          go_wp2_with fail
          go_ret2
          exact ⟨rfl, HF5.out⟩
        | false =>
        obtain rfl : R = (0, true) := by rw [HR.out]; rfl
        clear HR
        go_wp2_with fail
        go_ret2
        exact ⟨rfl, HF5.out⟩
      | false =>
      cases qd with
      | true =>
        obtain rfl : R = (0, true) := by rw [HR.out]; rfl
        clear HR
        go_wp2_with fail
        go_ret2
        exact ⟨rfl, HF5.out⟩
      | false =>
      obtain rfl : R = (1, true) := by rw [HR.out]; rfl
      clear HR
      go_wp2_with fail
      go_ret2
      exact ⟨rfl, HF5.out⟩
    | false =>
    cases qu with
    | true =>
      cases qd with
      | true =>
        obtain rfl : R = (0, true) := by rw [HR.out]; rfl
        clear HR
        go_wp2_with fail
        go_ret2
        exact ⟨rfl, HF5.out⟩
      | false =>
      obtain rfl : R = (0, true) := by rw [HR.out]; rfl
      clear HR
      go_wp2_with fail
      go_ret2
      exact ⟨rfl, HF5.out⟩
    | false =>
    cases qd with
    | true =>
      obtain rfl : R = (1, true) := by rw [HR.out]; rfl
      clear HR
      go_wp2_with fail
      go_ret2
      exact ⟨rfl, HF5.out⟩
    | false =>
    obtain rfl : R = (1, true) := by rw [HR.out]; rfl
    clear HR
    go_wp2_with fail
    go_ret2
    exact ⟨rfl, HF5.out⟩
  | false =>
  cases pd with
  | true =>
    cases qu with
    | true =>
      cases qd with
      | true =>
        obtain rfl : R = (0, true) := by rw [HR.out]; rfl
        clear HR
        go_wp2_with fail
        go_ret2
        exact ⟨rfl, HF5.out⟩
      | false =>
      obtain rfl : R = (-1, true) := by rw [HR.out]; rfl
      clear HR
      go_wp2_with fail
      go_ret2
      exact ⟨rfl, HF5.out⟩
    | false =>
    cases qd with
    | true =>
      obtain rfl : R = (0, true) := by rw [HR.out]; rfl
      clear HR
      go_wp2_with fail
      go_ret2
      exact ⟨rfl, HF5.out⟩
    | false =>
    obtain rfl : R = (-1, true) := by rw [HR.out]; rfl
    clear HR
    go_wp2_with fail
    go_ret2
    exact ⟨rfl, HF5.out⟩
  | false =>
  cases qu with
  | true =>
    cases qd with
    | true =>
      obtain rfl : R = (1, true) := by rw [HR.out]; rfl
      clear HR
      go_wp2_with fail
      go_ret2
      exact ⟨rfl, HF5.out⟩
    | false =>
    obtain rfl : R = (-1, true) := by rw [HR.out]; rfl
    clear HR
    go_wp2_with fail
    go_ret2
    exact ⟨rfl, HF5.out⟩
  | false =>
  cases qd with
  | true =>
    obtain rfl : R = (1, true) := by rw [HR.out]; rfl
    clear HR
    go_wp2_with fail
    go_ret2
    exact ⟨rfl, HF5.out⟩
  | false =>
  have hr := HR.out
  rw [if_neg (by decide), if_neg (by decide)] at hr
  have HR2 := Lib.hid hr
  clear hr HR
  go_wp2_with (first | refine wpList_load_row rfl 93 _ rfl g rfl 93 ca (0, 0) _ HKa5.out Try.underlying93 rfl HIa.out ?_ | refine wpList_load_row rfl 93 _ rfl (h + 1) rfl 93 cd (0, 0) _ HKd.out Try.underlying93 rfl HId.out ?_)
  refine (HPX.out w6).mono ?_
  rintro e w7 ⟨rfl, hf7⟩
  obtain ⟨k1, k2, k3⟩ := HNx.out w7 _ rfl
  have HF8 := Lib.hid ((HF5.out.then hf7).then k3)
  have HK1 := Lib.hid k1
  have HKx := Lib.hid k2
  have HKc8 := Lib.hid ((hf7.then k3).heap HKc.out (fun h => h))
  have HKb8 := Lib.hid ((hf7.then k3).heap HKb5.out (fun h => h))
  clear k1 k2 k3 hf7 HNx HPX HKa5 HKb5 HKc HKd HF5 HIa HId
  generalize hi : w7.heap.size = i at *
  generalize hw8 : w7.alloc _ = w8 at *
  go_upto_region 12 with (refine wpList_store_row rfl 93 _ _ rfl i cx rfl rfl 93 (digCells zeroW).toArray HK1.out HIx.out HSx.out HOx.out ?_)
  clear hi hw8 HK1 HSx HOx
  generalize w8.setRow i cx = w9 at *
  go_wp2_with (first | refine wpList_load_row rfl 93 _ rfl h rfl 93 cc (0, 0) _ HKc8.out Try.underlying93 rfl HIc.out ?_ | refine wpList_load_row rfl 93 _ rfl (g + 1) rfl 93 cb (0, 0) _ HKb8.out Try.underlying93 rfl HIb.out ?_)
  refine (HPY.out w9).mono ?_
  rintro e wa ⟨rfl, hfa⟩
  obtain ⟨k1, k2, k3⟩ := HNy.out wa _ rfl
  have HFB := Lib.hid ((HF8.out.then hfa).then k3)
  have HK1 := Lib.hid k1
  have HKy := Lib.hid k2
  have HKxb := Lib.hid ((hfa.then k3).heap HKx.out (fun h => h))
  clear k1 k2 k3 hfa HNy HPY HKx HKc8 HKb8 HF8 HIb HIc
  generalize hj : wa.heap.size = j at *
  generalize hwb : wa.alloc _ = wb at *
  go_upto_region 13 with (refine wpList_store_row rfl 93 _ _ rfl j cy rfl rfl 93 (digCells zeroW).toArray HK1.out HIy.out HSy.out HOy.out ?_)
  clear hj hwb HK1 HSy HOy
  generalize wb.setRow j cy = wc at *
  go_wp2_with (first | refine wpList_load_row rfl 93 _ rfl i rfl 93 cx (0, 0) _ HKxb.out Try.underlying93 rfl HIx.out ?_ | refine wpList_load_row rfl 93 _ rfl j rfl 93 cy (0, 0) _ HKy.out Try.underlying93 rfl HIy.out ?_)
  refine (HL1.out wc).mono ?_
  rintro e wd ⟨rfl, hfd⟩
  have HFD := Lib.hid (HFB.out.then hfd)
  have HKxd := Lib.hid (hfd.heap HKxb.out (fun h => h))
  have HKyd := Lib.hid (hfd.heap HKy.out (fun h => h))
  clear hfd HKxb HKy HFB HL1
  by_cases hl : a + d < c + b
  · have hd : decide (a + d < c + b) = true := by rw [decide_eq_true_eq]; exact hl
    rw [hd]
    have hfin : CmpPost w R (.returned (.tuple #[.int .i64 (-1), .bool true])) wd := ⟨by rw [HR2.out, if_pos hl], HFD.out⟩
    have HFIN := Lib.hid hfin
    clear hfin hl hd HR2
    go_wp2_with fail
    go_ret2
    exact HFIN.out
  · have hd : decide (a + d < c + b) = false := by rw [decide_eq_false_iff_not]; exact hl
    rw [hd]
    have hr := HR2.out
    rw [if_neg hl] at hr
    have HR3 := Lib.hid hr
    clear hr HR2 hl hd
    go_wp2_with (first | refine wpList_load_row rfl 93 _ rfl i rfl 93 cx (0, 0) _ HKxd.out Try.underlying93 rfl HIx.out ?_ | refine wpList_load_row rfl 93 _ rfl j rfl 93 cy (0, 0) _ HKyd.out Try.underlying93 rfl HIy.out ?_)
    refine (HL2.out wd).mono ?_
    rintro e we ⟨rfl, hfe⟩
    have HFE := Lib.hid (HFD.out.then hfe)
    clear hfe
    by_cases hl : c + b < a + d
    · have hd : decide (c + b < a + d) = true := by rw [decide_eq_true_eq]; exact hl
      rw [hd]
      have hfin : CmpPost w R (.returned (.tuple #[.int .i64 1, .bool true])) we := ⟨by rw [HR3.out, if_pos hl], HFE.out⟩
      have HFIN := Lib.hid hfin
      clear hfin hl hd HR3
      go_wp2_with fail
      go_ret2
      exact HFIN.out
    · have hd : decide (c + b < a + d) = false := by rw [decide_eq_false_iff_not]; exact hl
      rw [hd]
      have hfin : CmpPost w R (.returned (.tuple #[.int .i64 0, .bool true])) we := ⟨by rw [HR3.out, if_neg hl], HFE.out⟩
      have HFIN := Lib.hid hfin
      clear hfin hl hd HR3
      go_wp2_with fail
      go_ret2
      exact HFIN.out

theorem cmp_same (l m : List Nat) (hl : ∀ f ∈ l, f < 18446744073709551616) (hm : ∀ f ∈ m, f < 18446744073709551616) : (Got.of l).cmp (Got.of m) = (Pt.of l).cmp (Pt.of m) := by
  obtain ⟨⟨h1, h2, h3, h4, _⟩, _⟩ := alike_of l hl
  obtain ⟨⟨g1, g2, g3, g4, _⟩, _⟩ := alike_of m hm
  generalize Got.of l = x at *
  generalize Pt.of l = p at *
  generalize Got.of m = y at *
  generalize Pt.of m = q at *
  unfold Got.cmp Pt.cmp Got.bad rankI
  rw [h1, h2, h3, h4, g1, g2, g3, g4]
  have e : ∀ (A B C D : Nat), (if (A : Int) - B = (C : Int) - D then (0 : Int) else if (C : Int) - D < (A : Int) - B then 1 else -1, true) = if A + D < C + B then ((-1 : Int), true) else if C + B < A + D then (1, true) else (0, true) := fun A B C D => by
    by_cases c1 : A + D < C + B
    · rw [if_pos c1, if_neg (by omega), if_neg (by omega)]
    · rw [if_neg c1]
      by_cases c2 : C + B < A + D
      · rw [if_pos c2, if_neg (by omega), if_pos (by omega)]
      · rw [if_neg c2, if_pos (by omega)]
  rw [e]
  cases p.nan <;> cases p.up <;> cases p.down <;> cases q.nan <;> cases q.up <;> cases q.down <;> first | rfl | decide
end Go.Proofs.Ytmllbdiljjimmaa
