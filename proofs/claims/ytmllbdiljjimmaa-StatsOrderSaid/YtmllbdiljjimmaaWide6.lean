/- The walks of the reference: the nearest float. -/
import Derived.Test.YtmllbdiljjimmaaWide5
import Derived.Test.YtmllbdiljjimmaaNear
import Derived.Test.YtmllbdiljjimmaaRegion2
namespace Go.Proofs.Ytmllbdiljjimmaa
open Go.RowKit

/-- The digits of a number. -/
def digN : Nat → Nat → List Nat
  | 0, _ => []
  | n + 1, N => N % 65536 :: digN n (N / 65536)
theorem digN_uniq : ∀ (ds : List Nat), Digs ds → ds = digN ds.length (toD ds)
  | [], _ => rfl
  | x :: xs, h => by
    have hx := h x List.mem_cons_self
    have ih := digN_uniq xs (fun y hy => h y (List.mem_cons_of_mem _ hy))
    rw [List.length_cons, digN, toD]
    have e1 : (x + 65536 * toD xs) % 65536 = x := by omega
    have e2 : (x + 65536 * toD xs) / 65536 = toD xs := by omega
    rw [e1, e2, ← ih]
theorem digN_of {ds : List Nat} {N : Nat} (hn : ds.length = 140) (h : Digs ds) (hN : toD ds = N) : ds = digN 140 N := by
  have := digN_uniq ds h
  rw [hn, hN] at this
  exact this
theorem digN_len : ∀ n N, (digN n N).length = n
  | 0, _ => rfl
  | n + 1, N => by rw [digN, List.length_cons, digN_len n]
theorem digN_digs : ∀ n N, Digs (digN n N)
  | 0, _ => fun x hx => by cases hx
  | n + 1, N => fun x hx => by
    rw [digN] at hx
    rcases List.mem_cons.1 hx with rfl | hx
    · exact Nat.mod_lt _ (by decide)
    · exact digN_digs n _ x hx
theorem toD_digN : ∀ n N, N < 65536 ^ n → toD (digN n N) = N
  | 0, N, h => by rw [Nat.pow_zero] at h; rw [digN, toD]; omega
  | n + 1, N, h => by
    rw [digN, toD, toD_digN n (N / 65536) (by rw [Nat.div_lt_iff_lt_mul (by decide), ← Nat.pow_succ]; exact h)]
    omega

/-- The canonical wide value of a number. -/
def wideV (N : Nat) : Value := digsV (digN 140 N)
def WPost (w : World) (N : Nat) (e : Ending) (w' : World) : Prop := e = .returned (wideV N) ∧ Fr (fun _ => False) w w'
theorem WidePost.fix {w : World} {N : Nat} {e : Ending} {w' : World} (h : WidePost w N e w') : WPost w N e w' := by
  obtain ⟨ds, h1, h2, h3, h4, h5⟩ := h
  exact ⟨by rw [h1, digN_of h2 h3 h4]; rfl, h5⟩

theorem value_fix (b : Nat) (hb : b < 9223372036854775808) (w : World) : Calls Try.prog 93 #[.int .u64 (b : Int)] w (WPost w (magF b)) :=
  (value_any b hb w).mono fun _ _ h => h.fix
theorem less_fix (M N : Nat) (hM : M < wTop) (hN : N < wTop) (w : World) : Calls Try.prog 65 #[wideV M, wideV N] w (BoolPost w (decide (M < N))) := by
  have := less_any (digN 140 M) (digN 140 N) (digN_len _ _) (digN_len _ _) (digN_digs _ _) (digN_digs _ _) w
  rw [toD_digN 140 M hM, toD_digN 140 N hN] at this
  exact this
theorem plus_fix (M N : Nat) (hM : M < wTop) (hN : N < wTop) (hs : M + N < wTop) (w : World) : Calls Try.prog 78 #[wideV M, wideV N] w (WPost w (M + N)) := by
  have := plus_any (digN 140 M) (digN 140 N) (digN_len _ _) (digN_len _ _) (digN_digs _ _) (digN_digs _ _) w
  rw [toD_digN 140 M hM, toD_digN 140 N hN, Nat.mod_eq_of_lt hs] at this
  exact this.mono fun _ _ h => h.fix
theorem minus_fix (M N : Nat) (hM : M < wTop) (hN : N < wTop) (hs : N ≤ M) (w : World) : Calls Try.prog 67 #[wideV M, wideV N] w (WPost w (M - N)) := by
  have := minus_any (digN 140 M) (digN 140 N) (digN_len _ _) (digN_len _ _) (digN_digs _ _) (digN_digs _ _) (by rw [toD_digN 140 M hM, toD_digN 140 N hN]; exact hs) w
  rw [toD_digN 140 M hM, toD_digN 140 N hN] at this
  exact this.mono fun _ _ h => h.fix

/-- The class of worlds in which the boxed number lies. -/
def InW (w : World) (g N : Nat) (w' : World) : Prop := Fr (fun _ => False) w w' ∧ WB w' g (digN 140 N)
theorem InW.frame {w : World} {g N : Nat} {w1 w2 : World} (h : InW w g N w1) (hf : Fr (fun _ => False) w1 w2) : InW w g N w2 := ⟨h.1.then hf, h.2.frame hf (fun h => h)⟩

set_option maxRecDepth 100000 in
set_option maxHeartbeats 1600000 in
theorem near_any (N : Nat) (hN : N < wTop) (w : World) :
    Calls Try.prog 66 #[wideV N] w (NatPost w (rnd N)) := by
  have HV := Lib.hid value_fix
  have hb := Blk.new w (digCells (digN 140 N)) 93
  have hf0 : Fr (fun _ => False) w (w.alloc (.cells (digCells (digN 140 N)).toArray 93)) := (Fr.refl _ w).alloc _
  have HLN : Hid (∀ M w, M < wTop → Calls Try.prog 65 #[wideV N, wideV M] w (BoolPost w (decide (N < M)))) := fun M w hM => less_fix N M hN hM w
  have HI := Lib.hid (info_digs (digN 140 N) (digN_len _ _))
  unfold wideV digsV at *
  generalize hcs : (digCells (digN 140 N)).toArray = cs at *
  generalize hw1 : w.alloc (.cells cs 93) = w1 at *
  generalize hg : w.heap.size = g at *
  have HIN : Hid (InW w g N w1) := ⟨hf0, hb⟩
  have HCS := Lib.hid hcs
  clear hb hf0 hcs
  go_enter Try.func66, Try.ntmps66
  go_wp2
  clear hw1 hg
  go_loopw [3, 4] (fun a b wr => ∃ lo hi : Nat, a = .int .u64 (lo : Int) ∧ b = .int .u64 (hi : Int) ∧ lo ≤ hi ∧ hi ≤ 9218868437227405312 ∧ Hid (magF lo ≤ N ∧ ∀ c, hi < c → c ≤ 9218868437227405312 → N < magF c) ∧ Hid (InW w g N wr)) (fun a b _ => (intOf b - intOf a).toNat)
  case atStart => exact ⟨0, 9218868437227405312, rfl, rfl, by omega, by omega, ⟨Nat.zero_le _, fun c h1 h2 => by omega⟩, HIN.out⟩
  case round =>
    clear HIN
    obtain ⟨lo, hi, rfl, rfl, hle, hhi, HM, HIN⟩ := hrel
    by_cases hlt : lo < hi
    · obtain ⟨mid, hmid⟩ : ∃ mid, hi - (hi - lo) / 2 = mid := ⟨_, rfl⟩
      have e1 : ((hi : Int) - (lo : Int)) / 2 = (hi : Int) - (mid : Int) := by omega
      have e2 : (hi : Int) - ((hi : Int) - (mid : Int)) = (mid : Int) := by omega
      have hm1 : lo < mid := by omega
      have hm2 : mid ≤ hi := by omega
      clear hmid
      go_wp2
      refine region_class_all (InW w g N) (by kernel_rfl) (by kernel_rfl) ⟨HIN.out.1.drew, HIN.out.2.drew⟩ ?_
      refine quiet_run (.agg cs) rfl (fun w' hw' => run_row rfl g rfl 93 cs (0, 0) _ (by rw [← HCS.out]; exact hw'.2) Try.underlying93 rfl HI.out) ?_
      refine quiet_run (.int .u64 (mid : Int)) rfl (fun w' _ => BigFrame.run_move (.tmp 5) rfl w') ?_
      refine quiet_call (wideV (magF mid)) 93 #[.int .u64 (mid : Int)] rfl (fun w' => by go_simp) (fun w' hw' => (HV.out mid (by omega) w').mono fun _ _ h => ⟨h.1, hw'.frame h.2⟩) ?_
      refine quiet_call (.bool (decide (N < magF mid))) 65 #[.agg cs, wideV (magF mid)] rfl (fun w' => by go_simp) (fun w' hw' => (HLN.out (magF mid) w' (Nat.lt_trans (mag_lt mid) magTop_lt)).mono fun _ _ h => ⟨h.1, hw'.frame h.2⟩) ?_
      refine wpQuiet_nil ?_
      intro w2 hw2
      have HIN2 := Lib.hid hw2
      clear hw2 HIN
      by_cases hc : N < magF mid
      · have hd : decide (N < magF mid) = true := by simpa using hc
        rw [hd]
        have e3 : (mid : Int) - 1 = ((mid - 1 : Nat) : Int) := by omega
        have HM2 : Hid (magF lo ≤ N ∧ ∀ c, mid - 1 < c → c ≤ 9218868437227405312 → N < magF c) := ⟨HM.out.1, fun c h1 h2 => Nat.lt_of_lt_of_le hc (mag_mono (by omega) (by omega))⟩
        have hm3 : lo ≤ mid - 1 := by omega
        have hm4 : mid - 1 < hi := by omega
        clear hd hc HM
        generalize mid - 1 = nx at *
        go_wp2
        go_roundw
        case rel => exact ⟨lo, nx, rfl, rfl, by omega, by omega, HM2, HIN2⟩
        case measure => simp [intOf]; omega
      · have hd : decide (N < magF mid) = false := by simpa using hc
        rw [hd]
        have HM2 : Hid (magF mid ≤ N ∧ ∀ c, hi < c → c ≤ 9218868437227405312 → N < magF c) := ⟨by omega, HM.out.2⟩
        clear hd hc HM
        go_wp2
        go_roundw
        case rel => exact ⟨mid, hi, rfl, rfl, by omega, by omega, HM2, HIN2⟩
        case measure => simp [intOf]; omega
    · obtain rfl : lo = hi := by omega
      have hcmp := HM.out
      have hnr := near_rnd N lo hhi hcmp.1 (fun h => hcmp.2 _ (by omega) (by omega))
      by_cases hinf : lo = 9218868437227405312
      · have hfin : NatPost w (rnd N) (.returned (.int .u64 9218868437227405312)) wr := ⟨by rw [← hnr]; unfold nearOf; rw [if_pos hinf]; rfl, HIN.out.1⟩
        have HFIN := Lib.hid hfin
        have hq : ((lo : Int) == 9218868437227405312) = true := by rw [beq_iff_eq]; omega
        clear hfin hnr hcmp HIN HM hlt hle hhi hinf
        go_wp2
        go_ret
        exact HFIN.out
      · have hq : ((lo : Int) == 9218868437227405312) = false := by rw [beq_eq_false_iff_ne]; omega
        have hup : N < magF (lo + 1) := hcmp.2 _ (by omega) (by omega)
        have hup2 : magF (lo + 1) < wTop := Nat.lt_trans (mag_lt _) magTop_lt
        have hdn2 : magF lo < wTop := Nat.lt_trans (mag_lt _) magTop_lt
        have hnv : rnd N = if magF (lo + 1) - N < N - magF lo ∨ (¬ N - magF lo < magF (lo + 1) - N ∧ lo % 2 = 1) then lo + 1 else lo := by rw [← hnr]; unfold nearOf; rw [if_neg hinf]
        have ecs : wideV N = .agg cs := by unfold wideV digsV; rw [HCS.out]
        have hup' := minus_fix (magF (lo + 1)) N hup2 hN (Nat.le_of_lt hup)
        have hdn' := minus_fix N (magF lo) hN hdn2 hcmp.1
        rw [ecs] at hup' hdn'
        have hvu := HV.out (lo + 1) (by omega)
        rw [show ((lo + 1 : Nat) : Int) = (lo : Int) + 1 by omega] at hvu
        have hvd := HV.out lo (by omega)
        have hl1 := less_fix (magF (lo + 1) - N) (N - magF lo) (by omega) (by omega)
        have hl2 := less_fix (N - magF lo) (magF (lo + 1) - N) (by omega) (by omega)
        have hlo : (lo : Int) < 9218868437227405312 := by omega
        have hwr : IntKind.u64.wrap ((lo : Int) + 1) = (lo : Int) + 1 := by rw [IntKind.wrap_u64]; omega
        clear hnr hcmp HM hlt hle hhi hinf hup hup2 hdn2 ecs HLN HV
        unfold WPost at hup' hdn' hvu hvd
        generalize magF (lo + 1) - N = U at *
        generalize N - magF lo = D at *
        generalize wideV (magF (lo + 1)) = zU at *
        generalize wideV (magF lo) = zD at *
        have HIU := Lib.hid (info_digs (digN 140 U) (digN_len _ _))
        have HSU := Lib.hid (show (digCells zeroW).toArray.size = (digCells (digN 140 U)).toArray.size by rw [digs_size _ (digN_len _ _), digs_size zeroW zeroW_len])
        have HOU := Lib.hid (digs_one (digN 140 U))
        have HBU : Hid (∀ w b, Blk w b (digCells zeroW) 93 → Blk (w.setRow b (digCells (digN 140 U)).toArray) b (digCells (digN 140 U)) 93) := fun w b h => h.setRow _
        have HID := Lib.hid (info_digs (digN 140 D) (digN_len _ _))
        have HSD := Lib.hid (show (digCells zeroW).toArray.size = (digCells (digN 140 D)).toArray.size by rw [digs_size _ (digN_len _ _), digs_size zeroW zeroW_len])
        have HOD := Lib.hid (digs_one (digN 140 D))
        have HBD : Hid (∀ w b, Blk w b (digCells zeroW) 93 → Blk (w.setRow b (digCells (digN 140 D)).toArray) b (digCells (digN 140 D)) 93) := fun w b h => h.setRow _
        unfold wideV digsV at hup' hdn' hl1 hl2
        generalize hcu : digCells (digN 140 U) = lu at *
        generalize hcd : digCells (digN 140 D) = ld at *
        have HRU : Hid (∀ w b, Blk w b lu 93 → w.heap[b]? = some (.cells lu.toArray 93 (0, 0))) := fun _ _ h => h
        have HRD : Hid (∀ w b, Blk w b ld 93 → w.heap[b]? = some (.cells ld.toArray 93 (0, 0))) := fun _ _ h => h
        generalize lu.toArray = cu at *
        generalize ld.toArray = cd at *
        have HNV := Lib.hid hnv
        have HUP := Lib.hid hup'
        have HDN := Lib.hid hdn'
        have HVU := Lib.hid hvu
        have HVD := Lib.hid hvd
        have HL1 := Lib.hid hl1
        have HL2 := Lib.hid hl2
        clear hnv hup' hdn' hvu hvd hl1 hl2 hcu hcd
        go_upto_region 10 with fail
        refine region_alloc (NewB wr (InW w g N) (digCells zeroW) 93) 5 6 (by kernel_rfl) (by kernel_rfl) ⟨⟨HIN.out.1.drew, HIN.out.2.drew⟩, (Fr.refl _ wr).drew⟩ (makes_new (fun _ _ h hf => h.frame hf) _ 93 rfl rfl rfl rfl (fun a w => by rw [← zero_wide]; go_simp; rfl)) ?_
        simp only [List.take_succ_cons, List.take_zero, List.drop_succ_cons, List.drop_zero]
        refine j_run (.int .u64 (lo : Int)) rfl (fun _ w' _ => BigFrame.run_move (.tmp 3) rfl w') ?_
        refine j_run (.int .u64 ((lo : Int) + 1)) rfl (fun _ w' _ => by go_simp) ?_
        refine j_call zU 93 #[.int .u64 ((lo : Int) + 1)] rfl (fun w' => by go_simp) (fun s w' hw' => (HVU.out w').mono fun _ _ h => ⟨h.1, hw'.frame (fun _ _ h hf => h.frame hf) h.2⟩) ?_
        refine j_run (.agg cs) rfl (fun _ w' hw' => run_row rfl g rfl 93 cs (0, 0) _ (by rw [← HCS.out]; exact hw'.all.2) Try.underlying93 rfl HI.out) ?_
        refine j_call (.agg cu) 67 #[zU, .agg cs] rfl (fun w' => by go_simp) (fun s w' hw' => (HUP.out w').mono fun _ _ h => ⟨h.1, hw'.frame (fun _ _ h hf => h.frame hf) h.2⟩) ?_
        refine j_nil ?_
        intro b w2 hw2
        simp only [Act.put, List.setIfInBounds_toArray, List.set_cons_zero, List.set_cons_succ, newPtr]
        obtain ⟨k1, k2, k3, k4⟩ := hw2
        have hbg : g ≠ b := by have := HIN.out.2.lt; omega
        have HK := Lib.hid k3
        have HIN3 : Hid (InW w g N (w2.setRow b cu) ∧ Blk (w2.setRow b cu) b lu 93) :=
          ⟨⟨k1.1.setRow b (.inr (by have := HIN.out.1.size; omega)) _, k1.2.setRowOther b _ hbg⟩, HBU.out _ _ k3⟩
        clear k1 k2 k3 k4 hbg HBU HUP HVU
        go_upto_region 11 with (refine wpList_store_row rfl 93 _ _ rfl b cu rfl rfl 93 (digCells zeroW).toArray HK.out HIU.out HSU.out HOU.out ?_)
        generalize w2.setRow b cu = w3 at *
        clear HK HSU HOU HIN
        refine region_alloc (NewB w3 (fun w' => InW w g N w' ∧ Blk w' b lu 93) (digCells zeroW) 93) 4 7 (by kernel_rfl) (by kernel_rfl) ⟨⟨⟨HIN3.out.1.1.drew, HIN3.out.1.2.drew⟩, HIN3.out.2.drew⟩, (Fr.refl _ w3).drew⟩ (makes_new (fun _ _ h hf => ⟨h.1.frame hf, h.2.frame hf (fun h => h)⟩) _ 93 rfl rfl rfl rfl (fun a w => by rw [← zero_wide]; go_simp; rfl)) ?_
        simp only [List.take_succ_cons, List.take_zero, List.drop_succ_cons, List.drop_zero]
        have hstab : ∀ w1 w2, (InW w g N w1 ∧ Blk w1 b lu 93) → Fr (fun _ => False) w1 w2 → (InW w g N w2 ∧ Blk w2 b lu 93) := fun _ _ h hf => ⟨h.1.frame hf, h.2.frame hf (fun h => h)⟩
        have HST := Lib.hid hstab
        clear hstab
        refine j_run (.agg cs) rfl (fun _ w' hw' => run_row rfl g rfl 93 cs (0, 0) _ (by rw [← HCS.out]; exact hw'.all.1.2) Try.underlying93 rfl HI.out) ?_
        refine j_run (.int .u64 (lo : Int)) rfl (fun _ w' _ => BigFrame.run_move (.tmp 3) rfl w') ?_
        refine j_call zD 93 #[.int .u64 (lo : Int)] rfl (fun w' => by go_simp) (fun s w' hw' => (HVD.out w').mono fun _ _ h => ⟨h.1, hw'.frame HST.out h.2⟩) ?_
        refine j_call (.agg cd) 67 #[.agg cs, zD] rfl (fun w' => by go_simp) (fun s w' hw' => (HDN.out w').mono fun _ _ h => ⟨h.1, hw'.frame HST.out h.2⟩) ?_
        refine j_nil ?_
        intro c w4 hw4
        simp only [Act.put, List.setIfInBounds_toArray, List.set_cons_zero, List.set_cons_succ, newPtr]
        obtain ⟨k1, k2, k3, k4⟩ := hw4
        have hbc : b ≠ c := by have := HIN3.out.2.lt; omega
        have HK2 := Lib.hid k3
        have HIN5 : Hid (Fr (fun _ => False) w (w4.setRow c cd) ∧ Blk (w4.setRow c cd) b lu 93 ∧ Blk (w4.setRow c cd) c ld 93) :=
          ⟨k1.1.1.setRow c (.inr (by have := HIN3.out.1.1.size; omega)) _, k1.2.setRowOther c _ hbc, HBD.out _ _ k3⟩
        clear k1 k2 k3 k4 hbc HIN3 HDN HVD HST HBD
        go_upto_region 12 with (refine wpList_store_row rfl 93 _ _ rfl c cd rfl rfl 93 (digCells zeroW).toArray HK2.out HID.out HSD.out HOD.out ?_)
        generalize w4.setRow c cd = w5 at *
        clear HK2 HSD HOD HI HCS
        go_wp2_with (first | refine wpList_load_row rfl 93 _ rfl b rfl 93 cu (0, 0) _ (HRU.out _ _ HIN5.out.2.1) Try.underlying93 rfl HIU.out ?_ | refine wpList_load_row rfl 93 _ rfl c rfl 93 cd (0, 0) _ (HRD.out _ _ HIN5.out.2.2) Try.underlying93 rfl HID.out ?_)
        refine (HL1.out w5).mono ?_
        rintro e w6 ⟨rfl, hf6⟩
        have HIN6 : Hid (Fr (fun _ => False) w w6 ∧ Blk w6 b lu 93 ∧ Blk w6 c ld 93) := ⟨HIN5.out.1.then hf6, HIN5.out.2.1.frame hf6 (fun h => h), HIN5.out.2.2.frame hf6 (fun h => h)⟩
        clear HIN5 HL1 hf6
        by_cases hUD : U < D
        · have hd : decide (U < D) = true := by simpa using hUD
          rw [hd]
          have hfin : NatPost w (rnd N) (.returned (.int .u64 ((lo : Int) + 1))) w6 := ⟨by rw [HNV.out, if_pos (.inl hUD)]; rfl, HIN6.out.1⟩
          have HFIN := Lib.hid hfin
          clear hd hUD hfin
          go_wp2
          go_ret
          exact HFIN.out
        · have hd : decide (U < D) = false := by simpa using hUD
          rw [hd]
          clear hd
          go_wp2_with (first | refine wpList_load_rowG (by rfl) 93 _ rfl b rfl 93 cu (0, 0) _ (HRU.out _ _ HIN6.out.2.1) Try.underlying93 rfl HIU.out ?_ | refine wpList_load_rowG (by rfl) 93 _ rfl c rfl 93 cd (0, 0) _ (HRD.out _ _ HIN6.out.2.2) Try.underlying93 rfl HID.out ?_)
          refine (HL2.out w6).mono ?_
          rintro e w7 ⟨rfl, hf7⟩
          have HF7 := Lib.hid (HIN6.out.1.then hf7)
          clear HIN6 HL2 hf7
          by_cases hDU : D < U
          · have hd : decide (D < U) = true := by simpa using hDU
            rw [hd]
            have hfin : NatPost w (rnd N) (.returned (.int .u64 (lo : Int))) w7 := ⟨by rw [HNV.out, if_neg (by omega)], HF7.out⟩
            have HFIN := Lib.hid hfin
            clear hd hUD hDU hfin
            go_wp2
            go_ret
            exact HFIN.out
          · have hd : decide (D < U) = false := by simpa using hDU
            rw [hd]
            by_cases hodd : lo % 2 = 1
            · have hm : ((lo : Int) % 2 == 1) = true := by rw [beq_iff_eq]; omega
              have hfin : NatPost w (rnd N) (.returned (.int .u64 ((lo : Int) + 1))) w7 := ⟨by rw [HNV.out, if_pos (.inr ⟨hDU, hodd⟩)]; rfl, HF7.out⟩
              have HFIN := Lib.hid hfin
              clear hd hUD hDU hfin hodd
              go_wp2
              go_ret
              exact HFIN.out
            · have hm : ((lo : Int) % 2 == 1) = false := by rw [beq_eq_false_iff_ne]; omega
              have hfin : NatPost w (rnd N) (.returned (.int .u64 (lo : Int))) w7 := ⟨by rw [HNV.out, if_neg (by omega)], HF7.out⟩
              have HFIN := Lib.hid hfin
              clear hd hUD hDU hfin hodd
              go_wp2
              go_ret
              exact HFIN.out
end Go.Proofs.Ytmllbdiljjimmaa
