/- The walk of the law ScriptBack. -/
import Derived.Test.YtlcgmniahdngdaaGreatDoorSWant
namespace Go.Proofs.YtlcgmniahdngdaaGreatDoor
open Go.RowKit Go.Great

theorem range10 {w : World} {b o : Nat} {v0 v1 v2 v3 v4 v5 v6 v7 v8 v9 : Value} (h : w.rangeAt b o [v0, v1, v2, v3, v4, v5, v6, v7, v8, v9]) :
    w.cell? ⟨b, o, none⟩ = some v0 ∧ w.cell? ⟨b, o + 1, none⟩ = some v1 ∧ w.cell? ⟨b, o + 2, none⟩ = some v2 ∧ w.cell? ⟨b, o + 3, none⟩ = some v3 ∧ w.cell? ⟨b, o + 4, none⟩ = some v4 ∧ w.cell? ⟨b, o + 5, none⟩ = some v5 ∧ w.cell? ⟨b, o + 6, none⟩ = some v6 ∧ w.cell? ⟨b, o + 7, none⟩ = some v7 ∧ w.cell? ⟨b, o + 8, none⟩ = some v8 :=
  ⟨h 0 _ rfl, h 1 _ rfl, h 2 _ rfl, h 3 _ rfl, h 4 _ rfl, h 5 _ rfl, h 6 _ rfl, h 7 _ rfl, h 8 _ rfl⟩
theorem frozen_frame {w w' : World} (hf : Fr (fun _ => False) w w') {b k : Nat} (hb : b < w.heap.size) {v : Bool} (h : w.frozen? ⟨b, k, none⟩ = v) : w'.frozen? ⟨b, k, none⟩ = v := by
  unfold World.frozen? at *
  rw [hf.block b hb (fun h => h)]
  exact h
set_option maxRecDepth 100000 in
set_option maxHeartbeats 3200000 in
theorem ScriptBack_any (os : List OpR) (hos : ∀ o ∈ os, o.Ok) (p : Option Addr) (cap : Nat) (rem : List UInt8) (W : World) (hO : OpsAt W p os) (hT : TabD W) (hP : Lib.TabIs Tryz.prog W "internal/strconv.uint64pow10" .u64 Lib.pow10Tab) (hE : ErrW W) :
    Calls Tryz.prog 3 #[.slice p os.length cap, .string (bytesOf rem)] W (TruePost W) := by
  have HOS := Lib.hid hos
  have HO := Lib.hid hO
  have HT := Lib.hid hT
  have HP := Lib.hid hP
  have HE := Lib.hid hE
  have HLV : Hid (∀ w, Fr (fun _ => False) W w → Calls Tryz.prog 4 #[] w (TruePost w)) := fun w hf => slives_any w (hT.frame hf) (tabIs_frame hP hf) (hE.frame hf)
  have hsz : (bytesOf rem).size = rem.length := bytes_size rem
  have HOF := Lib.hid (fun (h : os.length ≤ 120) w hO => of_ops os h p cap w hO)
  unfold OfPost at HOF
  have HPU := Lib.hid (fun (h : os.length ≤ 120) w hO hT hP => put_any os hos h p cap w hO hT hP)
  unfold PutPost at HPU
  have HWL := Lib.hid (fun i => wantR_len os i)
  generalize hn : os.length = n at *
  have HN := Lib.hid hn
  clear hn hos hO hT hP hE
  by_cases hbig : 120 < n
  · go_enter Tryz.func3, Tryz.ntmps3
    go_wp2_with fail
    refine (HLV.out _ (Fr.refl _ _)).mono ?_
    rintro e w1 ⟨rfl, hf⟩
    go_wp2
    go_ret
    exact ⟨rfl, hf⟩
  by_cases hbig2 : 100 < rem.length
  · have hn120 : n ≤ 120 := by omega
    go_enter Tryz.func3, Tryz.ntmps3
    go_wp2_with fail
    refine (HLV.out _ (Fr.refl _ _)).mono ?_
    rintro e w1 ⟨rfl, hf⟩
    go_wp2
    go_ret
    exact ⟨rfl, hf⟩
  have hn120 : n ≤ 120 := by omega
  have hr100 : rem.length ≤ 100 := by omega
  clear hbig hbig2
  go_enter Tryz.func3, Tryz.ntmps3
  go_upto_region 4 with fail
  go_loopw [5, 25] (fun _ v25 wr => ∃ i : Nat, i ≤ rem.length ∧ v25 = .int .i64 (i : Int) ∧ W = wr ∧ ∀ c ∈ rem.take i, c ≠ 10) (fun _ v25 _ => rem.length - (intOf v25).toNat)
  case atStart => exact ⟨0, Nat.zero_le _, rfl, rfl, fun c h => by cases h⟩
  case round =>
    obtain ⟨i, hi, rfl, rfl, hno⟩ := hrel
    by_cases hlt : i < rem.length
    · obtain ⟨c, hc⟩ : ∃ c, rem[i] = c := ⟨_, rfl⟩
      have hsz3 : i < (bytesOf rem).size := by rw [hsz]; exact hlt
      have hget : (bytesOf rem)[i] = c := hc
      by_cases h10 : c = 10
      · have hb : ((c.toNat : Int) == 10) = true := by rw [h10]; rfl
        clear h10 hno
        go_wp2_with fail
        refine (HLV.out _ (Fr.refl _ _)).mono ?_
        rintro e w1 ⟨rfl, hf⟩
        go_wp2
        go_ret
        exact ⟨rfl, hf⟩
      · have hb : ((c.toNat : Int) == 10) = false := by
          rw [beq_eq_false_iff_ne]; intro h
          exact h10 (UInt8.toNat_inj.1 (by rw [show (10 : UInt8).toNat = 10 from rfl]; omega))
        have hno2 : ∀ d ∈ rem.take (i + 1), d ≠ 10 := by
          intro d hd
          rw [List.take_add_one, List.getElem?_eq_getElem hlt, Option.toList] at hd
          rcases List.mem_append.1 hd with h | h
          · exact hno d h
          · rw [List.mem_singleton.1 h]
            intro e; exact h10 (hc.symm.trans e)
        have HNO := Lib.hid hno2
        clear h10 hno hno2 hc
        go_wp2
        go_roundw
        case rel => exact ⟨i + 1, hlt, by go_num, trivial, HNO.out⟩
        case measure => simp [intOf]; omega
    · obtain rfl : i = rem.length := by omega
      rw [List.take_length] at hno
      have HNO := Lib.hid hno
      clear hno hlt hi
      go_wp2_with fail
      refine (HOF.out hn120 W HO.out).mono ?_
      rintro e w1 ⟨v6, rfl, hown0, hf1⟩
      have HOWN0 := Lib.hid hown0
      have HF1 := Lib.hid hf1
      have HS10 : Hid ((Tryz.prog.info? 34).map (·.size) = some 10) := by show _ = _; kernel_rfl
      clear hown0 hf1
      obtain ⟨p6, c6, hv6, _⟩ := rat_of (rs := wantR os 0) (by rw [HWL.out 0, wantR_zero]; exact HOWN0.out)
      rw [HWL.out 0] at hv6
      subst hv6
      go_upto_region 11 with fail
      go_loopw [7, 8, 38] (fun v7 _ v38 wr => ∃ i : Nat, i ≤ n ∧ v38 = .int .i64 (i : Int) ∧ v7 = .bool ((os.take i).all goodO) ∧ wr.ownsRow W.heap.size 34 10 (.slice p6 n c6) n (rRow (wantR os i)) ∧ Fr (fun _ => False) W wr) (fun _ _ v38 _ => n - (intOf v38).toNat)
      case atStart => exact ⟨0, Nat.zero_le _, rfl, rfl, by rw [wantR_zero]; exact HOWN0.out, HF1.out⟩
      case round =>
        obtain ⟨i, hi, rfl, rfl, hown, hfr⟩ := hrel
        by_cases hlt : i < n
        · obtain ⟨o, hoo⟩ : ∃ o, os[i]? = some o := ⟨_, List.getElem?_eq_getElem (by rw [HN.out]; exact hlt)⟩
          have hoq : o.q < 18446744073709551616 := (HOS.out o (List.mem_of_getElem? hoo)).q
          obtain ⟨p7, c7, hv7, hrat, hfz, hex⟩ := rat_of (rs := wantR os i) (by rw [HWL.out i]; exact hown)
          rw [HWL.out i] at hv7
          cases hv7
          obtain ⟨g, rfl⟩ := hex (by intro e; have := HWL.out i; rw [e] at this; simp at this; omega)
          obtain ⟨b0, off0, hp0, hbl, hrng⟩ := hrat i _ (wantR_at hoo)
          cases hp0
          obtain ⟨_, hBg, hfrz⟩ := hfz g 0 rfl
          have hall : (os.take (i + 1)).all goodO = ((os.take i).all goodO && goodO o) := by
            rw [List.take_add_one, hoo, List.all_append]; simp
          have HALL := Lib.hid hall
          have HRT := Lib.hid (fun w => right_any o w)
          unfold OpR.rval at HRT
          have HNN := Lib.hid (fun w => nan2_any o.q hoq w)
          have hrng2 := hrng
          rw [Nat.zero_add] at hrng2
          have HRG := Lib.hid hrng2
          have HBL := Lib.hid hbl
          have HFR := Lib.hid hfr
          have HFZ := Lib.hid (hfrz (0 + i * 10 + 9))
          have HBG := Lib.hid hBg
          have hk10 : 0 + i * 10 + 9 < n * 10 := by omega
          have hstep : ∀ w', Fr (fun _ => False) wr w' → (w'.setCell ⟨g, 0 + i * 10 + 9, none⟩ (.int .u64 9221120237041090560)).ownsRow W.heap.size 34 10 (.slice (some ⟨g, 0, none⟩) n c6) n ((rRow (wantR os i)).set (i * 10 + 9) (.int .u64 9221120237041090560)) := fun w' hf => by
            have := own_set (ownsRow_frame hown hf (fun _ _ h => h)) hk10 (.int .u64 9221120237041090560)
            rwa [show 0 + i * 10 + 9 = i * 10 + 9 by omega] at this ⊢
          have hset : (rRow (wantR os i)).set (i * 10 + 9) (.int .u64 9221120237041090560) = rRow ((wantR os i).set i (o, 9221120237041090560)) := rRow_set (wantR os i) i o o.q 9221120237041090560 (wantR_at hoo)
          have hN4 : kindF o.q = 4 → (wantR os i).set i (o, 9221120237041090560) = wantR os (i + 1) := fun h => by rw [wantR_step hoo, canon_nan h]
          have hNN : kindF o.q ≠ 4 → wantR os (i + 1) = wantR os i := fun h => wantR_same hoo (canon_num h)
          have HST := Lib.hid hstep
          have HSET := Lib.hid hset
          have HN4 := Lib.hid hN4
          have HNO4 := Lib.hid hNN
          have HOW := Lib.hid hown
          have c9 : wr.cell? ⟨g, 0 + i * 10 + 9, none⟩ = some (.int .u64 (o.q : Int)) := hrng 9 _ rfl
          clear hown hfr hrat hfz hex hrng hrng2 hbl hBg hfrz hall hoo hoq hk10 hstep hset hN4 hNN
          rw [Nat.zero_add] at c9
          generalize (os.take i).all goodO = okv at *
          generalize hk2 : (os.take (i + 1)).all goodO = ok2 at *
          have HK2 := Lib.hid hk2
          clear hk2
          cases okv
          · have h2 : ok2 = false := HALL.out
            subst h2
            have hf2 : Fr (fun _ => False) wr wr := Fr.refl _ _
            have c92 := c9
            have hf3 := HFR.out
            have HF2 := Lib.hid hf2
            have HF3 := Lib.hid hf3
            clear c9 hf2 hf3
            go_wp2_with fail
            refine (HNN.out _).mono ?_
            rintro e w' ⟨rfl, rfl⟩
            by_cases h4 : kindF o.q = 4
            · have hb4 : (kindF o.q == 4) = true := by rw [beq_iff_eq]; exact h4
              have hfz9 : wr.frozen? ⟨g, i * 10 + 9, none⟩ = false := frozen_frame HF2.out HBL.out (by have := HFZ.out; rwa [Nat.zero_add] at this)
              have hX := HST.out wr HF2.out
              rw [HSET.out, HN4.out h4, Nat.zero_add] at hX
              have hF4 := HF3.out.setCell ⟨g, i * 10 + 9, none⟩ (.inr HBG.out) (.int .u64 9221120237041090560)
              have HX := Lib.hid hX
              have HF4 := Lib.hid hF4
              clear h4 hX hF4
              go_wp2
              go_roundw
              case rel => exact ⟨i + 1, hlt, by go_num, by rw [HK2.out], HX.out, HF4.out⟩
              case measure => simp [intOf]; omega
            · have hb4 : (kindF o.q == 4) = false := by rw [beq_eq_false_iff_ne]; exact h4
              have hX := ownsRow_frame HOW.out HF2.out (fun _ _ h => h)
              rw [← HNO4.out h4] at hX
              have HX := Lib.hid hX
              clear h4 hX
              go_wp2
              go_roundw
              case rel => exact ⟨i + 1, hlt, by go_num, by rw [HK2.out], HX.out, HF3.out⟩
              case measure => simp [intOf]; omega
          · have h2 : ok2 = goodO o := HALL.out
            subst h2
            obtain ⟨r0, r1, r2, r3, r4, r5, r6, r7, r8⟩ := range10 HRG.out
            go_wp2_with fail
            refine (HRT.out _).mono ?_
            rintro e w2 ⟨rfl, hf2⟩
            have c92 : w2.cell? ⟨g, i * 10 + 9, none⟩ = some (.int .u64 (o.q : Int)) := (World.cell?_of_block (w := wr) (hf2.block g HBL.out (fun h => h))).trans c9
            have hf3 := HFR.out.then hf2
            have HF2 := Lib.hid hf2
            have HF3 := Lib.hid hf3
            clear c9 hf2 hf3 r0 r1 r2 r3 r4 r5 r6 r7 r8
            go_wp2_with fail
            refine (HNN.out _).mono ?_
            rintro e w' ⟨rfl, rfl⟩
            by_cases h4 : kindF o.q = 4
            · have hb4 : (kindF o.q == 4) = true := by rw [beq_iff_eq]; exact h4
              have hfz9 : w2.frozen? ⟨g, i * 10 + 9, none⟩ = false := frozen_frame HF2.out HBL.out (by have := HFZ.out; rwa [Nat.zero_add] at this)
              have hX := HST.out w2 HF2.out
              rw [HSET.out, HN4.out h4, Nat.zero_add] at hX
              have hF4 := HF3.out.setCell ⟨g, i * 10 + 9, none⟩ (.inr HBG.out) (.int .u64 9221120237041090560)
              have HX := Lib.hid hX
              have HF4 := Lib.hid hF4
              clear h4 hX hF4
              go_wp2
              go_roundw
              case rel => exact ⟨i + 1, hlt, by go_num, by rw [HK2.out], HX.out, HF4.out⟩
              case measure => simp [intOf]; omega
            · have hb4 : (kindF o.q == 4) = false := by rw [beq_eq_false_iff_ne]; exact h4
              have hX := ownsRow_frame HOW.out HF2.out (fun _ _ h => h)
              rw [← HNO4.out h4] at hX
              have HX := Lib.hid hX
              clear h4 hX
              go_wp2
              go_roundw
              case rel => exact ⟨i + 1, hlt, by go_num, by rw [HK2.out], HX.out, HF3.out⟩
              case measure => simp [intOf]; omega
        · have hin : i = n := by omega
          subst hin
          have htk : os.take i = os := by rw [← HN.out]; exact List.take_length
          rw [htk]
          have hown2 := hown
          rw [← HN.out, wantR_all] at hown2
          have HOW := Lib.hid hown2
          have HFR := Lib.hid hfr
          clear hown hown2 hfr htk hi hlt
          cases hag : os.all goodO
          · have hpr : putR os = (⟨#[]⟩, 5) := by rw [putR, hag]; rfl
            have HPU2 := Lib.hid (HPU.out hn120 wr (HO.out.frame HFR.out) (HT.out.frame HFR.out) (tabIs_frame HP.out HFR.out))
            rw [hpr] at HPU2
            clear hag hpr
            go_wp2_with fail
            refine (HPU2.out).mono ?_
            rintro e w2 ⟨rfl, hf2⟩
            have hf3 := HFR.out.then hf2
            have HF3 := Lib.hid hf3
            clear hf2 hf3
            go_wp2_with fail
            refine (HLV.out _ HF3.out).mono ?_
            rintro e w3 ⟨rfl, hf⟩
            have hf4 := HF3.out.then hf
            clear hf
            go_wp2
            go_ret
            exact ⟨rfl, hf4⟩
          · have hpr : putR os = (bytesOf (textO os), 0) := by rw [putR, hag]; rfl
            have HPU2 := Lib.hid (HPU.out hn120 wr (HO.out.frame HFR.out) (HT.out.frame HFR.out) (tabIs_frame HP.out HFR.out))
            rw [hpr] at HPU2
            have hgoods : ∀ o ∈ os, goodO o = true := fun o ho => List.all_eq_true.1 hag o ho
            have htl := textO_len os (fun o ho => ⟨HOS.out o ho, hgoods o ho⟩)
            rw [HN.out] at htl
            have hb1 : (bytesOf (textO os)).size ≤ 40000 := by rw [bytes_size]; omega
            have hS : ∃ S1 S2 S3, bytesOf [10, 32, 35] ++ bytesOf rem = S1 ∧ S1 ++ bytesOf [10] = S2 ∧ S2 ++ bytesOf (textO os) = S3 ∧ S3 ++ bytesOf [9, 32] = bytesOf (allT rem (os.map canonO)) := by
              refine ⟨_, _, _, rfl, rfl, rfl, ?_⟩
              unfold allT
              rw [bytes_app, bytes_app, bytes_app, bytes_app]
              rw [show ((os.map canonO).map lineB).flatMap putL = textO (os.map canonO) from rfl, textO_canon]
            obtain ⟨S1, S2, S3, hs1, hs2, hs3, hs4⟩ := hS
            have hz1 : S1.size = rem.length + 3 := by rw [← hs1, bytes_app, bytes_size]; simp
            have hz2 : S2.size = rem.length + 4 := by rw [← hs2, ByteArray.size_append, hz1, bytes_size]; simp
            have hz3 : S3.size ≤ rem.length + 4 + 40000 := by rw [← hs3, ByteArray.size_append, hz2]; omega
            have a1 : ∀ w, (Op.stringOp .add ({ data := #[10, 32, 35] } : ByteArray) (bytesOf rem)).run Tryz.prog w = .ok (.string S1) w := fun w => by
              rw [run_string_add_sum w _ _ (by rw [bytes_size, show ({ data := #[10, 32, 35] } : ByteArray).size = 3 from rfl]; omega)]; rw [← hs1]; rfl
            have a2 : ∀ w, (Op.stringOp .add S1 ({ data := #[10] } : ByteArray)).run Tryz.prog w = .ok (.string S2) w := fun w => by
              rw [run_string_add_sum w _ _ (by rw [hz1, show ({ data := #[10] } : ByteArray).size = 1 from rfl]; omega)]; rw [← hs2]; rfl
            have a3 : ∀ w, (Op.stringOp .add S2 (bytesOf (textO os))).run Tryz.prog w = .ok (.string S3) w := fun w => by
              rw [run_string_add_sum w _ _ (by rw [hz2]; omega), ← hs3]
            have a4 : ∀ w, (Op.stringOp .add S3 ({ data := #[9, 32] } : ByteArray)).run Tryz.prog w = .ok (.string (bytesOf (allT rem (os.map canonO)))) w := fun w => by
              rw [run_string_add_sum w _ _ (by rw [show ({ data := #[9, 32] } : ByteArray).size = 2 from rfl]; omega)]; rw [← hs4]; rfl
            have hl' : (os.map canonO).length = i := by rw [List.length_map]; exact HN.out
            have HSC := Lib.hid (fun w h1 h2 h3 => scan_any rem hr100 HNO.out (os.map canonO) (fun o ho => by
              obtain ⟨x, hx, rfl⟩ := List.mem_map.1 ho
              exact ⟨canon_ok (HOS.out x hx), canon_good (hgoods x hx), canon_twice x.q⟩) (by rw [hl']; exact hn120) w h1 h2 h3)
            have HOF2 := Lib.hid (fun p2 c2 w h => of_ops (os.map canonO) (by rw [hl']; exact hn120) p2 c2 w h)
            unfold RsPost at HSC
            unfold OfPost at HOF2
            rw [hl'] at HSC HOF2
            have hrel1 : ((os.map canonO).map fun o => (o, o.q)).length = i := by rw [List.length_map, hl']
            have hrel2 : (os.map fun o => (o, canonF o.q)).length = ((os.map canonO).map fun o => (o, o.q)).length := by rw [List.length_map, List.length_map, List.length_map]
            have hrel3 : ∀ (j : Nat) (r : OpR × Nat), ((os.map canonO).map fun o => (o, o.q))[j]? = some r → ∃ q, (os.map fun o => (o, canonF o.q))[j]? = some ({ r.1 with q := q }, r.2) := by
              intro j r hr
              rw [List.map_map, List.getElem?_map] at hr
              rw [List.getElem?_map]
              cases hj : os[j]? with
              | none => rw [hj] at hr; cases hr
              | some o =>
                rw [hj] at hr
                cases hr
                exact ⟨o.q, rfl⟩
            have HSAME := Lib.hid (fun p1 p2 c1 c2 w h1 h2 => rsame_true ((os.map canonO).map fun o => (o, o.q)) (os.map fun o => (o, canonF o.q)) (by rw [hrel1]; exact hn120) hrel2 hrel3 p1 p2 c1 c2 w h1 h2)
            rw [hrel1] at HSAME
            have HREL1 := Lib.hid hrel1
            have HREL2 := Lib.hid hrel2
            generalize bytesOf (allT rem (os.map canonO)) = S4 at *
            generalize (os.map canonO).map (fun o => (o, o.q)) = ra at *
            generalize os.map (fun o => (o, canonF o.q)) = rb at *
            generalize os.map canonO = os' at *
            generalize bytesOf (textO os) = ST at *
            clear hag hpr hgoods htl hb1 hs1 hs2 hs3 hs4 hz1 hz2 hz3 hl' hrel1 hrel2 hrel3
            have A1 := Lib.hid a1
            have A2 := Lib.hid a2
            have A3 := Lib.hid a3
            have A4 := Lib.hid a4
            clear a1 a2 a3 a4
            go_wp2_with fail
            refine (HPU2.out).mono ?_
            rintro e w2 ⟨rfl, hf2⟩
            have hf3 := HFR.out.then hf2
            have HOW2 := Lib.hid (ownsRow_frame HOW.out hf2 (fun _ _ h => h))
            have HF3 := Lib.hid hf3
            clear hf2 hf3
            have a1 := A1.out
            have a2 := A2.out
            have a3 := A3.out
            have a4 := A4.out
            go_wp2_with fail
            refine (HSC.out _ (HT.out.frame HF3.out) (tabIs_frame HP.out HF3.out) (HE.out.frame HF3.out)).mono ?_
            rintro e w3 ⟨p2, c2, rfl, hops, hf4⟩
            have HOPS := Lib.hid hops
            have HOW3 := Lib.hid (ownsRow_frame HOW2.out hf4 (fun _ _ h => h))
            have HF4 := Lib.hid (HF3.out.then hf4)
            clear hops hf4 a1 a2 a3 a4
            go_wp2_with fail
            refine (HOF2.out p2 c2 _ HOPS.out).mono ?_
            rintro e w4 ⟨v9, rfl, hown9, hf5⟩
            have HF5 := Lib.hid (HF4.out.then hf5)
            have how4 := ownsRow_frame HOW3.out hf5 (fun _ _ h => h)
            have e1 : os.length = rb.length := by have := HREL1.out; have := HREL2.out; have := HN.out; omega
            rw [e1] at how4
            obtain ⟨p8, c8, hv8, hra8, _⟩ := rat_of how4
            cases hv8
            have hown99 := hown9
            rw [← HREL1.out] at hown99
            obtain ⟨p9, c9, hv9, hra9, _⟩ := rat_of hown99
            rw [HREL1.out] at hv9
            subst hv9
            have HQ := Lib.hid (HSAME.out p9 p6 c9 c6 w4 hra9 hra8)
            clear hown9 hown99 how4 hf5 e1 hra8 hra9
            go_wp2_with fail
            refine (HQ.out).mono ?_
            rintro e w5 ⟨rfl, hf6⟩
            have HF6 := Lib.hid (HF5.out.then hf6)
            clear hf6
            go_wp2_with fail
            refine (HLV.out _ HF6.out).mono ?_
            rintro e w6 ⟨rfl, hf⟩
            have hf7 := HF6.out.then hf
            clear hf
            go_wp2
            go_ret
            exact ⟨rfl, hf7⟩
end Go.Proofs.YtlcgmniahdngdaaGreatDoor
