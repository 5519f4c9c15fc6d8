/- The walk of script.Line. -/
import Derived.Test.YtlcgmniahdngdaaGreatDoorSLine0
namespace Go.Proofs.YtlcgmniahdngdaaGreatDoor
open Go.RowKit Go.Great

set_option maxRecDepth 100000 in
set_option maxHeartbeats 1600000 in
theorem line_bad (o : OpR) (w : World) (h : (isK o.k && rightS (shB o.k) o) = false) : Calls Tryz.prog 16 #[o.val] w (LnBad w) := by
  have HRG := Lib.hid (fun w => oright_any o w)
  rw [h] at HRG
  clear h
  unfold OpR.val at *
  go_enter Tryz.func16, Tryz.ntmps16
  go_upto_region 1 with fail
  have hb := Blk.new w [.int .i64 o.k, .int .i64 o.a, .int .i64 o.b, .int .i64 o.i, .int .i64 o.p, .int .i64 o.f, .int .i64 o.g, .int .u64 (o.x : Int), .float .f64 o.q] 32
  have hF := (Fr.refl (fun _ => False) w).alloc (.cells #[.int .i64 o.k, .int .i64 o.a, .int .i64 o.b, .int .i64 o.i, .int .i64 o.p, .int .i64 o.f, .int .i64 o.g, .int .u64 (o.x : Int), .float .f64 o.q] 32)
  generalize w.alloc (.cells #[.int .i64 o.k, .int .i64 o.a, .int .i64 o.b, .int .i64 o.i, .int .i64 o.p, .int .i64 o.f, .int .i64 o.g, .int .u64 (o.x : Int), .float .f64 o.q] 32) = W at *
  obtain ⟨p0, p1, p2, p3, p4, p5, p6, p7, p8⟩ := cells9 hb
  clear hb
  go_wp2_with fail
  refine (HRG.out _).mono ?_
  rintro e w1 ⟨rfl, hf1⟩
  have hf2 := hF.then hf1
  clear p0 p1 p2 p3 p4 p5 p6 p7 p8
  go_wp2
  go_ret2
  exact ⟨rfl, hf2⟩

set_option maxRecDepth 100000 in
set_option maxHeartbeats 3200000 in
theorem line_any (o : OpR) (ho : o.Ok) (w : World) (h : (isK o.k && rightS (shB o.k) o) = true) (hT : TabD w) (hP : Lib.TabIs Tryz.prog w "internal/strconv.uint64pow10" .u64 Lib.pow10Tab) : Calls Tryz.prog 16 #[o.val] w (LnPost w o) := by
  have HRG := Lib.hid (fun w => oright_any o w)
  rw [h] at HRG
  have hk : isK o.k = true := (Bool.and_eq_true_iff.1 h).1
  have HK := Lib.hid hk
  have HN := Lib.hid names_any
  obtain ⟨k, hkk⟩ : ∃ k : Nat, o.k = (k : Int) := ⟨o.k.toNat, by have := of_decide_eq_true hk; omega⟩
  have hk18 : k < 18 := by have := of_decide_eq_true hk; omega
  have HIX := Lib.hid (nm_index k hk18)
  clear h hk hk18
  unfold NmPost at HN
  generalize nmCells.toArray = NM at *
  obtain ⟨S1, hS1⟩ : ∃ s, bytesOf (nmB (k : Int)) = s := ⟨_, rfl⟩
  obtain ⟨S2, hS2⟩ : ∃ s, bytesOf (shS (k : Int)) = s := ⟨_, rfl⟩
  rw [hS1, hS2] at HIX
  have HKK := Lib.hid hkk
  clear hkk
  have HS1 := Lib.hid hS1
  have HS2 := Lib.hid hS2
  clear hS1 hS2
  have HT := Lib.hid hT
  have HP := Lib.hid hP
  have HO := Lib.hid ho
  clear ho hT hP
  unfold OpR.val at *
  go_enter Tryz.func16, Tryz.ntmps16
  go_upto_region 1 with fail
  have hb := Blk.new w [.int .i64 o.k, .int .i64 o.a, .int .i64 o.b, .int .i64 o.i, .int .i64 o.p, .int .i64 o.f, .int .i64 o.g, .int .u64 (o.x : Int), .float .f64 o.q] 32
  have hF := (Fr.refl (fun _ => False) w).alloc (.cells #[.int .i64 o.k, .int .i64 o.a, .int .i64 o.b, .int .i64 o.i, .int .i64 o.p, .int .i64 o.f, .int .i64 o.g, .int .u64 (o.x : Int), .float .f64 o.q] 32)
  generalize w.alloc (.cells #[.int .i64 o.k, .int .i64 o.a, .int .i64 o.b, .int .i64 o.i, .int .i64 o.p, .int .i64 o.f, .int .i64 o.g, .int .u64 (o.x : Int), .float .f64 o.q] 32) = W at *
  obtain ⟨p0, p1, p2, p3, p4, p5, p6, p7, p8⟩ := cells9 hb
  have HB := Lib.hid hb
  have HF := Lib.hid hF
  clear hb hF
  go_wp2_with fail
  refine (HRG.out _).mono ?_
  rintro e w1 ⟨rfl, hf1⟩
  have hb1 := HB.out.frame hf1 (fun h => h)
  have hF1 := HF.out.then hf1
  clear p0 p1 p2 p3 p4 p5 p6 p7 p8 HB HF hf1 HRG
  have HB1 := Lib.hid hb1
  have HF1 := Lib.hid hF1
  clear hb1 hF1
  have HSZ2 : Hid ((Tryz.prog.info? 63).map (·.size) = some 2) := by show _ = _; kernel_rfl
  have HON2 : Hid ((#[Value.string S1, Value.string S2] : Array Value).all (·.oneCell') = true) := Go.all_oneCell_toArray (cs := [.string S1, .string S2]) (fun v hv => by simp only [List.mem_cons, List.not_mem_nil, or_false] at hv; rcases hv with rfl | rfl <;> rfl)
  go_upto_region 3 with fail
  go_cut [4] (fun v4 wx => ∃ p : Nat, v4 = .pointer (some ⟨p, 0, none⟩) ∧ Blk wx p [.string S1, .string S2] 63 ∧ Fr (fun _ => False) w1 wx ∧ w1.heap.size ≤ p)
  case first =>
    refine wp_region_any (by kernel_rfl) ?_
    change wpAny _ _ _ _ _ _ _ (World.drew _)
    have FR : Fr (fun _ => False) w1 w1.drew := (Fr.refl _ w1).drew
    generalize w1.drew = W1 at *
    refine wpAny_take (i := 1) (v := .pointer (some ⟨w.heap.size, 0, none⟩)) rfl (by kernel_rfl) (by kernel_rfl) (by kernel_rfl) (fun _ _ _ h => h) (Or.inl ⟨by rfl, fun w => by go_simp⟩) ?_
    simp only [Act.put, List.setIfInBounds_toArray, List.set_cons_zero, List.set_cons_succ]
    refine wpAny_ready (rs := [0, 2, 4]) (by kernel_rfl) (by simp) ?_
    refine AllReady.cons rfl (fun K hK => ?_) (AllReady.cons rfl (fun K hK => ?_) (AllReady.cons rfl (fun K hK => ?_) AllReady.nil))
    · go_simp
      refine (HN.out _).mono ?_
      rintro e w2 ⟨rfl, hf⟩
      have FR := FR.then hf
      try (have hA := hA.frame hf (fun h => h))
      clear hf
      refine hK _ _ ?_
      clear hK K
      refine wpAny_ready (rs := [2, 4]) (by kernel_rfl) (by simp) ?_
      refine AllReady.cons rfl (fun K hK => ?_) (AllReady.cons rfl (fun K hK => ?_) AllReady.nil)
      · have c0 := (HB1.out.frame FR (fun h => h)).cell 0 rfl
        rw [HKK.out] at c0
        go_simp
        refine hK _ _ ?_
        clear hK K c0
        refine wpAny_ready (rs := [3, 4]) (by kernel_rfl) (by simp) ?_
        refine AllReady.cons rfl (fun K hK => ?_) (AllReady.cons rfl (fun K hK => ?_) AllReady.nil)
        · have hix := HIX.out
          go_simp
          clear hix
          refine hK _ _ ?_
          clear hK K
          refine wpAny_ready (rs := [4]) (by kernel_rfl) (by simp) ?_
          refine AllReady.cons rfl (fun K hK => ?_) AllReady.nil
          have hp := FR.size
          have hA := newOf FR [.string ⟨#[]⟩, .string ⟨#[]⟩] 63
          have FR := FR.alloc (.cells #[.string ⟨#[]⟩, .string ⟨#[]⟩] 63)
          go_simp
          refine hK _ _ ?_
          clear hK K
          refine wpAny_ready (rs := [5]) (by kernel_rfl) (by simp) ?_
          refine AllReady.cons rfl (fun K hK => ?_) AllReady.nil
          refine step_store_mid rfl 63 _ _ rfl _ 0 #[.string S1, .string S2] rfl rfl (hA.there 2 (by simp)) HSZ2.out HON2.out ?_
          refine hK _ _ ?_
          clear hK K
          have hA := hA.over (vs := [.string S1, .string S2]) rfl
          have FR := Fr.setCells (.inr hp) [.string S1, .string S2] 0 FR
          refine wpAny_done (by kernel_rfl) ?_ _
          go_wp2
          go_meet
          exact ⟨_, rfl, hA, FR, hp⟩
        · have hp := FR.size
          have hA := newOf FR [.string ⟨#[]⟩, .string ⟨#[]⟩] 63
          have FR := FR.alloc (.cells #[.string ⟨#[]⟩, .string ⟨#[]⟩] 63)
          go_simp
          refine hK _ _ ?_
          clear hK K
          refine wpAny_ready (rs := [3]) (by kernel_rfl) (by simp) ?_
          refine AllReady.cons rfl (fun K hK => ?_) AllReady.nil
          have hix := HIX.out
          go_simp
          clear hix
          refine hK _ _ ?_
          clear hK K
          refine wpAny_ready (rs := [5]) (by kernel_rfl) (by simp) ?_
          refine AllReady.cons rfl (fun K hK => ?_) AllReady.nil
          refine step_store_mid rfl 63 _ _ rfl _ 0 #[.string S1, .string S2] rfl rfl (hA.there 2 (by simp)) HSZ2.out HON2.out ?_
          refine hK _ _ ?_
          clear hK K
          have hA := hA.over (vs := [.string S1, .string S2]) rfl
          have FR := Fr.setCells (.inr hp) [.string S1, .string S2] 0 FR
          refine wpAny_done (by kernel_rfl) ?_ _
          go_wp2
          go_meet
          exact ⟨_, rfl, hA, FR, hp⟩
      · have hp := FR.size
        have hA := newOf FR [.string ⟨#[]⟩, .string ⟨#[]⟩] 63
        have FR := FR.alloc (.cells #[.string ⟨#[]⟩, .string ⟨#[]⟩] 63)
        go_simp
        refine hK _ _ ?_
        clear hK K
        refine wpAny_ready (rs := [2]) (by kernel_rfl) (by simp) ?_
        refine AllReady.cons rfl (fun K hK => ?_) AllReady.nil
        have c0 := (HB1.out.frame FR (fun h => h)).cell 0 rfl
        rw [HKK.out] at c0
        go_simp
        refine hK _ _ ?_
        clear hK K c0
        refine wpAny_ready (rs := [3]) (by kernel_rfl) (by simp) ?_
        refine AllReady.cons rfl (fun K hK => ?_) AllReady.nil
        have hix := HIX.out
        go_simp
        clear hix
        refine hK _ _ ?_
        clear hK K
        refine wpAny_ready (rs := [5]) (by kernel_rfl) (by simp) ?_
        refine AllReady.cons rfl (fun K hK => ?_) AllReady.nil
        refine step_store_mid rfl 63 _ _ rfl _ 0 #[.string S1, .string S2] rfl rfl (hA.there 2 (by simp)) HSZ2.out HON2.out ?_
        refine hK _ _ ?_
        clear hK K
        have hA := hA.over (vs := [.string S1, .string S2]) rfl
        have FR := Fr.setCells (.inr hp) [.string S1, .string S2] 0 FR
        refine wpAny_done (by kernel_rfl) ?_ _
        go_wp2
        go_meet
        exact ⟨_, rfl, hA, FR, hp⟩
    · have c0 := (HB1.out.frame FR (fun h => h)).cell 0 rfl
      rw [HKK.out] at c0
      go_simp
      refine hK _ _ ?_
      clear hK K c0
      refine wpAny_ready (rs := [0, 4]) (by kernel_rfl) (by simp) ?_
      refine AllReady.cons rfl (fun K hK => ?_) (AllReady.cons rfl (fun K hK => ?_) AllReady.nil)
      · go_simp
        refine (HN.out _).mono ?_
        rintro e w2 ⟨rfl, hf⟩
        have FR := FR.then hf
        try (have hA := hA.frame hf (fun h => h))
        clear hf
        refine hK _ _ ?_
        clear hK K
        refine wpAny_ready (rs := [3, 4]) (by kernel_rfl) (by simp) ?_
        refine AllReady.cons rfl (fun K hK => ?_) (AllReady.cons rfl (fun K hK => ?_) AllReady.nil)
        · have hix := HIX.out
          go_simp
          clear hix
          refine hK _ _ ?_
          clear hK K
          refine wpAny_ready (rs := [4]) (by kernel_rfl) (by simp) ?_
          refine AllReady.cons rfl (fun K hK => ?_) AllReady.nil
          have hp := FR.size
          have hA := newOf FR [.string ⟨#[]⟩, .string ⟨#[]⟩] 63
          have FR := FR.alloc (.cells #[.string ⟨#[]⟩, .string ⟨#[]⟩] 63)
          go_simp
          refine hK _ _ ?_
          clear hK K
          refine wpAny_ready (rs := [5]) (by kernel_rfl) (by simp) ?_
          refine AllReady.cons rfl (fun K hK => ?_) AllReady.nil
          refine step_store_mid rfl 63 _ _ rfl _ 0 #[.string S1, .string S2] rfl rfl (hA.there 2 (by simp)) HSZ2.out HON2.out ?_
          refine hK _ _ ?_
          clear hK K
          have hA := hA.over (vs := [.string S1, .string S2]) rfl
          have FR := Fr.setCells (.inr hp) [.string S1, .string S2] 0 FR
          refine wpAny_done (by kernel_rfl) ?_ _
          go_wp2
          go_meet
          exact ⟨_, rfl, hA, FR, hp⟩
        · have hp := FR.size
          have hA := newOf FR [.string ⟨#[]⟩, .string ⟨#[]⟩] 63
          have FR := FR.alloc (.cells #[.string ⟨#[]⟩, .string ⟨#[]⟩] 63)
          go_simp
          refine hK _ _ ?_
          clear hK K
          refine wpAny_ready (rs := [3]) (by kernel_rfl) (by simp) ?_
          refine AllReady.cons rfl (fun K hK => ?_) AllReady.nil
          have hix := HIX.out
          go_simp
          clear hix
          refine hK _ _ ?_
          clear hK K
          refine wpAny_ready (rs := [5]) (by kernel_rfl) (by simp) ?_
          refine AllReady.cons rfl (fun K hK => ?_) AllReady.nil
          refine step_store_mid rfl 63 _ _ rfl _ 0 #[.string S1, .string S2] rfl rfl (hA.there 2 (by simp)) HSZ2.out HON2.out ?_
          refine hK _ _ ?_
          clear hK K
          have hA := hA.over (vs := [.string S1, .string S2]) rfl
          have FR := Fr.setCells (.inr hp) [.string S1, .string S2] 0 FR
          refine wpAny_done (by kernel_rfl) ?_ _
          go_wp2
          go_meet
          exact ⟨_, rfl, hA, FR, hp⟩
      · have hp := FR.size
        have hA := newOf FR [.string ⟨#[]⟩, .string ⟨#[]⟩] 63
        have FR := FR.alloc (.cells #[.string ⟨#[]⟩, .string ⟨#[]⟩] 63)
        go_simp
        refine hK _ _ ?_
        clear hK K
        refine wpAny_ready (rs := [0]) (by kernel_rfl) (by simp) ?_
        refine AllReady.cons rfl (fun K hK => ?_) AllReady.nil
        go_simp
        refine (HN.out _).mono ?_
        rintro e w2 ⟨rfl, hf⟩
        have FR := FR.then hf
        try (have hA := hA.frame hf (fun h => h))
        clear hf
        refine hK _ _ ?_
        clear hK K
        refine wpAny_ready (rs := [3]) (by kernel_rfl) (by simp) ?_
        refine AllReady.cons rfl (fun K hK => ?_) AllReady.nil
        have hix := HIX.out
        go_simp
        clear hix
        refine hK _ _ ?_
        clear hK K
        refine wpAny_ready (rs := [5]) (by kernel_rfl) (by simp) ?_
        refine AllReady.cons rfl (fun K hK => ?_) AllReady.nil
        refine step_store_mid rfl 63 _ _ rfl _ 0 #[.string S1, .string S2] rfl rfl (hA.there 2 (by simp)) HSZ2.out HON2.out ?_
        refine hK _ _ ?_
        clear hK K
        have hA := hA.over (vs := [.string S1, .string S2]) rfl
        have FR := Fr.setCells (.inr hp) [.string S1, .string S2] 0 FR
        refine wpAny_done (by kernel_rfl) ?_ _
        go_wp2
        go_meet
        exact ⟨_, rfl, hA, FR, hp⟩
    · have hp := FR.size
      have hA := newOf FR [.string ⟨#[]⟩, .string ⟨#[]⟩] 63
      have FR := FR.alloc (.cells #[.string ⟨#[]⟩, .string ⟨#[]⟩] 63)
      go_simp
      refine hK _ _ ?_
      clear hK K
      refine wpAny_ready (rs := [0, 2]) (by kernel_rfl) (by simp) ?_
      refine AllReady.cons rfl (fun K hK => ?_) (AllReady.cons rfl (fun K hK => ?_) AllReady.nil)
      · go_simp
        refine (HN.out _).mono ?_
        rintro e w2 ⟨rfl, hf⟩
        have FR := FR.then hf
        try (have hA := hA.frame hf (fun h => h))
        clear hf
        refine hK _ _ ?_
        clear hK K
        refine wpAny_ready (rs := [2]) (by kernel_rfl) (by simp) ?_
        refine AllReady.cons rfl (fun K hK => ?_) AllReady.nil
        have c0 := (HB1.out.frame FR (fun h => h)).cell 0 rfl
        rw [HKK.out] at c0
        go_simp
        refine hK _ _ ?_
        clear hK K c0
        refine wpAny_ready (rs := [3]) (by kernel_rfl) (by simp) ?_
        refine AllReady.cons rfl (fun K hK => ?_) AllReady.nil
        have hix := HIX.out
        go_simp
        clear hix
        refine hK _ _ ?_
        clear hK K
        refine wpAny_ready (rs := [5]) (by kernel_rfl) (by simp) ?_
        refine AllReady.cons rfl (fun K hK => ?_) AllReady.nil
        refine step_store_mid rfl 63 _ _ rfl _ 0 #[.string S1, .string S2] rfl rfl (hA.there 2 (by simp)) HSZ2.out HON2.out ?_
        refine hK _ _ ?_
        clear hK K
        have hA := hA.over (vs := [.string S1, .string S2]) rfl
        have FR := Fr.setCells (.inr hp) [.string S1, .string S2] 0 FR
        refine wpAny_done (by kernel_rfl) ?_ _
        go_wp2
        go_meet
        exact ⟨_, rfl, hA, FR, hp⟩
      · have c0 := (HB1.out.frame FR (fun h => h)).cell 0 rfl
        rw [HKK.out] at c0
        go_simp
        refine hK _ _ ?_
        clear hK K c0
        refine wpAny_ready (rs := [0]) (by kernel_rfl) (by simp) ?_
        refine AllReady.cons rfl (fun K hK => ?_) AllReady.nil
        go_simp
        refine (HN.out _).mono ?_
        rintro e w2 ⟨rfl, hf⟩
        have FR := FR.then hf
        try (have hA := hA.frame hf (fun h => h))
        clear hf
        refine hK _ _ ?_
        clear hK K
        refine wpAny_ready (rs := [3]) (by kernel_rfl) (by simp) ?_
        refine AllReady.cons rfl (fun K hK => ?_) AllReady.nil
        have hix := HIX.out
        go_simp
        clear hix
        refine hK _ _ ?_
        clear hK K
        refine wpAny_ready (rs := [5]) (by kernel_rfl) (by simp) ?_
        refine AllReady.cons rfl (fun K hK => ?_) AllReady.nil
        refine step_store_mid rfl 63 _ _ rfl _ 0 #[.string S1, .string S2] rfl rfl (hA.there 2 (by simp)) HSZ2.out HON2.out ?_
        refine hK _ _ ?_
        clear hK K
        have hA := hA.over (vs := [.string S1, .string S2]) rfl
        have FR := Fr.setCells (.inr hp) [.string S1, .string S2] 0 FR
        refine wpAny_done (by kernel_rfl) ?_ _
        go_wp2
        go_meet
        exact ⟨_, rfl, hA, FR, hp⟩
  case rest =>
    obtain ⟨p, rfl, hA, hf, hp⟩ := hcut
    have hb1 := HB1.out.frame hf (fun h => h)
    have hF1 := HF1.out.then hf
    have hbl := HB1.out.lt
    have hwl : w.heap.size < wc.heap.size := by have := hf.size; omega
    have hpl := hA.lt
    clear hp hbl hf HN HIX HON2 HSZ2 HB1 HF1
    have d0 := hA.cell 0 rfl
    go_upto_region 5 with fail
    clear d0
    have hsz : ((wc.alloc (.cells #[.string S1] 9)).alloc (.cells #[.slice (some ⟨wc.heap.size, 0, none⟩) 1 1] 60)).heap.size = wc.heap.size + 2 := by simp
    have hg := (Blk.new wc [.string S1] 9).alloc (.cells #[.slice (some ⟨wc.heap.size, 0, none⟩) 1 1] 60)
    have h5 := Blk.new (wc.alloc (.cells #[.string S1] 9)) [.slice (some ⟨wc.heap.size, 0, none⟩) 1 1] 60
    rw [World.size_alloc] at h5
    have hA2 := (hA.alloc (.cells #[.string S1] 9)).alloc (.cells #[.slice (some ⟨wc.heap.size, 0, none⟩) 1 1] 60)
    have hb2 := (hb1.alloc (.cells #[.string S1] 9)).alloc (.cells #[.slice (some ⟨wc.heap.size, 0, none⟩) 1 1] 60)
    have hF2 := (hF1.alloc (.cells #[.string S1] 9)).alloc (.cells #[.slice (some ⟨wc.heap.size, 0, none⟩) 1 1] 60)
    generalize (wc.alloc (.cells #[.string S1] 9)).alloc (.cells #[.slice (some ⟨wc.heap.size, 0, none⟩) 1 1] 60) = V at *
    clear hA hb1 hF1
    obtain ⟨p0, p1, p2, p3, p4, p5, p6, p7, p8⟩ := cells9 hb2
    have d1 := (hA2.alloc (.cells #[.int .i64 o.p, .int .i64 o.f, .int .i64 o.g] 3)).cell 1 rfl
    go_upto_region 8 with fail
    clear d1 p0 p1 p2 p3 p4 p5 p6 p7 p8 hA2
    have hSE := HS2.out
    obtain ⟨sh, hsh⟩ : ∃ sh, shS (k : Int) = sh := ⟨_, rfl⟩
    rw [hsh] at hSE
    subst hSE
    have HSH := Lib.hid hsh
    have hk := HK.out
    have hokay : ∀ c ∈ sh, okS c = true := by have := shS_ok o.k hk; rw [HKK.out, hsh] at this; exact this
    have hheads : ∀ j, (h : j < sh.length) → sh[j] = 110 → (sh.take j).foldl upH 0 < 3 := by have := shS_heads o.k hk; rw [HKK.out, hsh] at this; exact this
    have hlen : sh.length ≤ 4 := by have := shS_len o.k hk; rw [HKK.out, hsh] at this; exact this
    have HOKAY := Lib.hid hokay
    have HHEADS := Lib.hid hheads
    have HLEN := Lib.hid hlen
    clear hsh hokay hheads hlen
    have hI : LnI o (nmB (k : Int)) sh w w.heap.size wc.heap.size V.heap.size 0 (.slice (some ⟨V.heap.size, 0, none⟩) 3 3) ((V.alloc (.cells #[.int .i64 o.p, .int .i64 o.f, .int .i64 o.g] 3)).iter (bytesOf sh) 0) := by
      refine ⟨?_, (hb2.alloc _).alloc _, (Blk.new V [.int .i64 o.p, .int .i64 o.f, .int .i64 o.g] 3).alloc _, ⟨_, (h5.alloc _).alloc _, ?_, ?_⟩, ?_, (hF2.alloc _).alloc _⟩
      · have := World.iter_heap (V.alloc (.cells #[.int .i64 o.p, .int .i64 o.f, .int .i64 o.g] 3)) (bytesOf sh) 0
        rwa [World.size_alloc] at this
      · have e : svals (nmB (k : Int) :: fieldsO o 0 (sh.take 0)) = [.string S1] := by rw [← HS1.out]; rfl
        rw [e]
        exact own_blk ((hg.alloc _).alloc _) rfl (by decide) (by decide) rfl
      · intro i hi
        simp only [Value.ownBlock, Option.some.injEq] at hi
        exact .inl hi.symm
      · intro hc e h3
        subst e
        rfl
    clear hb2 h5 hg hF2
    have HWL := Lib.hid hwl
    rw [hsz] at hI
    have HI := Lib.hid hI
    clear hI hsz hwl hpl hk
    generalize hG : wc.heap.size = g at *
    have HGG := Lib.hid hG
    clear hG
    generalize (V.alloc (.cells #[.int .i64 o.p, .int .i64 o.f, .int .i64 o.g] 3)).iter (bytesOf sh) 0 = V0 at *
    go_loopw [7, 9] (fun v7 _ wr => ∃ j : Nat, j ≤ sh.length ∧ LnI o (nmB (k : Int)) sh w w.heap.size g (g + 2) j v7 wr) (fun _ _ wr => sh.length - wr.iterPos (g + 2 + 1))
    case atStart => exact ⟨0, Nat.zero_le _, HI.out⟩
    case round =>
      obtain ⟨j, hj, hI⟩ := hrel
      have hp0 := iterPos_of hI.it
      by_cases hlt : j < sh.length
      · have hsz3 : j < (bytesOf sh).size := by rw [bytes_size]; exact hlt
        obtain ⟨c, hc⟩ : ∃ c, sh[j] = c := ⟨_, rfl⟩
        have hget : (bytesOf sh)[j] = c := hc
        have hok := okS_cases (HOKAY.out c (by rw [← hc]; exact List.getElem_mem hlt))
        have h128 : c.toNat < 128 := by rcases hok with rfl | rfl | rfl | rfl | rfl | rfl | rfl <;> decide
        have hnx : ∀ ty, (Instr.next (.pointer (some ⟨g + 2 + 1, 0, none⟩)) true ty).run Tryz.prog wr = .ok (.tuple #[.bool true, .int .i64 j, .int .i32 c.toNat]) (wr.iterAt (g + 2 + 1) (bytesOf sh) (j + 1)) := fun ty => by
          rw [Lib.run_next_ascii_at wr _ _ j ty hI.it hsz3 (by rw [hget]; exact h128), hget]
        obtain ⟨v, hv, hown, hne, hx, hhd, hfr, hstep⟩ := lni_step hI rfl HWL.out (Nat.le_refl _) hlt c hc
        have hhc : c = 110 → (sh.take j).foldl upH 0 < 3 := fun e => HHEADS.out j hlt (hc.trans e)
        have h7 := hI.h7
        generalize (sh.take j).foldl upH 0 = hn at *
        generalize fieldsO o 0 (sh.take j) = fs at *
        generalize wr.iterAt (g + 2 + 1) (bytesOf sh) (j + 1) = W3 at *
        have hln : 1 + j ≤ 100 := by have := HLEN.out; omega
        have HLT : Hid (j + 1 ≤ sh.length) := hlt
        have HMES : Hid (sh.length - (j + 1) < sh.length - j) := by show _ < _; omega
        have HP0 := Lib.hid hp0
        have HST := Lib.hid hstep
        have HFR := Lib.hid hfr
        have HV := Lib.hid hv
        have HOWN := Lib.hid hown
        have HNE := Lib.hid hne
        have HLN := Lib.hid hln
        have H7 := Lib.hid h7
        have HHC := Lib.hid hhc
        clear hln hlt hp0 hstep hfr hv hown hne h7 hhc hI hget hsz3 hc h128 hj
        rcases hok with rfl | rfl | rfl | rfl | rfl | rfl | rfl
        · have q1 := hx.cell 1 rfl
          clear hx hhd
          go_wp2_with fail
          refine (dputint o.a HO.out.a _ (tabIs_frame HP.out HFR.out)).mono ?_
          rintro e w2 ⟨rfl, hf2⟩
          clear q1
          go_wp2_with fail
          refine (add_any (itoB o.a) (g + 1) v (1 + j) (nmB (k : Int) :: fs) w2 (HV.out.frame hf2 (fun h => h)) (ownsRow_frame HOWN.out hf2 (fun _ _ h => h)) HNE.out HLN.out).mono ?_
          rintro e w3 hadd
          have hre := hadd.1
          subst hre
          have hI2 := HST.out w2 w3 _ _ (u7) hf2 (by simp [fieldB]) hadd (fun hc e h3 => H7.out hc e h3)
          have HI2 := Lib.hid hI2
          clear hI2 hadd hf2
          go_wp2
          go_roundw
          case rel => exact ⟨j + 1, HLT.out, HI2.out⟩
          case measure => rw [iterPos_of HI2.out.it, HP0.out]; exact HMES.out
        · have q1 := hx.cell 2 rfl
          clear hx hhd
          go_wp2_with fail
          refine (dputint o.b HO.out.b _ (tabIs_frame HP.out HFR.out)).mono ?_
          rintro e w2 ⟨rfl, hf2⟩
          clear q1
          go_wp2_with fail
          refine (add_any (itoB o.b) (g + 1) v (1 + j) (nmB (k : Int) :: fs) w2 (HV.out.frame hf2 (fun h => h)) (ownsRow_frame HOWN.out hf2 (fun _ _ h => h)) HNE.out HLN.out).mono ?_
          rintro e w3 hadd
          have hre := hadd.1
          subst hre
          have hI2 := HST.out w2 w3 _ _ (u7) hf2 (by simp [fieldB]) hadd (fun hc e h3 => H7.out hc e h3)
          have HI2 := Lib.hid hI2
          clear hI2 hadd hf2
          go_wp2
          go_roundw
          case rel => exact ⟨j + 1, HLT.out, HI2.out⟩
          case measure => rw [iterPos_of HI2.out.it, HP0.out]; exact HMES.out
        · have q1 := hx.cell 3 rfl
          clear hx hhd
          go_wp2_with fail
          refine (dputint o.i HO.out.i _ (tabIs_frame HP.out HFR.out)).mono ?_
          rintro e w2 ⟨rfl, hf2⟩
          clear q1
          go_wp2_with fail
          refine (add_any (itoB o.i) (g + 1) v (1 + j) (nmB (k : Int) :: fs) w2 (HV.out.frame hf2 (fun h => h)) (ownsRow_frame HOWN.out hf2 (fun _ _ h => h)) HNE.out HLN.out).mono ?_
          rintro e w3 hadd
          have hre := hadd.1
          subst hre
          have hI2 := HST.out w2 w3 _ _ (u7) hf2 (by simp [fieldB]) hadd (fun hc e h3 => H7.out hc e h3)
          have HI2 := Lib.hid hI2
          clear hI2 hadd hf2
          go_wp2
          go_roundw
          case rel => exact ⟨j + 1, HLT.out, HI2.out⟩
          case measure => rw [iterPos_of HI2.out.it, HP0.out]; exact HMES.out
        · have hn3 := HHC.out rfl
          obtain rfl | rfl | rfl : hn = 0 ∨ hn = 1 ∨ hn = 2 := by omega
          · have hu := H7.out 0 rfl (by decide)
            subst hu
            have q1 := hhd.cell 0 rfl
            clear hx hhd
            go_wp2_with fail
            refine (dputint o.p HO.out.p _ (tabIs_frame HP.out HFR.out)).mono ?_
            rintro e w2 ⟨rfl, hf2⟩
            clear q1
            go_wp2_with fail
            refine (add_any (itoB o.p) (g + 1) v (1 + j) (nmB (k : Int) :: fs) w2 (HV.out.frame hf2 (fun h => h)) (ownsRow_frame HOWN.out hf2 (fun _ _ h => h)) HNE.out HLN.out).mono ?_
            rintro e w3 hadd
            have hre := hadd.1
            subst hre
            have hI2 := HST.out w2 w3 _ _ (.slice (some ⟨g + 2, 1, none⟩) (2 : Nat) (2 : Nat)) hf2 (by simp [fieldB]) hadd (fun hc e h3 => by subst e; rfl)
            have HI2 := Lib.hid hI2
            clear hI2 hadd hf2
            go_wp2
            go_roundw
            case rel => exact ⟨j + 1, HLT.out, HI2.out⟩
            case measure => rw [iterPos_of HI2.out.it, HP0.out]; exact HMES.out
          · have hu := H7.out 1 rfl (by decide)
            subst hu
            have q1 := hhd.cell 1 rfl
            clear hx hhd
            go_wp2_with fail
            refine (dputint o.f HO.out.f _ (tabIs_frame HP.out HFR.out)).mono ?_
            rintro e w2 ⟨rfl, hf2⟩
            clear q1
            go_wp2_with fail
            refine (add_any (itoB o.f) (g + 1) v (1 + j) (nmB (k : Int) :: fs) w2 (HV.out.frame hf2 (fun h => h)) (ownsRow_frame HOWN.out hf2 (fun _ _ h => h)) HNE.out HLN.out).mono ?_
            rintro e w3 hadd
            have hre := hadd.1
            subst hre
            have hI2 := HST.out w2 w3 _ _ (.slice (some ⟨g + 2, 2, none⟩) (1 : Nat) (1 : Nat)) hf2 (by simp [fieldB]) hadd (fun hc e h3 => by subst e; rfl)
            have HI2 := Lib.hid hI2
            clear hI2 hadd hf2
            go_wp2
            go_roundw
            case rel => exact ⟨j + 1, HLT.out, HI2.out⟩
            case measure => rw [iterPos_of HI2.out.it, HP0.out]; exact HMES.out
          · have hu := H7.out 2 rfl (by decide)
            subst hu
            have q1 := hhd.cell 2 rfl
            clear hx hhd
            go_wp2_with fail
            refine (dputint o.g HO.out.g _ (tabIs_frame HP.out HFR.out)).mono ?_
            rintro e w2 ⟨rfl, hf2⟩
            clear q1
            go_wp2_with fail
            refine (add_any (itoB o.g) (g + 1) v (1 + j) (nmB (k : Int) :: fs) w2 (HV.out.frame hf2 (fun h => h)) (ownsRow_frame HOWN.out hf2 (fun _ _ h => h)) HNE.out HLN.out).mono ?_
            rintro e w3 hadd
            have hre := hadd.1
            subst hre
            have hI2 := HST.out w2 w3 _ _ (.slice (some ⟨g + 2, 2, none⟩) (0 : Nat) (0 : Nat)) hf2 (by simp [fieldB]) hadd (fun hc e h3 => by subst e; exact absurd h3 (by decide))
            have HI2 := Lib.hid hI2
            clear hI2 hadd hf2
            go_wp2
            go_roundw
            case rel => exact ⟨j + 1, HLT.out, HI2.out⟩
            case measure => rw [iterPos_of HI2.out.it, HP0.out]; exact HMES.out
        · have q1 := hx.cell 7 rfl
          clear hx hhd
          go_wp2_with fail
          refine (dputhex o.x HO.out.x _ (HT.out.frame HFR.out)).mono ?_
          rintro e w2 ⟨rfl, hf2⟩
          clear q1
          go_wp2_with fail
          refine (add_any (digB 16 o.x) (g + 1) v (1 + j) (nmB (k : Int) :: fs) w2 (HV.out.frame hf2 (fun h => h)) (ownsRow_frame HOWN.out hf2 (fun _ _ h => h)) HNE.out HLN.out).mono ?_
          rintro e w3 hadd
          have hre := hadd.1
          subst hre
          have hI2 := HST.out w2 w3 _ _ (u7) hf2 (by simp [fieldB]) hadd (fun hc e h3 => H7.out hc e h3)
          have HI2 := Lib.hid hI2
          clear hI2 hadd hf2
          go_wp2
          go_roundw
          case rel => exact ⟨j + 1, HLT.out, HI2.out⟩
          case measure => rw [iterPos_of HI2.out.it, HP0.out]; exact HMES.out
        · have q1 := hx.cell 7 rfl
          clear hx hhd
          go_wp2_with fail
          refine (dput o.x HO.out.x _ (tabIs_frame HP.out HFR.out)).mono ?_
          rintro e w2 ⟨rfl, hf2⟩
          clear q1
          go_wp2_with fail
          refine (add_any (digB 10 o.x) (g + 1) v (1 + j) (nmB (k : Int) :: fs) w2 (HV.out.frame hf2 (fun h => h)) (ownsRow_frame HOWN.out hf2 (fun _ _ h => h)) HNE.out HLN.out).mono ?_
          rintro e w3 hadd
          have hre := hadd.1
          subst hre
          have hI2 := HST.out w2 w3 _ _ (u7) hf2 (by simp [fieldB]) hadd (fun hc e h3 => H7.out hc e h3)
          have HI2 := Lib.hid hI2
          clear hI2 hadd hf2
          go_wp2
          go_roundw
          case rel => exact ⟨j + 1, HLT.out, HI2.out⟩
          case measure => rw [iterPos_of HI2.out.it, HP0.out]; exact HMES.out
        · have q1 := hx.cell 8 rfl
          clear hx hhd
          go_wp2_with fail
          refine (text_any o.q HO.out.q _ (HT.out.frame HFR.out) (tabIs_frame HP.out HFR.out)).mono ?_
          rintro e w2 ⟨rfl, hf2⟩
          clear q1
          go_wp2_with fail
          refine (add_any (textF o.q) (g + 1) v (1 + j) (nmB (k : Int) :: fs) w2 (HV.out.frame hf2 (fun h => h)) (ownsRow_frame HOWN.out hf2 (fun _ _ h => h)) HNE.out HLN.out).mono ?_
          rintro e w3 hadd
          have hre := hadd.1
          subst hre
          have hI2 := HST.out w2 w3 _ _ (u7) hf2 (by simp [fieldB]) hadd (fun hc e h3 => H7.out hc e h3)
          have HI2 := Lib.hid hI2
          clear hI2 hadd hf2
          go_wp2
          go_roundw
          case rel => exact ⟨j + 1, HLT.out, HI2.out⟩
          case measure => rw [iterPos_of HI2.out.it, HP0.out]; exact HMES.out
      · obtain rfl : j = sh.length := by omega
        have hnx : ∀ ty, (Instr.next (.pointer (some ⟨g + 2 + 1, 0, none⟩)) true ty).run Tryz.prog wr = .ok (.tuple #[.bool false]) wr := fun ty => Lib.run_next_end_at wr _ _ _ ty hI.it (by rw [bytes_size]; omega)
        obtain ⟨v, hv, hown, _⟩ := hI.out
        rw [List.take_length] at hown
        have hv0 := hv.cell 0 rfl
        have hfr := hI.fr
        have hline : Lib.join (nmB (k : Int) :: fieldsO o 0 sh) [32] = lineB o := by rw [join_blank, lineB, HKK.out, HSH.out]
        have HJ := Lib.hid (join_any (nmB (k : Int) :: fieldsO o 0 sh) v (1 + sh.length) wr hown (by simp) (by rw [List.length_cons, fieldsO_len]; have := HLEN.out; omega) (by rw [hline]; exact Nat.le_trans (line_len o HO.out HK.out) (by decide)))
        rw [hline] at HJ
        have HFR := Lib.hid hfr
        clear hline hown hv hfr hI hp0 hlt hj
        go_wp2_with fail
        refine (HJ.out).mono ?_
        rintro e w3 ⟨rfl, hf3⟩
        have hf4 := HFR.out.then hf3
        clear hv0
        go_wp2
        go_ret2
        exact ⟨rfl, hf4⟩
end Go.Proofs.YtlcgmniahdngdaaGreatDoor
