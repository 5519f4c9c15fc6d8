/- The walk of the law ExactCancels. -/
import Derived.Test.YtmllbdiljjimmaaApp
namespace Go.Proofs.Ytmllbdiljjimmaa
open Go.RowKit

theorem blk_news {w : World} {b : Nat} {c : List Value} {t : TypeId} (h : Blk w b c t) : ∀ j u, c[j]? = some u → w.cell? ((⟨b, 0, none⟩ : Addr).add j) = some u := by
  intro j u hj
  have ha : (⟨b, 0, none⟩ : Addr).add j = ⟨b, 0 + j, none⟩ := by unfold Addr.add; split <;> simp_all
  rw [ha, Nat.zero_add]
  exact h.cell j hj
theorem FRow.frame {S : Nat → Prop} {W w w' : World} {v : Value} {fs : List Nat} (h : FRow W v fs w) (hf : Fr S w w') (hn : ∀ i, v.ownBlock = some i → ¬ S i) (hs : ∀ i, S i → W.heap.size ≤ i) : FRow W v fs w' :=
  ⟨ownsRow_frame h.1 hf hn, h.2.1, h.2.2.1, h.2.2.2.trans hf (fun i hi => .inr (hs i hi))⟩
theorem FRow.lt {W w : World} {v : Value} {fs : List Nat} (h : FRow W v fs w) : ∀ i, v.ownBlock = some i → i < w.heap.size := by
  intro i hi
  rcases h.1.2 with ⟨rfl, _⟩ | ⟨g, cap, cur, rfl, _, hg, _⟩
  · simp [Value.ownBlock] at hi
  · simp only [Value.ownBlock, Option.some.injEq] at hi
    subst hi
    exact (Array.getElem?_eq_some_iff.1 hg).1
theorem FRow.push {W wr w1 : World} {v v' : Value} {xs ys : List Nat} (h : FRow W v xs wr) (hf : Fr (fun k => v.ownBlock = some k) wr w1) (ho : w1.ownsRow 0 26 1 v' (xs.length + ys.length) (fvals xs ++ fvals ys))
    (hg : ∀ g, v'.ownBlock = some g → v.ownBlock = some g ∨ wr.heap.size ≤ g) (hy : ∀ y ∈ ys, y < 18446744073709551616) : FRow W v' (xs ++ ys) w1 := by
  refine ⟨?_, fun i hi => ?_, fun y hm => ?_, h.2.2.2.trans hf (fun i hi => .inr (h.2.1 i hi))⟩
  · rw [List.length_append, show fvals (xs ++ ys) = fvals xs ++ fvals ys by unfold fvals; simp]; exact ho
  · rcases hg i hi with k | k
    · exact h.2.1 i k
    · have := h.2.2.2.size; omega
  · rcases List.mem_append.1 hm with k | k
    · exact h.2.2.1 y k
    · exact hy y k

def CanRel (W : World) (p : Option Addr) (len : Nat) (fs gs : List Nat) (k : Nat) (v : Value) (wr : World) : Prop :=
  FRow W v (fs ++ pairs (gs.take k)) wr ∧ Flts wr p len gs ∧ (∀ b off, p = some ⟨b, off, none⟩ → v.ownBlock ≠ some b)

set_option maxRecDepth 100000 in
set_option maxHeartbeats 3200000 in
theorem ExactCancels_any (p1 p2 : Option Addr) (len1 len2 cap1 cap2 : Nat) (fs gs : List Nat) (W : World) (h1 : Words W p1 len1 fs) (h2 : Words W p2 len2 gs) :
    Calls Try.prog 3 #[.slice p1 len1 cap1, .slice p2 len2 cap2] W (LawPost W) := by
  have HLIVE := Lib.hid lives_any
  by_cases h60 : 100 < len1
  · have d1 : decide ((100 : Int) < (len1 : Int)) = true := by rw [decide_eq_true_eq]; omega
    clear h1 h2 h60
    go_enter Try.func3, Try.ntmps3
    go_wp2_with fail
    refine (HLIVE.out W).mono ?_
    rintro e w1 ⟨rfl, hf⟩
    have HF := Lib.hid hf
    clear hf
    go_wp2
    go_ret
    exact ⟨rfl, HF.out⟩
  have d1 : decide ((100 : Int) < (len1 : Int)) = false := by rw [decide_eq_false_iff_not]; omega
  by_cases h61 : 100 < len2
  · have d2 : decide ((100 : Int) < (len2 : Int)) = true := by rw [decide_eq_true_eq]; omega
    clear h1 h2 h60 h61
    go_enter Try.func3, Try.ntmps3
    go_wp2_with fail
    refine (HLIVE.out W).mono ?_
    rintro e w1 ⟨rfl, hf⟩
    have HF := Lib.hid hf
    clear hf
    go_wp2
    go_ret
    exact ⟨rfl, HF.out⟩
  have d2 : decide ((100 : Int) < (len2 : Int)) = false := by rw [decide_eq_false_iff_not]; omega
  have hfl1 := h1.len
  have hfl2 := h2.len
  obtain ⟨i0, hi, hz0, hz1, hz2⟩ := info_parts info_float
  have HFL1 := Lib.hid (floats_any p1 len1 cap1 fs W h1.1 h1.2 (by omega))
  have HFL2 : Hid (∀ w, Fr (fun _ => False) W w → Calls Try.prog 16 #[.slice p2 len2 cap2] w (FloatsPost w gs)) := fun w hf => floats_any p2 len2 cap2 gs w (h2.frame hf).1 h2.2 (by omega)
  have HO1 : Hid (∀ w q c, Flts w q len1 fs → Calls Try.prog 17 #[.slice q len1 c] w (FPost w (Got.of fs).whole)) := fun w q c k => ofs_any q len1 c fs w k (by omega)
  have hn : (fs ++ pairs gs).length ≤ 300 := by rw [List.length_append]; have := pairs_len gs; omega
  have HO2 : Hid (∀ w q c, Flts w q (fs ++ pairs gs).length (fs ++ pairs gs) → Calls Try.prog 17 #[.slice q (fs ++ pairs gs).length c] w (FPost w (Got.of (fs ++ pairs gs)).whole)) := fun w q c k => ofs_any q _ c _ w k (by omega)
  have hcw := cancel_whole fs gs h1.2 h2.2
  have hk1 : Hid (∀ w, Calls Try.prog 18 #[.float .f64 (Got.of fs).whole] w fun e w' => e = .returned (.int .i64 (kindF (Got.of fs).whole : Int)) ∧ w = w') := fun w => kind_any _ (whole_lt _) w
  have hk2 : Hid (∀ w, Calls Try.prog 18 #[.float .f64 (Got.of (fs ++ pairs gs)).whole] w fun e w' => e = .returned (.int .i64 (kindF (Got.of (fs ++ pairs gs)).whole : Int)) ∧ w = w') := fun w => kind_any _ (whole_lt _) w
  generalize (Got.of fs).whole = V1 at *
  generalize (Got.of (fs ++ pairs gs)).whole = V2 at *
  have HSAME := Lib.hid (same_any V2 V1)
  have HG2 := Lib.hid h2.2
  have HCW := Lib.hid hcw
  have hi2 : (len2 : Int) ≤ 100 := by omega
  have HN : Hid (len1 ≤ 100 ∧ len2 ≤ 100) := ⟨by omega, by omega⟩
  clear h1 h2 h60 h61 hcw
  go_enter Try.func3, Try.ntmps3
  go_wp2_with fail
  refine (HFL1.out).mono ?_
  rintro e w1 ⟨v1, rfl, hr1⟩
  obtain ⟨q1, c1, rfl, hx1, _⟩ := flts_of_row hr1
  rw [hfl1] at hx1
  rw [hfl1] at hr1 ⊢
  have HX1 := Lib.hid hx1
  have HR1 := Lib.hid hr1
  clear hx1 hr1 HFL1
  go_wp2_with fail
  refine (HO1.out w1 _ _ HX1.out).mono ?_
  rintro e w2 ⟨rfl, hf2⟩
  have HR2 := Lib.hid (HR1.out.frame hf2 (fun _ _ h => h) (fun _ h => h.elim))
  clear hf2 HR1 HX1 HO1
  go_wp2_with fail
  refine (HFL2.out w2 HR2.out.2.2.2).mono ?_
  rintro e w3 ⟨v2, rfl, hr3⟩
  obtain ⟨q2, c2, rfl, hx2, hw2⟩ := flts_of_row hr3
  rw [hfl2] at hx2 ⊢
  have HREL : Hid (CanRel W q2 len2 fs gs 0 (.slice q1 len1 c1) w3) := by
    refine ⟨?_, hx2, fun b off e hb => ?_⟩
    · rw [List.take_zero, pairs, List.append_nil]
      exact HR2.out.frame hr3.2.2.2 (fun _ _ h => h) (fun _ h => h.elim)
    · have hlt := HR2.out.lt b hb
      rcases hw2 with h | ⟨g, h, hg⟩
      · rw [h] at e; cases e
      · rw [h] at e; cases e; omega
  clear hr3 hx2 hw2 HFL2 HR2
  go_wp2_with fail
  go_loopw [5, 26] (fun v i wr => ∃ k : Nat, k ≤ len2 ∧ i = .int .i64 (k : Int) ∧ Hid (CanRel W q2 len2 fs gs k v wr)) (fun _ i _ => len2 - (intOf i).toNat)
  case atStart => exact ⟨0, by omega, rfl, HREL⟩
  case round =>
    clear HREL
    obtain ⟨k, hk, rfl, hr⟩ := hrel
    by_cases hlt : k < len2
    · obtain ⟨hrow, hfl, hne⟩ := hr.out
      obtain ⟨pb, off, f, rfl, hx, hfl3, hc⟩ := hfl.2 k hlt
      have hpt := pairs_take hx
      have hk2 : (k : Int) < len2 := by omega
      have hkk := kind_any f hfl3
      obtain ⟨q, qc, rfl⟩ := ownsRow_shape hrow.1
      by_cases hkd : kindF f < 3
      · have hpt : fs ++ pairs (gs.take (k + 1)) = (fs ++ pairs (gs.take k)) ++ [f, flipF f] := by rw [hpt, if_pos hkd, List.append_assoc]
        have e4 : ((kindF f : Int) == 4) = false := by rw [beq_eq_false_iff_ne]; omega
        have e3 : ((kindF f : Int) == 3) = false := by rw [beq_eq_false_iff_ne]; omega
        have hng := fun w => run_neg_float (P := Try.prog) f w
        have hfl4 := (flip_neg hfl3).1
        have hlen : (fs ++ pairs (gs.take k)).length ≤ 300 := by
          have := HN.out
          have := pairs_len (gs.take k)
          have := List.length_take (i := k) (l := gs)
          rw [List.length_append]; omega
        have HKK := Lib.hid hkk
        have HROW := Lib.hid hrow
        have HFLT := Lib.hid hfl
        have HNE := Lib.hid hne
        have HPT := Lib.hid hpt
        have HL := Lib.hid hlen
        have HLL : Hid (∀ y ∈ [f, flipF f], y < 18446744073709551616) := fun y hy => by
          rcases List.mem_cons.1 hy with rfl | hy
          · exact hfl3
          · rw [List.mem_singleton] at hy; rw [hy]; exact hfl4
        have ho := hrow.1
        clear hkk hrow hfl hne hpt hr hkd hx hfl3 hfl4 HO2 HCW hk2 hk1 hlen hn
        generalize (fs ++ pairs (gs.take k)) = xs at *
        generalize flipF f = ff at *
        go_wp2_with fail
        refine (HKK.out wr).mono ?_
        rintro e w' ⟨rfl, rfl⟩
        go_wp2_with fail
        refine (HKK.out wr).mono ?_
        rintro e w' ⟨rfl, rfl⟩
        go_wp2_with (at_builtin; refine Hid.out ?_)
        unfold Hid
        have hf0 : Fr (fun _ => False) wr (wr.alloc (.cells #[.float .f64 f, .float .f64 ff] 26)) := (Fr.refl (fun _ => False) wr).alloc _
        have hlb := HL.out
        refine wpList_append_some rfl _ _ 24 rfl 26 i0 (.float .f64 0) 8 Try.underlying24 hi hz0 hz1 hz2 rfl (.slice q xs.length qc) xs.length (fvals xs) rfl (ownsRow_frame ho hf0 (fun _ _ h => h)) ⟨wr.heap.size, 0, none⟩ 2 2 [.float .f64 f, .float .f64 ff] rfl rfl (blk_news (Blk.new wr [.float .f64 f, .float .f64 ff] 26)) (by intro u hu; simp at hu; rcases hu with rfl | rfl <;> rfl) (.inl (by decide)) (by unfold maxLen; omega) (by omega) ?_
        intro g cap' w1 ho1 hf1 hg1
        have hrel1 : CanRel W (some ⟨pb, off, none⟩) len2 fs gs (k + 1) (.slice (some ⟨g, 0, none⟩) (xs.length + 2) cap') w1 := by
          have hfl5 := HFLT.out.frame hf0 (fun _ _ _ h => h)
          have hnew : ∀ i, (Value.slice q xs.length qc).ownBlock = some i → i ≠ pb := fun i hi e => HNE.out pb off rfl (by rw [hi, e])
          refine ⟨?_, hfl5.frame hf1 (fun b o e hb => ?_), fun b o e hb => ?_⟩
          · rw [HPT.out]
            have hr0 := HROW.out.frame hf0 (fun _ _ h => h) (fun _ h => h.elim)
            exact hr0.push hf1 ho1 (fun g' e => by simp only [Value.ownBlock, Option.some.injEq] at e; subst e; exact hg1) HLL.out
          · cases e
            exact hnew _ hb rfl
          · cases e
            simp only [Value.ownBlock, Option.some.injEq] at hb
            subst hb
            rcases hg1 with h | h
            · exact hnew _ h rfl
            · obtain ⟨b2, o2, x2, e2, _, _, hc2⟩ := hfl5.2 k (by omega)
              cases e2
              have := cell_lt hc2
              simp only at this
              omega
        have HREL := Lib.hid hrel1
        clear ho1 hf1 hg1 ho hf0 hrel1 HROW HFLT HNE
        go_wp2
        go_roundw
        case rel => exact ⟨k + 1, by omega, by go_num, HREL⟩
        case measure => simp [intOf]; omega
      · rw [if_neg hkd, List.append_nil] at hpt
        have hrel1 : CanRel W (some ⟨pb, off, none⟩) len2 fs gs (k + 1) (.slice q (fs ++ pairs (gs.take k)).length qc) wr := by
          refine ⟨?_, hfl, hne⟩
          rw [hpt]; exact hrow
        have HREL := Lib.hid hrel1
        have HKK := Lib.hid hkk
        have hke : kindF f = 3 ∨ kindF f = 4 := by have := kind_le f; omega
        clear hpt hkk hrow hne hfl hx hrel1 hr hkd hn HO2 HCW hk2 hk1
        generalize (fs ++ pairs (gs.take k)).length = m at *
        rcases hke with hke | hke
        · rw [hke] at HKK
          go_wp2_with fail
          refine (HKK.out wr).mono ?_
          rintro e w' ⟨rfl, rfl⟩
          go_wp2_with fail
          refine (HKK.out wr).mono ?_
          rintro e w' ⟨rfl, rfl⟩
          go_wp2
          go_roundw
          case rel => exact ⟨k + 1, by omega, by go_num, HREL⟩
          case measure => simp [intOf]; omega
        · rw [hke] at HKK
          go_wp2_with fail
          refine (HKK.out wr).mono ?_
          rintro e w' ⟨rfl, rfl⟩
          go_wp2
          go_roundw
          case rel => exact ⟨k + 1, by omega, by go_num, HREL⟩
          case measure => simp [intOf]; omega
    · obtain rfl : k = len2 := by omega
      obtain ⟨hrow, hfl, hne⟩ := hr.out
      rw [List.take_of_length_le (by omega)] at hrow
      obtain ⟨q, c, rfl, hx, _⟩ := flts_of_row hrow
      have HF := Lib.hid hrow.2.2.2
      have HX := Lib.hid hx
      clear hrow hfl hne hr hx
      generalize (fs ++ pairs gs) = xs at *
      have hlb : (xs.length : Int) ≤ 300 := by omega
      clear hn hlt
      go_wp2_with fail
      refine (HO2.out wr q c HX.out).mono ?_
      rintro e w5 ⟨rfl, hf5⟩
      have HF5 := Lib.hid (HF.out.then hf5)
      clear hf5 HO2 HX HF
      go_wp2_with fail
      refine (HSAME.out w5).mono ?_
      rintro e w' ⟨rfl, rfl⟩
      by_cases hq : V2 = V1
      · have hqb : (V2 == V1) = true := by rw [beq_iff_eq]; exact hq
        rw [hqb]
        clear hq hqb HSAME HCW
        go_wp2_with fail
        refine (HLIVE.out _).mono ?_
        rintro e w6 ⟨rfl, hf6⟩
        have HF6 := Lib.hid (HF5.out.then hf6)
        clear hf6
        go_wp2
        go_ret
        exact ⟨rfl, HF6.out⟩
      · have hqb : (V2 == V1) = false := by rw [beq_eq_false_iff_ne]; exact hq
        rw [hqb]
        obtain ⟨z1, z2⟩ := HCW.out.resolve_left hq
        rw [z1] at hk1
        rw [z2] at hk2
        clear hq hqb HSAME HCW z1 z2
        go_wp2_with fail
        refine (hk1.out _).mono ?_
        rintro e w' ⟨rfl, rfl⟩
        go_wp2_with fail
        refine (hk2.out _).mono ?_
        rintro e w' ⟨rfl, rfl⟩
        go_wp2_with fail
        refine (HLIVE.out _).mono ?_
        rintro e w6 ⟨rfl, hf6⟩
        have HF6 := Lib.hid (HF5.out.then hf6)
        clear hf6
        go_wp2
        go_ret
        exact ⟨rfl, HF6.out⟩

theorem ExactCancels_of {a b : Option Addr} {len1 len2 cap1 cap2 : Nat} {z y : List Int} {W : World} (h : Nums .u64 W a len1 z) (hz : ∀ n ∈ z, (Lit.int .u64 n).wf = true) (h2 : Nums .u64 W b len2 y) (hy : ∀ n ∈ y, (Lit.int .u64 n).wf = true) :
    Calls Try.prog 3 #[.slice a len1 cap1, .slice b len2 cap2] W (LawPost W) :=
  ExactCancels_any a b len1 len2 cap1 cap2 _ _ W (words_of h hz) (words_of h2 hy)
end Go.Proofs.Ytmllbdiljjimmaa
