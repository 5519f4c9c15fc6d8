/- The walks of the laws FloatReads, FloatBack. -/
import Derived.Test.YtcmdcclolkgjeaaDoorFRefRead
import Derived.Test.YtcmdcclolkgjeaaDoorFWords
namespace Go.Proofs.YtcmdcclolkgjeaaDoor
open Go.RowKit

theorem num_parts {s : List UInt8} (h1 : s ≠ [110, 97, 110]) (h2 : s ≠ [105, 110, 102]) (h3 : s ≠ [45, 105, 110, 102]) {b : Nat} (ht : textF b = s) :
    kindF b < 3 ∧ Lib.hasPrefix s [45] = negF b ∧ Lib.trimPrefix s [45] = coreF b := by
  have hk : kindF b < 3 := by
    rcases Nat.lt_or_ge (kindF b) 3 with h | h
    · exact h
    · exfalso
      have := kind_le b
      unfold textF at ht
      by_cases h4 : kindF b = 4
      · rw [if_pos h4] at ht; exact h1 ht.symm
      · rw [if_neg h4, if_pos (by omega)] at ht
        cases hn : negF b
        · rw [hn] at ht; exact h2 ht.symm
        · rw [hn] at ht; exact h3 ht.symm
  obtain ⟨g1, g2⟩ := text_parts hk
  rw [ht] at g1 g2
  exact ⟨hk, g1, g2⟩

set_option maxRecDepth 100000 in
theorem read2_any (s : List UInt8) (hs : s.length ≤ 1000) (w : World) : Calls Tryd.prog 30 #[.string (bytesOf s)] w (Read2Post w s) := by
  have b1 := bytes_is s [110, 97, 110]
  have b2 := bytes_is s [105, 110, 102]
  have b3 := bytes_is s [45, 105, 110, 102]
  by_cases h1 : s = [110, 97, 110]
  · have hres : Read2Post w s (.returned (.tuple #[.int .u64 9221120237041090560, .int .i64 0])) w := ⟨Fr.refl _ _, .inl ⟨9221120237041090560, by decide, by rw [h1]; exact text_nan, rfl, rfl⟩⟩
    have HRES := Lib.hid hres
    rw [decide_eq_true h1] at b1
    clear hres b2 b3 h1 hs
    generalize bytesOf s = S at *
    go_enter Tryd.func30, Tryd.ntmps30
    go_wp2
    go_ret2
    exact HRES.out
  by_cases h2 : s = [105, 110, 102]
  · have hres : Read2Post w s (.returned (.tuple #[.int .u64 9218868437227405312, .int .i64 0])) w := ⟨Fr.refl _ _, .inl ⟨9218868437227405312, by decide, by rw [h2]; exact text_inf, rfl, rfl⟩⟩
    have HRES := Lib.hid hres
    rw [decide_eq_true h2] at b2
    rw [decide_eq_false h1] at b1
    clear hres b3 h1 h2 hs
    generalize bytesOf s = S at *
    go_enter Tryd.func30, Tryd.ntmps30
    go_wp2
    go_ret2
    exact HRES.out
  by_cases h3 : s = [45, 105, 110, 102]
  · have hres : Read2Post w s (.returned (.tuple #[.int .u64 18442240474082181120, .int .i64 0])) w := ⟨Fr.refl _ _, .inl ⟨18442240474082181120, by decide, by rw [h3]; exact text_ninf, rfl, rfl⟩⟩
    have HRES := Lib.hid hres
    rw [decide_eq_true h3] at b3
    rw [decide_eq_false h2] at b2
    rw [decide_eq_false h1] at b1
    clear hres h1 h2 h3 hs
    generalize bytesOf s = S at *
    go_enter Tryd.func30, Tryd.ntmps30
    go_wp2
    go_ret2
    exact HRES.out
  clear b1 b2 b3
  cases s with
  | nil => exact read2_nil w
  | cons c s' =>
    by_cases hc : c = 45
    · subst hc
      have hpre : Lib.hasPrefix (45 :: s') [45] = true := by unfold Lib.hasPrefix; simp [List.isPrefixOf]
      refine read2_neg (45 :: s') s' hs h1 h2 h3 ⟨fun b _ ht => ?_, by simp, fun _ => rfl, (fun h => by cases h)⟩ w
      obtain ⟨g1, g2, g3⟩ := num_parts h1 h2 h3 ht
      refine ⟨g1, by rw [← g2, hpre], ?_⟩
      rw [← g3]; unfold Lib.trimPrefix; rw [hpre]; rfl
    · have hpre : Lib.hasPrefix (c :: s') [45] = false := by
        unfold Lib.hasPrefix; simp [List.isPrefixOf]; exact fun h => hc h.symm
      refine read2_pos (c :: s') hs h1 h2 h3 ⟨fun b _ ht => ?_, Nat.le_refl _, (fun h => by cases h), fun _ => rfl⟩ ⟨c, s', rfl, hc⟩ w
      obtain ⟨g1, g2, g3⟩ := num_parts h1 h2 h3 ht
      refine ⟨g1, by rw [← g2, hpre], ?_⟩
      rw [← g3]; unfold Lib.trimPrefix; rw [hpre]; rfl

set_option maxRecDepth 100000 in
set_option maxHeartbeats 1600000 in
theorem FloatReads_any (a : Nat) (ha : a < 18446744073709551616) (s : List UInt8) (W : World) (hT : TabD W) (hP : Lib.TabIs Tryd.prog W "internal/strconv.uint64pow10" .u64 Lib.pow10Tab) (hE : ErrW W) :
    Calls Tryd.prog 8 #[.int .u64 (a : Int), .string (bytesOf s)] W (LawPost W) := by
  have HL := Lib.hid (fun w' (hf : Fr (fun _ => False) W w') => lives_any w' (hT.frame hf) (tabIs_frame hP hf))
  have hsz : (bytesOf s).size = s.length := bytes_size s
  by_cases hl : 1000 < s.length
  · generalize bytesOf s = S at *
    clear hT hP hE
    go_enter Tryd.func8, Tryd.ntmps8
    go_wp2_with fail
    refine (HL.out W (Fr.refl _ W)).mono ?_
    rintro e w1 ⟨rfl, hf⟩
    have HF := Lib.hid hf
    clear hf
    go_wp2
    go_ret
    exact ⟨rfl, HF.out⟩
  · have HR := Lib.hid (read_any s (by omega) W hT hP hE)
    have HR2 := Lib.hid (fun w => read2_any s (by omega) w)
    have HOF := Lib.hid (of_any a)
    have HTX := Lib.hid (fun w' (hf : Fr (fun _ => False) W w') => text_any a ha w' (hT.frame hf) (tabIs_frame hP hf))
    have HT2 := Lib.hid (text2_any a ha)
    have HB := Lib.hid bits_any
    have hTT : ((bytesOf (textF a)).toList == (bytesOf (textF a)).toList) = true := beq_self_eq_true _
    generalize bytesOf (textF a) = T at *
    obtain ⟨S, hS⟩ : ∃ S, bytesOf s = S := ⟨_, rfl⟩
    rw [hS] at hsz HR HR2 ⊢
    clear hT hP hE hS
    go_enter Tryd.func8, Tryd.ntmps8
    go_wp2_with fail
    refine (HR.out).mono ?_
    rintro e w1 ⟨hf1, hres⟩
    have HF1 := Lib.hid hf1
    clear hf1
    rcases hres with ⟨f, hfl, htx, hcn, rfl⟩ | ⟨hbad, rfl⟩
    · go_wp2_with fail
      refine (HR2.out _).mono ?_
      rintro e w2 ⟨hf2, hres⟩
      have HF2 := Lib.hid (HF1.out.then hf2)
      clear hf2
      rcases hres with ⟨g, hgl, htx2, hcn2, rfl⟩ | ⟨hbad, rfl⟩
      · have hfg : f = g := by rw [← hcn, ← hcn2]; exact text_inj hfl hgl (htx.trans htx2.symm)
        subst hfg
        clear hfl htx hcn hgl htx2 hcn2
        have hff : ((f : Int) == (f : Int)) = true := beq_self_eq_true _
        go_wp2_with fail
        refine (HOF.out _).mono ?_
        rintro e w' ⟨rfl, rfl⟩
        go_wp2_with fail
        refine (HTX.out _ HF2.out).mono ?_
        rintro e w3 ⟨rfl, hf3⟩
        have HF3 := Lib.hid (HF2.out.then hf3)
        clear hf3
        go_wp2_with fail
        refine (HT2.out _).mono ?_
        rintro e w4 ⟨rfl, hf4⟩
        have HF4 := Lib.hid (HF3.out.then hf4)
        clear hf4
        go_wp2_with fail
        refine (HB.out _ _).mono ?_
        rintro e w' ⟨rfl, rfl⟩
        go_wp2_with fail
        refine (HL.out _ HF4.out).mono ?_
        rintro e w5 ⟨rfl, hf5⟩
        have HF5 := Lib.hid (HF4.out.then hf5)
        clear hf5
        go_wp2
        go_ret
        exact ⟨rfl, HF5.out⟩
      · exact absurd htx (hbad f hfl)
    · go_wp2_with fail
      refine (HR2.out _).mono ?_
      rintro e w2 ⟨hf2, hres⟩
      have HF2 := Lib.hid (HF1.out.then hf2)
      clear hf2
      rcases hres with ⟨g, hgl, htx2, hcn2, rfl⟩ | ⟨hbad2, rfl⟩
      · exact absurd htx2 (hbad g hgl)
      · clear hbad hbad2
        have HB0 : Hid (∀ w, Calls Tryd.prog 14 #[.float .f64 0] w fun e w' => e = .returned (.int .u64 0) ∧ w = w') := bits_any 0
        go_wp2_with fail
        refine (HOF.out _).mono ?_
        rintro e w' ⟨rfl, rfl⟩
        go_wp2_with fail
        refine (HTX.out _ HF2.out).mono ?_
        rintro e w3 ⟨rfl, hf3⟩
        have HF3 := Lib.hid (HF2.out.then hf3)
        clear hf3
        go_wp2_with fail
        refine (HT2.out _).mono ?_
        rintro e w4 ⟨rfl, hf4⟩
        have HF4 := Lib.hid (HF3.out.then hf4)
        clear hf4
        go_wp2_with fail
        refine (HB0.out _).mono ?_
        rintro e w' ⟨rfl, rfl⟩
        go_wp2_with fail
        refine (HL.out _ HF4.out).mono ?_
        rintro e w5 ⟨rfl, hf5⟩
        have HF5 := Lib.hid (HF4.out.then hf5)
        clear hf5
        go_wp2
        go_ret
        exact ⟨rfl, HF5.out⟩

theorem text_len (a : Nat) : (textF a).length ≤ 1000 := by
  have h1 := digits_le (Nat.lt_trans (odd_lt a) (by decide : (9007199254740992 : Nat) < 18446744073709551616))
  have hx := exp_le a
  have h2 := itoa_le (x := expF a) (by omega)
  have hc : (coreF a).length ≤ 50 := by unfold coreF; rw [List.length_append, List.length_cons]; omega
  unfold textF
  split
  · decide
  · split
    · split <;> decide
    · split
      · rw [List.length_cons]; omega
      · omega
set_option maxRecDepth 100000 in
set_option maxHeartbeats 1600000 in
theorem FloatBack_any (a : Nat) (ha : a < 18446744073709551616) (s : List UInt8) (W : World) (hT : TabD W) (hP : Lib.TabIs Tryd.prog W "internal/strconv.uint64pow10" .u64 Lib.pow10Tab) (hE : ErrW W) :
    Calls Tryd.prog 9 #[.int .u64 (a : Int), .string (bytesOf s)] W (LawPost W) := by
  have HL := Lib.hid (fun w' (hf : Fr (fun _ => False) W w') => lives_any w' (hT.frame hf) (tabIs_frame hP hf))
  have hsz : (bytesOf s).size = s.length := bytes_size s
  by_cases hl : 1000 < s.length
  · generalize bytesOf s = S at *
    clear hT hP hE
    go_enter Tryd.func9, Tryd.ntmps9
    go_wp2_with fail
    refine (HL.out W (Fr.refl _ W)).mono ?_
    rintro e w1 ⟨rfl, hf⟩
    have HF := Lib.hid hf
    clear hf
    go_wp2
    go_ret
    exact ⟨rfl, HF.out⟩
  · have HR := Lib.hid (fun w' (hf : Fr (fun _ => False) W w') => read_any s (by omega) w' (hT.frame hf) (tabIs_frame hP hf) (hE.frame hf))
    have HRT := Lib.hid (fun w' (hf : Fr (fun _ => False) W w') => read_any (textF a) (text_len a) w' (hT.frame hf) (tabIs_frame hP hf) (hE.frame hf))
    have HOF := Lib.hid (of_any a)
    have HTX := Lib.hid (fun b (hb : b < 18446744073709551616) w' (hf : Fr (fun _ => False) W w') => text_any b hb w' (hT.frame hf) (tabIs_frame hP hf))
    have HCN := Lib.hid (fun w => canon_any a w ha)
    have HSM := Lib.hid (same_any (canonF a) (canonF a))
    rw [beq_self_eq_true] at HSM
    have hSS : ((bytesOf s).toList == (bytesOf s).toList) = true := beq_self_eq_true _
    obtain ⟨S, hS⟩ : ∃ S, bytesOf s = S := ⟨_, rfl⟩
    rw [hS] at hsz HR hSS ⊢
    have HS := Lib.hid hS
    clear hT hP hE hS
    go_enter Tryd.func9, Tryd.ntmps9
    go_wp2_with fail
    refine (HOF.out _).mono ?_
    rintro e w' ⟨rfl, rfl⟩
    go_wp2_with fail
    refine (HTX.out a ha _ (Fr.refl _ _)).mono ?_
    rintro e w1 ⟨rfl, hf1⟩
    have HF1 := Lib.hid hf1
    clear hf1
    go_wp2_with fail
    refine (HRT.out _ HF1.out).mono ?_
    rintro e w2 ⟨hf2, hres⟩
    have HF2 := Lib.hid (HF1.out.then hf2)
    clear hf2
    rcases hres with ⟨f, hfl, htx, hcn, rfl⟩ | ⟨hbad, rfl⟩
    · have hfa : f = canonF a := by rw [← hcn]; exact text_inj hfl ha htx
      subst hfa
      clear hfl htx hcn HRT
      generalize canonF a = C at *
      go_wp2_with fail
      refine (HOF.out _).mono ?_
      rintro e w' ⟨rfl, rfl⟩
      go_wp2_with fail
      refine (HCN.out _).mono ?_
      rintro e w' ⟨rfl, rfl⟩
      go_wp2_with fail
      refine (HSM.out _).mono ?_
      rintro e w' ⟨rfl, rfl⟩
      go_wp2_with fail
      refine (HR.out _ HF2.out).mono ?_
      rintro e w3 ⟨hf3, hres⟩
      have HF3 := Lib.hid (HF2.out.then hf3)
      clear hf3
      rcases hres with ⟨g, hgl, htg, hcg, rfl⟩ | ⟨hbad, rfl⟩
      · have HTG := HTX.out g hgl
        rw [htg, HS.out] at HTG
        have HTG := Lib.hid HTG
        clear htg hcg hgl
        go_wp2_with fail
        refine (HTG.out _ HF3.out).mono ?_
        rintro e w4 ⟨rfl, hf4⟩
        have HF4 := Lib.hid (HF3.out.then hf4)
        clear hf4
        go_wp2_with fail
        refine (HL.out _ HF4.out).mono ?_
        rintro e w5 ⟨rfl, hf5⟩
        have HF5 := Lib.hid (HF4.out.then hf5)
        clear hf5
        go_wp2
        go_ret
        exact ⟨rfl, HF5.out⟩
      · clear hbad
        go_wp2_with fail
        refine (HL.out _ HF3.out).mono ?_
        rintro e w5 ⟨rfl, hf5⟩
        have HF5 := Lib.hid (HF3.out.then hf5)
        clear hf5
        go_wp2
        go_ret
        exact ⟨rfl, HF5.out⟩
    · exact absurd rfl (hbad a ha)

theorem bytes_self (s : ByteArray) : bytesOf s.data.toList = s := rfl
theorem FloatReads_of {a : Int} (w0 : (Lit.int .u64 a).wf = true) (s : ByteArray) (W : World) (hL : laidMetH Tryd.prog Rows.floatReadsRow.laid W) :
    Calls Tryd.prog 8 #[.int .u64 a, .string s] W (LawPost W) := by
  obtain ⟨x, rfl, hx⟩ := u64_nat w0
  obtain ⟨hT, hP⟩ := tabs_of_laid5 hL
  exact FloatReads_any x hx s.data.toList W hT hP (errw_of hL)
theorem FloatBack_of {a : Int} (w0 : (Lit.int .u64 a).wf = true) (s : ByteArray) (W : World) (hL : laidMetH Tryd.prog Rows.floatReadsRow.laid W) :
    Calls Tryd.prog 9 #[.int .u64 a, .string s] W (LawPost W) := by
  obtain ⟨x, rfl, hx⟩ := u64_nat w0
  obtain ⟨hT, hP⟩ := tabs_of_laid5 hL
  exact FloatBack_any x hx s.data.toList W hT hP (errw_of hL)
end Go.Proofs.YtcmdcclolkgjeaaDoor
