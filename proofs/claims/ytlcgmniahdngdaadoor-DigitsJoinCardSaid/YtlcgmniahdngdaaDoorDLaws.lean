/- The walks of the laws DigitsReads, DigitsBack. -/
import Derived.Test.YtlcgmniahdngdaaDoorDPut
namespace Go.Proofs.YtlcgmniahdngdaaDoor
open Go.RowKit

def LawPost (w : World) (e : Ending) (w' : World) : Prop := e = .returned (.bool true) ∧ Fr (fun _ => False) w w'
theorem head_dig {c : UInt8} {r : List UInt8} {u : Nat} (h : digB 10 u = c :: r) : c ≠ 45 := by
  have := (digB_facts 10 (by decide) (by decide) u).1 c (by rw [h]; exact List.mem_cons_self)
  rintro rfl
  revert this; decide
theorem pre_dig (u : Nat) : Lib.hasPrefix (digB 10 u) [45] = false := by
  cases h : digB 10 u with
  | nil => exact absurd h (digB_facts 10 (by decide) (by decide) u).2.2.1
  | cons c r =>
    have := head_dig h
    unfold Lib.hasPrefix; simp [List.isPrefixOf]; exact fun h => this h.symm
theorem pre_neg (l : List UInt8) : Lib.hasPrefix (45 :: l) [45] = true ∧ Lib.trimPrefix (45 :: l) [45] = l := by
  have h : Lib.hasPrefix (45 :: l) [45] = true := by unfold Lib.hasPrefix; simp [List.isPrefixOf]
  exact ⟨h, by unfold Lib.trimPrefix; rw [h]; rfl⟩
theorem int_read {x : Int} (hx : -9223372036854775808 ≤ x ∧ x ≤ 9223372036854775807) : intN (itoB x) = x ∧ intE (itoB x) = 0 := by
  unfold intN intE
  rcases Int.lt_or_le x 0 with h0 | h0
  · obtain ⟨u, rfl⟩ : ∃ u : Nat, x = -(u : Int) := ⟨x.natAbs, by omega⟩
    have hi : itoB (-(u : Int)) = 45 :: digB 10 u := by unfold itoB; rw [if_pos h0, Int.natAbs_neg, Int.natAbs_natCast]
    obtain ⟨h1, h2⟩ := read_dig 10 (by decide) (by decide) (u := u) (by omega)
    rw [hi, (pre_neg _).1, (pre_neg _).2, h1, h2, if_pos rfl, if_pos ⟨rfl, by omega, by omega⟩, if_pos rfl, if_pos rfl, if_neg (by omega), if_pos (by omega)]
    exact ⟨rfl, rfl⟩
  · obtain ⟨u, rfl⟩ : ∃ u : Nat, x = (u : Int) := ⟨x.toNat, by omega⟩
    have hi : itoB (u : Int) = digB 10 u := by unfold itoB; rw [if_neg (by omega), Int.natAbs_natCast]
    obtain ⟨h1, h2⟩ := read_dig 10 (by decide) (by decide) (u := u) (by omega)
    rw [hi, pre_dig, h1, h2, if_neg Bool.false_ne_true, if_neg Bool.false_ne_true, if_pos ⟨rfl, by omega⟩, if_pos rfl, if_pos (by omega)]
    exact ⟨rfl, rfl⟩
theorem pre_cut {l : List UInt8} (h : Lib.hasPrefix l [45] = true) : l = 45 :: Lib.trimPrefix l [45] := by
  cases l with
  | nil => cases h
  | cons c r =>
    have hc : c = 45 := by
      unfold Lib.hasPrefix at h
      simp [List.isPrefixOf] at h
      exact h.symm
    subst hc
    rw [(pre_neg r).2]
theorem int_back {l : List UInt8} (h : intE l = 0) : itoB (intN l) = l ∧ -9223372036854775808 ≤ intN l ∧ intN l ≤ 9223372036854775807 := by
  have hw := int_way l
  rw [h] at hw
  unfold IntWay at hw
  rcases hw with ⟨_, _, h3⟩ | ⟨_, _, _, _, h3⟩ | ⟨_, _, _, h3⟩ | ⟨h1, hp, _, h4, h5, h6, _⟩ | ⟨h1, hp, _, h4, h6, _⟩ | ⟨_, _, _, _, _, h3⟩ | ⟨h1, hp, h4, h6, _⟩ | ⟨_, _, _, _, h3⟩
  · cases h3
  · cases h3
  · cases h3
  · have hd := (dig_read 10 (by decide) (by decide) (by omega : readE 10 (Lib.trimPrefix l [45]) = 0)).1
    refine ⟨?_, by omega, by omega⟩
    rw [h6]
    unfold itoB
    rw [if_pos (by omega), Int.natAbs_neg, Int.natAbs_natCast, hd]
    exact (pre_cut hp).symm
  · have hd := (dig_read 10 (by decide) (by decide) (by omega : readE 10 (Lib.trimPrefix l [45]) = 0)).1
    refine ⟨?_, by omega, by omega⟩
    have h7 : intN l = -(readN 10 (Lib.trimPrefix l [45]) : Int) := by omega
    rw [h7]
    unfold itoB
    rw [if_pos (by omega), Int.natAbs_neg, Int.natAbs_natCast, hd]
    exact (pre_cut hp).symm
  · cases h3
  · have hd := (dig_read 10 (by decide) (by decide) (by omega : readE 10 (Lib.trimPrefix l [45]) = 0)).1
    rw [trim_none hp] at hd h6 h4
    refine ⟨?_, by omega, by omega⟩
    rw [h6]
    unfold itoB
    rw [if_neg (by omega), Int.natAbs_natCast, hd]
  · cases h3
theorem ex_int : intN [45, 48] = 0 ∧ intE [45, 48] = 2 := by
  have h0 : digB 10 0 = [48] := by rw [digB_small (by decide)]; rfl
  obtain ⟨h1, h2⟩ := read_dig 10 (by decide) (by decide) (u := 0) (by decide)
  rw [h0] at h1 h2
  unfold intN intE
  rw [(pre_neg _).1, (pre_neg _).2, h1, h2]
  exact ⟨rfl, rfl⟩
theorem ex_put : itoB (-9223372036854775808) = [45, 57, 50, 50, 51, 51, 55, 50, 48, 51, 54, 56, 53, 52, 55, 55, 53, 56, 48, 56] := by
  rw [← itoa_itoB]
  have := Lib.itoa_neg 9223372036854775808 (by decide)
  rw [show (-9223372036854775808 : Int) = -((9223372036854775808 : Nat) : Int) by rfl, this]
  simp [Lib.decDigits]

set_option maxRecDepth 100000 in
theorem lives_any (w : World) (hE : ErrW w) (hP : Lib.TabIs Tryd.prog w "internal/strconv.uint64pow10" .u64 Lib.pow10Tab) : Calls Tryd.prog 7 #[] w (LawPost w) := by
  have h1 := readint_any [45, 48] (by decide) w hE
  unfold RiPost at h1
  rw [ex_int.1, ex_int.2] at h1
  have H1 : Hid (Calls Tryd.prog 10 #[.string ⟨#[45, 48]⟩] w fun e w' => e = .returned (.tuple #[.int .i64 0, .int .i64 2]) ∧ Fr (fun _ => False) w w') := h1
  have H2 : Hid (∀ w', Fr (fun _ => False) w w' → Calls Tryd.prog 15 #[.int .i64 (-9223372036854775808)] w' fun e w'' => e = .returned (.string ⟨#[45, 57, 50, 50, 51, 51, 55, 50, 48, 51, 54, 56, 53, 52, 55, 55, 53, 56, 48, 56]⟩) ∧ Fr (fun _ => False) w' w'') := fun w' hf => by
    have := dputint (-9223372036854775808) (by decide) w' (tabIs_frame hP hf)
    unfold StrIs at this
    rw [ex_put] at this
    exact this
  clear h1 hE hP
  go_enter Tryd.func7, Tryd.ntmps7
  go_wp2_with fail
  refine (H1.out).mono ?_
  rintro e w1 ⟨rfl, hf⟩
  have HF := Lib.hid hf
  clear hf
  go_wp2_with fail
  refine (H2.out _ HF.out).mono ?_
  rintro e w2 ⟨rfl, hf2⟩
  have HF2 := Lib.hid (HF.out.then hf2)
  clear hf2
  go_wp2
  go_ret
  exact ⟨rfl, HF2.out⟩

theorem bytes_self (s : ByteArray) : bytesOf s.data.toList = s := rfl
theorem gTab : Tryd.prog.globalNamed "math/bits.deBruijn64tab" = some 7 := by kernel_rfl
theorem tTab : (Tryd.prog.globals[7]?).map (·.type) = some 109 := by kernel_rfl
theorem gPow : Tryd.prog.globalNamed "internal/strconv.uint64pow10" = some 2 := by kernel_rfl
theorem tPow : (Tryd.prog.globals[2]?).map (·.type) = some 92 := by kernel_rfl
/-- What the condition gives the walks. -/
theorem tab64_of {W : World} (h : laidMetH Tryd.prog [("math/bits.deBruijn64tab", Rows.laid_math_bits_deBruijn64tab)] W) : TabD W := by
  rw [MakeChecks.laidMetH_plain _ _ _ (by kernel_rfl)] at h
  obtain ⟨ps, ⟨g0, t0, cs0, f0, p0, q0, hg0, ht0, hv0, hd0, _⟩, _⟩ := h
  obtain rfl := Option.some.inj (gTab.symm.trans hg0)
  obtain rfl := Option.some.inj (tTab.symm.trans ht0)
  have hc := Lib.cells_of_tab (k := .u8) (zs := tabD.map Int.ofNat) Tryd.underlying109 Tryd.underlying5 (by kernel_rfl) (by kernel_rfl) hd0
  intro i k hi
  have := World.var?_cell hg0 hv0 i
  rw [this, ← Array.getElem?_toList, hc]
  simp [hi]
theorem tabPow_of {W : World} (h : laidMetH Tryd.prog [("internal/strconv.uint64pow10", Rows.laid_internal_strconv_uint64pow10)] W) : Lib.TabIs Tryd.prog W "internal/strconv.uint64pow10" .u64 Lib.pow10Tab := by
  rw [MakeChecks.laidMetH_plain _ _ _ (by kernel_rfl)] at h
  exact Lib.tabIs_of_head gPow tPow Tryd.underlying92 Tryd.underlying23 (by kernel_rfl) (by kernel_rfl) h
theorem tabs_of {W : World} (h : laidMetH Tryd.prog Rows.digitsReadsRow.laid W) : TabD W ∧ Lib.TabIs Tryd.prog W "internal/strconv.uint64pow10" .u64 Lib.pow10Tab :=
  ⟨tab64_of (h.filter (fun x => x.1 == "math/bits.deBruijn64tab")), tabPow_of (h.filter (fun x => x.1 == "internal/strconv.uint64pow10"))⟩

set_option maxRecDepth 100000 in
set_option maxHeartbeats 1600000 in
theorem DigitsReads_any (l : List UInt8) (W : World) (hE : ErrW W) (hP : Lib.TabIs Tryd.prog W "internal/strconv.uint64pow10" .u64 Lib.pow10Tab) : Calls Tryd.prog 3 #[.string (bytesOf l)] W (LawPost W) := by
  have HL := Lib.hid (fun w' (hf : Fr (fun _ => False) W w') => lives_any w' (hE.frame hf) (tabIs_frame hP hf))
  have hsz : (bytesOf l).size = l.length := bytes_size l
  by_cases hl : 300 < l.length
  · generalize bytesOf l = S at *
    clear hE hP
    go_enter Tryd.func3, Tryd.ntmps3
    go_wp2_with fail
    refine (HL.out W (Fr.refl _ W)).mono ?_
    rintro e w1 ⟨rfl, hf⟩
    have HF := Lib.hid hf
    clear hf
    go_wp2
    go_ret
    exact ⟨rfl, HF.out⟩
  · have H1 := Lib.hid (read10 l (by omega) W hE)
    have H2 := Lib.hid (rread l (by omega))
    have H3 := Lib.hid (fun w' (hf : Fr (fun _ => False) W w') => readint_any l (by omega) w' (hE.frame hf))
    have H4 := Lib.hid (rreadint l (by omega))
    have H5 := Lib.hid (fun w' (hf : Fr (fun _ => False) W w') => read16 l (by omega) w' (hE.frame hf))
    have H6 := Lib.hid (rreadhex l (by omega))
    unfold RdPost RiPost at *
    obtain ⟨a1, h1⟩ : ∃ a, (readN 10 l : Int) = a := ⟨_, rfl⟩
    obtain ⟨a2, h2⟩ : ∃ a, (readE 10 l : Int) = a := ⟨_, rfl⟩
    obtain ⟨a3, h3⟩ : ∃ a, intN l = a := ⟨_, rfl⟩
    obtain ⟨a4, h4⟩ : ∃ a, (intE l : Int) = a := ⟨_, rfl⟩
    obtain ⟨a5, h5⟩ : ∃ a, (readN 16 l : Int) = a := ⟨_, rfl⟩
    obtain ⟨a6, h6⟩ : ∃ a, (readE 16 l : Int) = a := ⟨_, rfl⟩
    rw [h1, h2] at H1 H2
    rw [h3, h4] at H3 H4
    rw [h5, h6] at H5 H6
    have q1 : (a1 == a1) = true := beq_self_eq_true _
    have q2 : (a2 == a2) = true := beq_self_eq_true _
    have q3 : (a3 == a3) = true := beq_self_eq_true _
    have q4 : (a4 == a4) = true := beq_self_eq_true _
    have q5 : (a5 == a5) = true := beq_self_eq_true _
    have q6 : (a6 == a6) = true := beq_self_eq_true _
    clear hE hP h1 h2 h3 h4 h5 h6
    generalize bytesOf l = S at *
    go_enter Tryd.func3, Tryd.ntmps3
    go_wp2_with fail
    refine (H1.out).mono ?_
    rintro e w1 ⟨rfl, hf⟩
    have HF1 := Lib.hid (hf)
    clear hf
    go_wp2_with fail
    refine (H2.out _).mono ?_
    rintro e w2 ⟨rfl, hf⟩
    have HF2 := Lib.hid (HF1.out.then hf)
    clear hf
    go_wp2_with fail
    refine (H3.out _ HF2.out).mono ?_
    rintro e w3 ⟨rfl, hf⟩
    have HF3 := Lib.hid (HF2.out.then hf)
    clear hf
    go_wp2_with fail
    refine (H4.out _).mono ?_
    rintro e w4 ⟨rfl, hf⟩
    have HF4 := Lib.hid (HF3.out.then hf)
    clear hf
    go_wp2_with fail
    refine (H5.out _ HF4.out).mono ?_
    rintro e w5 ⟨rfl, hf⟩
    have HF5 := Lib.hid (HF4.out.then hf)
    clear hf
    go_wp2_with fail
    refine (H6.out _).mono ?_
    rintro e w6 ⟨rfl, hf⟩
    have HF6 := Lib.hid (HF5.out.then hf)
    clear hf
    go_wp2_with fail
    refine (HL.out _ HF6.out).mono ?_
    rintro e w7 ⟨rfl, hf⟩
    have HF7 := Lib.hid (HF6.out.then hf)
    clear hf
    go_wp2
    go_ret
    exact ⟨rfl, HF7.out⟩
theorem DigitsReads_of (s : ByteArray) (W : World) (hL : laidMetH Tryd.prog Rows.digitsReadsRow.laid W) : Calls Tryd.prog 3 #[.string s] W (LawPost W) :=
  DigitsReads_any s.data.toList W (errw_of hL) (tabs_of hL).2

theorem u64_nat {a : Int} (h : (Lit.int .u64 a).wf = true) : ∃ n : Nat, a = (n : Int) ∧ n < 18446744073709551616 := by
  simp only [Lit.wf, Bool.and_eq_true, decide_eq_true_eq] at h
  have e1 : IntKind.u64.min = 0 := by rfl
  have e2 : IntKind.u64.max = 18446744073709551615 := by rfl
  exact ⟨a.toNat, by omega, by omega⟩
theorem i64_int {a : Int} (h : (Lit.int .i64 a).wf = true) : -9223372036854775808 ≤ a ∧ a ≤ 9223372036854775807 := by
  simp only [Lit.wf, Bool.and_eq_true, decide_eq_true_eq] at h
  have e1 : IntKind.i64.min = -9223372036854775808 := by rfl
  have e2 : IntKind.i64.max = 9223372036854775807 := by rfl
  omega

set_option maxRecDepth 100000 in
set_option maxHeartbeats 6400000 in
theorem DigitsBack_any (n : Nat) (hn : n < 18446744073709551616) (x : Int) (hx : -9223372036854775808 ≤ x ∧ x ≤ 9223372036854775807) (l : List UInt8) (W : World) (hE : ErrW W) (hT : TabD W) (hP : Lib.TabIs Tryd.prog W "internal/strconv.uint64pow10" .u64 Lib.pow10Tab) :
    Calls Tryd.prog 4 #[.int .u64 (n : Int), .int .i64 x, .string (bytesOf l)] W (LawPost W) := by
  have HL := Lib.hid (fun w' (hf : Fr (fun _ => False) W w') => lives_any w' (hE.frame hf) (tabIs_frame hP hf))
  have hsz : (bytesOf l).size = l.length := bytes_size l
  by_cases hl : 300 < l.length
  · generalize bytesOf l = S at *
    clear hE hP hT
    go_enter Tryd.func4, Tryd.ntmps4
    go_wp2_with fail
    refine (HL.out W (Fr.refl _ W)).mono ?_
    rintro e w1 ⟨rfl, hf⟩
    have HF := Lib.hid hf
    clear hf
    go_wp2
    go_ret
    exact ⟨rfl, HF.out⟩
  have HPUT := Lib.hid (fun w' (hf : Fr (fun _ => False) W w') => dput n hn w' (tabIs_frame hP hf))
  have HPI := Lib.hid (fun w' (hf : Fr (fun _ => False) W w') => dputint x hx w' (tabIs_frame hP hf))
  have HPX := Lib.hid (fun w' (hf : Fr (fun _ => False) W w') => dputhex n hn w' (hT.frame hf))
  have HRP := Lib.hid (rput n hn)
  have HRI := Lib.hid (rputint x hx)
  have HRX := Lib.hid (rputhex n hn)
  have l10 : (digB 10 n).length ≤ 20 := digB_len 10 (by decide) 19 n (Nat.lt_of_lt_of_le hn (by decide))
  have l16 : (digB 16 n).length ≤ 16 := hex_len hn
  have li : (itoB x).length ≤ 21 := by
    have := digB_len 10 (by decide) 19 x.natAbs (Nat.lt_of_lt_of_le (by omega : x.natAbs < 18446744073709551616) (by decide))
    unfold itoB; split
    · rw [List.length_cons]; omega
    · omega
  have K1 := Lib.hid (fun w' (hf : Fr (fun _ => False) W w') => read10 (digB 10 n) (by omega) w' (hE.frame hf))
  have K2 := Lib.hid (fun w' (hf : Fr (fun _ => False) W w') => readint_any (itoB x) (by omega) w' (hE.frame hf))
  have K3 := Lib.hid (fun w' (hf : Fr (fun _ => False) W w') => read16 (digB 16 n) (by omega) w' (hE.frame hf))
  have HR1 := Lib.hid (fun w' (hf : Fr (fun _ => False) W w') => read10 l (by omega) w' (hE.frame hf))
  have HR2 := Lib.hid (fun w' (hf : Fr (fun _ => False) W w') => readint_any l (by omega) w' (hE.frame hf))
  have HR3 := Lib.hid (fun w' (hf : Fr (fun _ => False) W w') => read16 l (by omega) w' (hE.frame hf))
  have P1 : Hid (readE 10 l = 0 → ∀ w', Fr (fun _ => False) W w' → Calls Tryd.prog 14 #[.int .u64 (readN 10 l : Int)] w' (StrIs w' l)) := fun h w' hf => by
    obtain ⟨h1, h2⟩ := dig_read 10 (by decide) (by decide) h
    have := dput (readN 10 l) h2 w' (tabIs_frame hP hf)
    rwa [h1] at this
  have P2 : Hid (intE l = 0 → ∀ w', Fr (fun _ => False) W w' → Calls Tryd.prog 15 #[.int .i64 (intN l)] w' (StrIs w' l)) := fun h w' hf => by
    obtain ⟨h1, h2⟩ := int_back h
    have := dputint (intN l) h2 w' (tabIs_frame hP hf)
    rwa [h1] at this
  have P3 : Hid (readE 16 l = 0 → ∀ w', Fr (fun _ => False) W w' → Calls Tryd.prog 16 #[.int .u64 (readN 16 l : Int)] w' (StrIs w' l)) := fun h w' hf => by
    obtain ⟨h1, h2⟩ := dig_read 16 (by decide) (by decide) h
    have := dputhex (readN 16 l) h2 w' (hT.frame hf)
    rwa [h1] at this
  obtain ⟨r1, r2⟩ := read_dig 10 (by decide) (by decide) hn
  obtain ⟨r3, r4⟩ := int_read hx
  obtain ⟨r5, r6⟩ := read_dig 16 (by decide) (by decide) hn
  unfold RdPost RiPost StrIs at *
  rw [r1, r2] at K1
  rw [r3, r4] at K2
  rw [r5, r6] at K3
  change Hid (∀ w', Fr (fun _ => False) W w' → Calls _ _ _ w' fun e w'' => e = .returned (.tuple #[.int .u64 (n : Int), .int .i64 0]) ∧ Fr (fun _ => False) w' w'') at K1
  change Hid (∀ w', Fr (fun _ => False) W w' → Calls _ _ _ w' fun e w'' => e = .returned (.tuple #[.int .i64 x, .int .i64 0]) ∧ Fr (fun _ => False) w' w'') at K2
  change Hid (∀ w', Fr (fun _ => False) W w' → Calls _ _ _ w' fun e w'' => e = .returned (.tuple #[.int .u64 (n : Int), .int .i64 0]) ∧ Fr (fun _ => False) w' w'') at K3
  clear r1 r2 r3 r4 r5 r6 l10 l16 li hE hP hT
  obtain ⟨E1, e1⟩ : ∃ a, readE 10 l = a := ⟨_, rfl⟩
  obtain ⟨E2, e2⟩ : ∃ a, intE l = a := ⟨_, rfl⟩
  obtain ⟨E3, e3⟩ : ∃ a, readE 16 l = a := ⟨_, rfl⟩
  rw [e1] at HR1 P1
  rw [e2] at HR2 P2
  rw [e3] at HR3 P3
  obtain ⟨NI, hNI⟩ : ∃ a, (n : Int) = a := ⟨_, rfl⟩
  rw [hNI] at HPUT HPX HRP HRX K1 K3 ⊢
  generalize (readN 10 l : Int) = N1 at *
  generalize (readN 16 l : Int) = N3 at *
  generalize intN l = N2 at *
  have qN : (NI == NI) = true := beq_self_eq_true _
  have qx : (x == x) = true := beq_self_eq_true _
  have s1 : ((bytesOf (digB 10 n)).toList == (bytesOf (digB 10 n)).toList) = true := beq_self_eq_true _
  have s2 : ((bytesOf (itoB x)).toList == (bytesOf (itoB x)).toList) = true := beq_self_eq_true _
  have s3 : ((bytesOf (digB 16 n)).toList == (bytesOf (digB 16 n)).toList) = true := beq_self_eq_true _
  have s4 : ((bytesOf l).toList == (bytesOf l).toList) = true := beq_self_eq_true _
  generalize bytesOf (digB 10 n) = S1 at *
  generalize bytesOf (itoB x) = S2 at *
  generalize bytesOf (digB 16 n) = S3 at *
  generalize bytesOf l = S at *
  clear hNI hn hx e1 e2 e3
  by_cases z1 : E1 = 0
  · subst z1
    have zi1 : (((0 : Nat) : Int) == 0) = true := rfl
    by_cases z2 : E2 = 0
    · subst z2
      have zi2 : (((0 : Nat) : Int) == 0) = true := rfl
      by_cases z3 : E3 = 0
      · subst z3
        have zi3 : (((0 : Nat) : Int) == 0) = true := rfl
        go_enter Tryd.func4, Tryd.ntmps4
        go_wp2_with fail
        refine (HPUT.out W (Fr.refl _ W)).mono ?_
        rintro e w1 ⟨rfl, hf⟩
        have HF1 := Lib.hid (hf)
        clear hf
        go_wp2_with fail
        refine (K1.out _ HF1.out).mono ?_
        rintro e w2 ⟨rfl, hf⟩
        have HF2 := Lib.hid (HF1.out.then hf)
        clear hf
        go_wp2_with fail
        refine (HPI.out _ HF2.out).mono ?_
        rintro e w3 ⟨rfl, hf⟩
        have HF3 := Lib.hid (HF2.out.then hf)
        clear hf
        go_wp2_with fail
        refine (K2.out _ HF3.out).mono ?_
        rintro e w4 ⟨rfl, hf⟩
        have HF4 := Lib.hid (HF3.out.then hf)
        clear hf
        go_wp2_with fail
        refine (HPX.out _ HF4.out).mono ?_
        rintro e w5 ⟨rfl, hf⟩
        have HF5 := Lib.hid (HF4.out.then hf)
        clear hf
        go_wp2_with fail
        refine (K3.out _ HF5.out).mono ?_
        rintro e w6 ⟨rfl, hf⟩
        have HF6 := Lib.hid (HF5.out.then hf)
        clear hf
        go_wp2_with fail
        refine (HPUT.out _ HF6.out).mono ?_
        rintro e w7 ⟨rfl, hf⟩
        have HF7 := Lib.hid (HF6.out.then hf)
        clear hf
        go_wp2_with fail
        refine (HRP.out _).mono ?_
        rintro e w8 ⟨rfl, hf⟩
        have HF8 := Lib.hid (HF7.out.then hf)
        clear hf
        go_wp2_with fail
        refine (HPI.out _ HF8.out).mono ?_
        rintro e w9 ⟨rfl, hf⟩
        have HF9 := Lib.hid (HF8.out.then hf)
        clear hf
        go_wp2_with fail
        refine (HRI.out _).mono ?_
        rintro e w10 ⟨rfl, hf⟩
        have HF10 := Lib.hid (HF9.out.then hf)
        clear hf
        go_wp2_with fail
        refine (HPX.out _ HF10.out).mono ?_
        rintro e w11 ⟨rfl, hf⟩
        have HF11 := Lib.hid (HF10.out.then hf)
        clear hf
        go_wp2_with fail
        refine (HRX.out _).mono ?_
        rintro e w12 ⟨rfl, hf⟩
        have HF12 := Lib.hid (HF11.out.then hf)
        clear hf
        go_wp2_with fail
        refine (HR1.out _ HF12.out).mono ?_
        rintro e w13 ⟨rfl, hf⟩
        have HF13 := Lib.hid (HF12.out.then hf)
        clear hf
        go_wp2_with fail
        refine (P1.out trivial _ HF13.out).mono ?_
        rintro e w14 ⟨rfl, hf⟩
        have HF14 := Lib.hid (HF13.out.then hf)
        clear hf
        go_wp2_with fail
        refine (HR2.out _ HF14.out).mono ?_
        rintro e w15 ⟨rfl, hf⟩
        have HF15 := Lib.hid (HF14.out.then hf)
        clear hf
        go_wp2_with fail
        refine (P2.out trivial _ HF15.out).mono ?_
        rintro e w16 ⟨rfl, hf⟩
        have HF16 := Lib.hid (HF15.out.then hf)
        clear hf
        go_wp2_with fail
        refine (HR3.out _ HF16.out).mono ?_
        rintro e w17 ⟨rfl, hf⟩
        have HF17 := Lib.hid (HF16.out.then hf)
        clear hf
        go_wp2_with fail
        refine (P3.out trivial _ HF17.out).mono ?_
        rintro e w18 ⟨rfl, hf⟩
        have HF18 := Lib.hid (HF17.out.then hf)
        clear hf
        go_wp2_with fail
        refine (HL.out _ HF18.out).mono ?_
        rintro e w19 ⟨rfl, hf⟩
        have HF19 := Lib.hid (HF18.out.then hf)
        clear hf
        go_wp2
        go_ret
        exact ⟨rfl, HF19.out⟩
      · have zi3 : ((E3 : Int) == 0) = false := by rw [beq_eq_false_iff_ne]; omega
        go_enter Tryd.func4, Tryd.ntmps4
        go_wp2_with fail
        refine (HPUT.out W (Fr.refl _ W)).mono ?_
        rintro e w1 ⟨rfl, hf⟩
        have HF1 := Lib.hid (hf)
        clear hf
        go_wp2_with fail
        refine (K1.out _ HF1.out).mono ?_
        rintro e w2 ⟨rfl, hf⟩
        have HF2 := Lib.hid (HF1.out.then hf)
        clear hf
        go_wp2_with fail
        refine (HPI.out _ HF2.out).mono ?_
        rintro e w3 ⟨rfl, hf⟩
        have HF3 := Lib.hid (HF2.out.then hf)
        clear hf
        go_wp2_with fail
        refine (K2.out _ HF3.out).mono ?_
        rintro e w4 ⟨rfl, hf⟩
        have HF4 := Lib.hid (HF3.out.then hf)
        clear hf
        go_wp2_with fail
        refine (HPX.out _ HF4.out).mono ?_
        rintro e w5 ⟨rfl, hf⟩
        have HF5 := Lib.hid (HF4.out.then hf)
        clear hf
        go_wp2_with fail
        refine (K3.out _ HF5.out).mono ?_
        rintro e w6 ⟨rfl, hf⟩
        have HF6 := Lib.hid (HF5.out.then hf)
        clear hf
        go_wp2_with fail
        refine (HPUT.out _ HF6.out).mono ?_
        rintro e w7 ⟨rfl, hf⟩
        have HF7 := Lib.hid (HF6.out.then hf)
        clear hf
        go_wp2_with fail
        refine (HRP.out _).mono ?_
        rintro e w8 ⟨rfl, hf⟩
        have HF8 := Lib.hid (HF7.out.then hf)
        clear hf
        go_wp2_with fail
        refine (HPI.out _ HF8.out).mono ?_
        rintro e w9 ⟨rfl, hf⟩
        have HF9 := Lib.hid (HF8.out.then hf)
        clear hf
        go_wp2_with fail
        refine (HRI.out _).mono ?_
        rintro e w10 ⟨rfl, hf⟩
        have HF10 := Lib.hid (HF9.out.then hf)
        clear hf
        go_wp2_with fail
        refine (HPX.out _ HF10.out).mono ?_
        rintro e w11 ⟨rfl, hf⟩
        have HF11 := Lib.hid (HF10.out.then hf)
        clear hf
        go_wp2_with fail
        refine (HRX.out _).mono ?_
        rintro e w12 ⟨rfl, hf⟩
        have HF12 := Lib.hid (HF11.out.then hf)
        clear hf
        go_wp2_with fail
        refine (HR1.out _ HF12.out).mono ?_
        rintro e w13 ⟨rfl, hf⟩
        have HF13 := Lib.hid (HF12.out.then hf)
        clear hf
        go_wp2_with fail
        refine (P1.out trivial _ HF13.out).mono ?_
        rintro e w14 ⟨rfl, hf⟩
        have HF14 := Lib.hid (HF13.out.then hf)
        clear hf
        go_wp2_with fail
        refine (HR2.out _ HF14.out).mono ?_
        rintro e w15 ⟨rfl, hf⟩
        have HF15 := Lib.hid (HF14.out.then hf)
        clear hf
        go_wp2_with fail
        refine (P2.out trivial _ HF15.out).mono ?_
        rintro e w16 ⟨rfl, hf⟩
        have HF16 := Lib.hid (HF15.out.then hf)
        clear hf
        go_wp2_with fail
        refine (HR3.out _ HF16.out).mono ?_
        rintro e w17 ⟨rfl, hf⟩
        have HF17 := Lib.hid (HF16.out.then hf)
        clear hf
        go_wp2_with fail
        refine (HL.out _ HF17.out).mono ?_
        rintro e w18 ⟨rfl, hf⟩
        have HF18 := Lib.hid (HF17.out.then hf)
        clear hf
        go_wp2
        go_ret
        exact ⟨rfl, HF18.out⟩
    · have zi2 : ((E2 : Int) == 0) = false := by rw [beq_eq_false_iff_ne]; omega
      by_cases z3 : E3 = 0
      · subst z3
        have zi3 : (((0 : Nat) : Int) == 0) = true := rfl
        go_enter Tryd.func4, Tryd.ntmps4
        go_wp2_with fail
        refine (HPUT.out W (Fr.refl _ W)).mono ?_
        rintro e w1 ⟨rfl, hf⟩
        have HF1 := Lib.hid (hf)
        clear hf
        go_wp2_with fail
        refine (K1.out _ HF1.out).mono ?_
        rintro e w2 ⟨rfl, hf⟩
        have HF2 := Lib.hid (HF1.out.then hf)
        clear hf
        go_wp2_with fail
        refine (HPI.out _ HF2.out).mono ?_
        rintro e w3 ⟨rfl, hf⟩
        have HF3 := Lib.hid (HF2.out.then hf)
        clear hf
        go_wp2_with fail
        refine (K2.out _ HF3.out).mono ?_
        rintro e w4 ⟨rfl, hf⟩
        have HF4 := Lib.hid (HF3.out.then hf)
        clear hf
        go_wp2_with fail
        refine (HPX.out _ HF4.out).mono ?_
        rintro e w5 ⟨rfl, hf⟩
        have HF5 := Lib.hid (HF4.out.then hf)
        clear hf
        go_wp2_with fail
        refine (K3.out _ HF5.out).mono ?_
        rintro e w6 ⟨rfl, hf⟩
        have HF6 := Lib.hid (HF5.out.then hf)
        clear hf
        go_wp2_with fail
        refine (HPUT.out _ HF6.out).mono ?_
        rintro e w7 ⟨rfl, hf⟩
        have HF7 := Lib.hid (HF6.out.then hf)
        clear hf
        go_wp2_with fail
        refine (HRP.out _).mono ?_
        rintro e w8 ⟨rfl, hf⟩
        have HF8 := Lib.hid (HF7.out.then hf)
        clear hf
        go_wp2_with fail
        refine (HPI.out _ HF8.out).mono ?_
        rintro e w9 ⟨rfl, hf⟩
        have HF9 := Lib.hid (HF8.out.then hf)
        clear hf
        go_wp2_with fail
        refine (HRI.out _).mono ?_
        rintro e w10 ⟨rfl, hf⟩
        have HF10 := Lib.hid (HF9.out.then hf)
        clear hf
        go_wp2_with fail
        refine (HPX.out _ HF10.out).mono ?_
        rintro e w11 ⟨rfl, hf⟩
        have HF11 := Lib.hid (HF10.out.then hf)
        clear hf
        go_wp2_with fail
        refine (HRX.out _).mono ?_
        rintro e w12 ⟨rfl, hf⟩
        have HF12 := Lib.hid (HF11.out.then hf)
        clear hf
        go_wp2_with fail
        refine (HR1.out _ HF12.out).mono ?_
        rintro e w13 ⟨rfl, hf⟩
        have HF13 := Lib.hid (HF12.out.then hf)
        clear hf
        go_wp2_with fail
        refine (P1.out trivial _ HF13.out).mono ?_
        rintro e w14 ⟨rfl, hf⟩
        have HF14 := Lib.hid (HF13.out.then hf)
        clear hf
        go_wp2_with fail
        refine (HR2.out _ HF14.out).mono ?_
        rintro e w15 ⟨rfl, hf⟩
        have HF15 := Lib.hid (HF14.out.then hf)
        clear hf
        go_wp2_with fail
        refine (HR3.out _ HF15.out).mono ?_
        rintro e w16 ⟨rfl, hf⟩
        have HF16 := Lib.hid (HF15.out.then hf)
        clear hf
        go_wp2_with fail
        refine (P3.out trivial _ HF16.out).mono ?_
        rintro e w17 ⟨rfl, hf⟩
        have HF17 := Lib.hid (HF16.out.then hf)
        clear hf
        go_wp2_with fail
        refine (HL.out _ HF17.out).mono ?_
        rintro e w18 ⟨rfl, hf⟩
        have HF18 := Lib.hid (HF17.out.then hf)
        clear hf
        go_wp2
        go_ret
        exact ⟨rfl, HF18.out⟩
      · have zi3 : ((E3 : Int) == 0) = false := by rw [beq_eq_false_iff_ne]; omega
        go_enter Tryd.func4, Tryd.ntmps4
        go_wp2_with fail
        refine (HPUT.out W (Fr.refl _ W)).mono ?_
        rintro e w1 ⟨rfl, hf⟩
        have HF1 := Lib.hid (hf)
        clear hf
        go_wp2_with fail
        refine (K1.out _ HF1.out).mono ?_
        rintro e w2 ⟨rfl, hf⟩
        have HF2 := Lib.hid (HF1.out.then hf)
        clear hf
        go_wp2_with fail
        refine (HPI.out _ HF2.out).mono ?_
        rintro e w3 ⟨rfl, hf⟩
        have HF3 := Lib.hid (HF2.out.then hf)
        clear hf
        go_wp2_with fail
        refine (K2.out _ HF3.out).mono ?_
        rintro e w4 ⟨rfl, hf⟩
        have HF4 := Lib.hid (HF3.out.then hf)
        clear hf
        go_wp2_with fail
        refine (HPX.out _ HF4.out).mono ?_
        rintro e w5 ⟨rfl, hf⟩
        have HF5 := Lib.hid (HF4.out.then hf)
        clear hf
        go_wp2_with fail
        refine (K3.out _ HF5.out).mono ?_
        rintro e w6 ⟨rfl, hf⟩
        have HF6 := Lib.hid (HF5.out.then hf)
        clear hf
        go_wp2_with fail
        refine (HPUT.out _ HF6.out).mono ?_
        rintro e w7 ⟨rfl, hf⟩
        have HF7 := Lib.hid (HF6.out.then hf)
        clear hf
        go_wp2_with fail
        refine (HRP.out _).mono ?_
        rintro e w8 ⟨rfl, hf⟩
        have HF8 := Lib.hid (HF7.out.then hf)
        clear hf
        go_wp2_with fail
        refine (HPI.out _ HF8.out).mono ?_
        rintro e w9 ⟨rfl, hf⟩
        have HF9 := Lib.hid (HF8.out.then hf)
        clear hf
        go_wp2_with fail
        refine (HRI.out _).mono ?_
        rintro e w10 ⟨rfl, hf⟩
        have HF10 := Lib.hid (HF9.out.then hf)
        clear hf
        go_wp2_with fail
        refine (HPX.out _ HF10.out).mono ?_
        rintro e w11 ⟨rfl, hf⟩
        have HF11 := Lib.hid (HF10.out.then hf)
        clear hf
        go_wp2_with fail
        refine (HRX.out _).mono ?_
        rintro e w12 ⟨rfl, hf⟩
        have HF12 := Lib.hid (HF11.out.then hf)
        clear hf
        go_wp2_with fail
        refine (HR1.out _ HF12.out).mono ?_
        rintro e w13 ⟨rfl, hf⟩
        have HF13 := Lib.hid (HF12.out.then hf)
        clear hf
        go_wp2_with fail
        refine (P1.out trivial _ HF13.out).mono ?_
        rintro e w14 ⟨rfl, hf⟩
        have HF14 := Lib.hid (HF13.out.then hf)
        clear hf
        go_wp2_with fail
        refine (HR2.out _ HF14.out).mono ?_
        rintro e w15 ⟨rfl, hf⟩
        have HF15 := Lib.hid (HF14.out.then hf)
        clear hf
        go_wp2_with fail
        refine (HR3.out _ HF15.out).mono ?_
        rintro e w16 ⟨rfl, hf⟩
        have HF16 := Lib.hid (HF15.out.then hf)
        clear hf
        go_wp2_with fail
        refine (HL.out _ HF16.out).mono ?_
        rintro e w17 ⟨rfl, hf⟩
        have HF17 := Lib.hid (HF16.out.then hf)
        clear hf
        go_wp2
        go_ret
        exact ⟨rfl, HF17.out⟩
  · have zi1 : ((E1 : Int) == 0) = false := by rw [beq_eq_false_iff_ne]; omega
    by_cases z2 : E2 = 0
    · subst z2
      have zi2 : (((0 : Nat) : Int) == 0) = true := rfl
      by_cases z3 : E3 = 0
      · subst z3
        have zi3 : (((0 : Nat) : Int) == 0) = true := rfl
        go_enter Tryd.func4, Tryd.ntmps4
        go_wp2_with fail
        refine (HPUT.out W (Fr.refl _ W)).mono ?_
        rintro e w1 ⟨rfl, hf⟩
        have HF1 := Lib.hid (hf)
        clear hf
        go_wp2_with fail
        refine (K1.out _ HF1.out).mono ?_
        rintro e w2 ⟨rfl, hf⟩
        have HF2 := Lib.hid (HF1.out.then hf)
        clear hf
        go_wp2_with fail
        refine (HPI.out _ HF2.out).mono ?_
        rintro e w3 ⟨rfl, hf⟩
        have HF3 := Lib.hid (HF2.out.then hf)
        clear hf
        go_wp2_with fail
        refine (K2.out _ HF3.out).mono ?_
        rintro e w4 ⟨rfl, hf⟩
        have HF4 := Lib.hid (HF3.out.then hf)
        clear hf
        go_wp2_with fail
        refine (HPX.out _ HF4.out).mono ?_
        rintro e w5 ⟨rfl, hf⟩
        have HF5 := Lib.hid (HF4.out.then hf)
        clear hf
        go_wp2_with fail
        refine (K3.out _ HF5.out).mono ?_
        rintro e w6 ⟨rfl, hf⟩
        have HF6 := Lib.hid (HF5.out.then hf)
        clear hf
        go_wp2_with fail
        refine (HPUT.out _ HF6.out).mono ?_
        rintro e w7 ⟨rfl, hf⟩
        have HF7 := Lib.hid (HF6.out.then hf)
        clear hf
        go_wp2_with fail
        refine (HRP.out _).mono ?_
        rintro e w8 ⟨rfl, hf⟩
        have HF8 := Lib.hid (HF7.out.then hf)
        clear hf
        go_wp2_with fail
        refine (HPI.out _ HF8.out).mono ?_
        rintro e w9 ⟨rfl, hf⟩
        have HF9 := Lib.hid (HF8.out.then hf)
        clear hf
        go_wp2_with fail
        refine (HRI.out _).mono ?_
        rintro e w10 ⟨rfl, hf⟩
        have HF10 := Lib.hid (HF9.out.then hf)
        clear hf
        go_wp2_with fail
        refine (HPX.out _ HF10.out).mono ?_
        rintro e w11 ⟨rfl, hf⟩
        have HF11 := Lib.hid (HF10.out.then hf)
        clear hf
        go_wp2_with fail
        refine (HRX.out _).mono ?_
        rintro e w12 ⟨rfl, hf⟩
        have HF12 := Lib.hid (HF11.out.then hf)
        clear hf
        go_wp2_with fail
        refine (HR1.out _ HF12.out).mono ?_
        rintro e w13 ⟨rfl, hf⟩
        have HF13 := Lib.hid (HF12.out.then hf)
        clear hf
        go_wp2_with fail
        refine (HR2.out _ HF13.out).mono ?_
        rintro e w14 ⟨rfl, hf⟩
        have HF14 := Lib.hid (HF13.out.then hf)
        clear hf
        go_wp2_with fail
        refine (P2.out trivial _ HF14.out).mono ?_
        rintro e w15 ⟨rfl, hf⟩
        have HF15 := Lib.hid (HF14.out.then hf)
        clear hf
        go_wp2_with fail
        refine (HR3.out _ HF15.out).mono ?_
        rintro e w16 ⟨rfl, hf⟩
        have HF16 := Lib.hid (HF15.out.then hf)
        clear hf
        go_wp2_with fail
        refine (P3.out trivial _ HF16.out).mono ?_
        rintro e w17 ⟨rfl, hf⟩
        have HF17 := Lib.hid (HF16.out.then hf)
        clear hf
        go_wp2_with fail
        refine (HL.out _ HF17.out).mono ?_
        rintro e w18 ⟨rfl, hf⟩
        have HF18 := Lib.hid (HF17.out.then hf)
        clear hf
        go_wp2
        go_ret
        exact ⟨rfl, HF18.out⟩
      · have zi3 : ((E3 : Int) == 0) = false := by rw [beq_eq_false_iff_ne]; omega
        go_enter Tryd.func4, Tryd.ntmps4
        go_wp2_with fail
        refine (HPUT.out W (Fr.refl _ W)).mono ?_
        rintro e w1 ⟨rfl, hf⟩
        have HF1 := Lib.hid (hf)
        clear hf
        go_wp2_with fail
        refine (K1.out _ HF1.out).mono ?_
        rintro e w2 ⟨rfl, hf⟩
        have HF2 := Lib.hid (HF1.out.then hf)
        clear hf
        go_wp2_with fail
        refine (HPI.out _ HF2.out).mono ?_
        rintro e w3 ⟨rfl, hf⟩
        have HF3 := Lib.hid (HF2.out.then hf)
        clear hf
        go_wp2_with fail
        refine (K2.out _ HF3.out).mono ?_
        rintro e w4 ⟨rfl, hf⟩
        have HF4 := Lib.hid (HF3.out.then hf)
        clear hf
        go_wp2_with fail
        refine (HPX.out _ HF4.out).mono ?_
        rintro e w5 ⟨rfl, hf⟩
        have HF5 := Lib.hid (HF4.out.then hf)
        clear hf
        go_wp2_with fail
        refine (K3.out _ HF5.out).mono ?_
        rintro e w6 ⟨rfl, hf⟩
        have HF6 := Lib.hid (HF5.out.then hf)
        clear hf
        go_wp2_with fail
        refine (HPUT.out _ HF6.out).mono ?_
        rintro e w7 ⟨rfl, hf⟩
        have HF7 := Lib.hid (HF6.out.then hf)
        clear hf
        go_wp2_with fail
        refine (HRP.out _).mono ?_
        rintro e w8 ⟨rfl, hf⟩
        have HF8 := Lib.hid (HF7.out.then hf)
        clear hf
        go_wp2_with fail
        refine (HPI.out _ HF8.out).mono ?_
        rintro e w9 ⟨rfl, hf⟩
        have HF9 := Lib.hid (HF8.out.then hf)
        clear hf
        go_wp2_with fail
        refine (HRI.out _).mono ?_
        rintro e w10 ⟨rfl, hf⟩
        have HF10 := Lib.hid (HF9.out.then hf)
        clear hf
        go_wp2_with fail
        refine (HPX.out _ HF10.out).mono ?_
        rintro e w11 ⟨rfl, hf⟩
        have HF11 := Lib.hid (HF10.out.then hf)
        clear hf
        go_wp2_with fail
        refine (HRX.out _).mono ?_
        rintro e w12 ⟨rfl, hf⟩
        have HF12 := Lib.hid (HF11.out.then hf)
        clear hf
        go_wp2_with fail
        refine (HR1.out _ HF12.out).mono ?_
        rintro e w13 ⟨rfl, hf⟩
        have HF13 := Lib.hid (HF12.out.then hf)
        clear hf
        go_wp2_with fail
        refine (HR2.out _ HF13.out).mono ?_
        rintro e w14 ⟨rfl, hf⟩
        have HF14 := Lib.hid (HF13.out.then hf)
        clear hf
        go_wp2_with fail
        refine (P2.out trivial _ HF14.out).mono ?_
        rintro e w15 ⟨rfl, hf⟩
        have HF15 := Lib.hid (HF14.out.then hf)
        clear hf
        go_wp2_with fail
        refine (HR3.out _ HF15.out).mono ?_
        rintro e w16 ⟨rfl, hf⟩
        have HF16 := Lib.hid (HF15.out.then hf)
        clear hf
        go_wp2_with fail
        refine (HL.out _ HF16.out).mono ?_
        rintro e w17 ⟨rfl, hf⟩
        have HF17 := Lib.hid (HF16.out.then hf)
        clear hf
        go_wp2
        go_ret
        exact ⟨rfl, HF17.out⟩
    · have zi2 : ((E2 : Int) == 0) = false := by rw [beq_eq_false_iff_ne]; omega
      by_cases z3 : E3 = 0
      · subst z3
        have zi3 : (((0 : Nat) : Int) == 0) = true := rfl
        go_enter Tryd.func4, Tryd.ntmps4
        go_wp2_with fail
        refine (HPUT.out W (Fr.refl _ W)).mono ?_
        rintro e w1 ⟨rfl, hf⟩
        have HF1 := Lib.hid (hf)
        clear hf
        go_wp2_with fail
        refine (K1.out _ HF1.out).mono ?_
        rintro e w2 ⟨rfl, hf⟩
        have HF2 := Lib.hid (HF1.out.then hf)
        clear hf
        go_wp2_with fail
        refine (HPI.out _ HF2.out).mono ?_
        rintro e w3 ⟨rfl, hf⟩
        have HF3 := Lib.hid (HF2.out.then hf)
        clear hf
        go_wp2_with fail
        refine (K2.out _ HF3.out).mono ?_
        rintro e w4 ⟨rfl, hf⟩
        have HF4 := Lib.hid (HF3.out.then hf)
        clear hf
        go_wp2_with fail
        refine (HPX.out _ HF4.out).mono ?_
        rintro e w5 ⟨rfl, hf⟩
        have HF5 := Lib.hid (HF4.out.then hf)
        clear hf
        go_wp2_with fail
        refine (K3.out _ HF5.out).mono ?_
        rintro e w6 ⟨rfl, hf⟩
        have HF6 := Lib.hid (HF5.out.then hf)
        clear hf
        go_wp2_with fail
        refine (HPUT.out _ HF6.out).mono ?_
        rintro e w7 ⟨rfl, hf⟩
        have HF7 := Lib.hid (HF6.out.then hf)
        clear hf
        go_wp2_with fail
        refine (HRP.out _).mono ?_
        rintro e w8 ⟨rfl, hf⟩
        have HF8 := Lib.hid (HF7.out.then hf)
        clear hf
        go_wp2_with fail
        refine (HPI.out _ HF8.out).mono ?_
        rintro e w9 ⟨rfl, hf⟩
        have HF9 := Lib.hid (HF8.out.then hf)
        clear hf
        go_wp2_with fail
        refine (HRI.out _).mono ?_
        rintro e w10 ⟨rfl, hf⟩
        have HF10 := Lib.hid (HF9.out.then hf)
        clear hf
        go_wp2_with fail
        refine (HPX.out _ HF10.out).mono ?_
        rintro e w11 ⟨rfl, hf⟩
        have HF11 := Lib.hid (HF10.out.then hf)
        clear hf
        go_wp2_with fail
        refine (HRX.out _).mono ?_
        rintro e w12 ⟨rfl, hf⟩
        have HF12 := Lib.hid (HF11.out.then hf)
        clear hf
        go_wp2_with fail
        refine (HR1.out _ HF12.out).mono ?_
        rintro e w13 ⟨rfl, hf⟩
        have HF13 := Lib.hid (HF12.out.then hf)
        clear hf
        go_wp2_with fail
        refine (HR2.out _ HF13.out).mono ?_
        rintro e w14 ⟨rfl, hf⟩
        have HF14 := Lib.hid (HF13.out.then hf)
        clear hf
        go_wp2_with fail
        refine (HR3.out _ HF14.out).mono ?_
        rintro e w15 ⟨rfl, hf⟩
        have HF15 := Lib.hid (HF14.out.then hf)
        clear hf
        go_wp2_with fail
        refine (P3.out trivial _ HF15.out).mono ?_
        rintro e w16 ⟨rfl, hf⟩
        have HF16 := Lib.hid (HF15.out.then hf)
        clear hf
        go_wp2_with fail
        refine (HL.out _ HF16.out).mono ?_
        rintro e w17 ⟨rfl, hf⟩
        have HF17 := Lib.hid (HF16.out.then hf)
        clear hf
        go_wp2
        go_ret
        exact ⟨rfl, HF17.out⟩
      · have zi3 : ((E3 : Int) == 0) = false := by rw [beq_eq_false_iff_ne]; omega
        go_enter Tryd.func4, Tryd.ntmps4
        go_wp2_with fail
        refine (HPUT.out W (Fr.refl _ W)).mono ?_
        rintro e w1 ⟨rfl, hf⟩
        have HF1 := Lib.hid (hf)
        clear hf
        go_wp2_with fail
        refine (K1.out _ HF1.out).mono ?_
        rintro e w2 ⟨rfl, hf⟩
        have HF2 := Lib.hid (HF1.out.then hf)
        clear hf
        go_wp2_with fail
        refine (HPI.out _ HF2.out).mono ?_
        rintro e w3 ⟨rfl, hf⟩
        have HF3 := Lib.hid (HF2.out.then hf)
        clear hf
        go_wp2_with fail
        refine (K2.out _ HF3.out).mono ?_
        rintro e w4 ⟨rfl, hf⟩
        have HF4 := Lib.hid (HF3.out.then hf)
        clear hf
        go_wp2_with fail
        refine (HPX.out _ HF4.out).mono ?_
        rintro e w5 ⟨rfl, hf⟩
        have HF5 := Lib.hid (HF4.out.then hf)
        clear hf
        go_wp2_with fail
        refine (K3.out _ HF5.out).mono ?_
        rintro e w6 ⟨rfl, hf⟩
        have HF6 := Lib.hid (HF5.out.then hf)
        clear hf
        go_wp2_with fail
        refine (HPUT.out _ HF6.out).mono ?_
        rintro e w7 ⟨rfl, hf⟩
        have HF7 := Lib.hid (HF6.out.then hf)
        clear hf
        go_wp2_with fail
        refine (HRP.out _).mono ?_
        rintro e w8 ⟨rfl, hf⟩
        have HF8 := Lib.hid (HF7.out.then hf)
        clear hf
        go_wp2_with fail
        refine (HPI.out _ HF8.out).mono ?_
        rintro e w9 ⟨rfl, hf⟩
        have HF9 := Lib.hid (HF8.out.then hf)
        clear hf
        go_wp2_with fail
        refine (HRI.out _).mono ?_
        rintro e w10 ⟨rfl, hf⟩
        have HF10 := Lib.hid (HF9.out.then hf)
        clear hf
        go_wp2_with fail
        refine (HPX.out _ HF10.out).mono ?_
        rintro e w11 ⟨rfl, hf⟩
        have HF11 := Lib.hid (HF10.out.then hf)
        clear hf
        go_wp2_with fail
        refine (HRX.out _).mono ?_
        rintro e w12 ⟨rfl, hf⟩
        have HF12 := Lib.hid (HF11.out.then hf)
        clear hf
        go_wp2_with fail
        refine (HR1.out _ HF12.out).mono ?_
        rintro e w13 ⟨rfl, hf⟩
        have HF13 := Lib.hid (HF12.out.then hf)
        clear hf
        go_wp2_with fail
        refine (HR2.out _ HF13.out).mono ?_
        rintro e w14 ⟨rfl, hf⟩
        have HF14 := Lib.hid (HF13.out.then hf)
        clear hf
        go_wp2_with fail
        refine (HR3.out _ HF14.out).mono ?_
        rintro e w15 ⟨rfl, hf⟩
        have HF15 := Lib.hid (HF14.out.then hf)
        clear hf
        go_wp2_with fail
        refine (HL.out _ HF15.out).mono ?_
        rintro e w16 ⟨rfl, hf⟩
        have HF16 := Lib.hid (HF15.out.then hf)
        clear hf
        go_wp2
        go_ret
        exact ⟨rfl, HF16.out⟩
theorem DigitsBack_of {a x : Int} (w0 : (Lit.int .u64 a).wf = true) (w1 : (Lit.int .i64 x).wf = true) (s : ByteArray) (W : World) (hL : laidMetH Tryd.prog Rows.digitsReadsRow.laid W) : Calls Tryd.prog 4 #[.int .u64 a, .int .i64 x, .string s] W (LawPost W) := by
  obtain ⟨n, rfl, hn⟩ := u64_nat w0
  exact DigitsBack_any n hn x (i64_int w1) s.data.toList W (errw_of hL) (tabs_of hL).1 (tabs_of hL).2
end Go.Proofs.YtlcgmniahdngdaaDoor
