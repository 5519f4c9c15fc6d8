/- The walk of package float: the float of a text. -/
import Derived.Test.YtlcgmniahdngdaaGreatDoorFLdexp
namespace Go.Proofs.YtlcgmniahdngdaaGreatDoor
open Go.RowKit

def ReadPost (w : World) (s : List UInt8) (e : Ending) (w' : World) : Prop :=
  Fr (fun _ => False) w w' ∧ ((∃ f, f < 18446744073709551616 ∧ textF f = s ∧ canonF f = f ∧ e = .returned (.tuple #[.float .f64 f, .int .i64 0])) ∨
    ((∀ b, b < 18446744073709551616 → textF b ≠ s) ∧ e = .returned (.tuple #[.float .f64 0, .int .i64 2])))
theorem bytes_toList (l : List UInt8) : (bytesOf l).toList = l := by rw [Lib.toList_data]; rfl
theorem bytes_is (l m : List UInt8) : ((bytesOf l).toList == m) = decide (l = m) := by
  rw [bytes_toList]
  by_cases h : l = m
  · subst h; rw [beq_self_eq_true, decide_eq_true rfl]
  · rw [decide_eq_false h, beq_eq_false_iff_ne]; exact h
theorem text_nan : textF 9221120237041090560 = [110, 97, 110] := by decide
theorem text_inf : textF 9218868437227405312 = [105, 110, 102] := by decide
theorem text_ninf : textF 18442240474082181120 = [45, 105, 110, 102] := by decide
theorem trim_len (s p : List UInt8) : (Lib.trimPrefix s p).length ≤ s.length := by
  unfold Lib.trimPrefix; split
  · rw [List.length_drop]; omega
  · exact Nat.le_refl _
theorem cut_len (s p : List UInt8) : (Lib.cut s p).1.length ≤ s.length ∧ (Lib.cut s p).2.1.length ≤ s.length := by
  unfold Lib.cut; split
  · constructor
    · show (s.take _).length ≤ _; rw [List.length_take]; omega
    · show (s.drop _).length ≤ _; rw [List.length_drop]; omega
  · exact ⟨Nat.le_refl _, Nat.zero_le _⟩

/-- What the text of a number gives. -/
theorem good_of {s : List UInt8} {b : Nat} (hk : kindF b < 3) (h : textF b = s) :
    Lib.hasPrefix s [45] = negF b ∧ Lib.cut (Lib.trimPrefix s [45]) [112] = (Lib.decDigits (oddF b), Lib.itoa (expF b), true) := by
  obtain ⟨h1, h2⟩ := text_parts hk
  rw [h] at h1 h2
  exact ⟨h1, by rw [h2]; exact core_parts b⟩
theorem pu_dec {u : Nat} (h : u < 18446744073709551616) : puN (Lib.decDigits u) = some (u : Int) := by unfold puN; rw [parse_decB h]
theorem ai_itoa {x : Int} (h : -9223372036854775808 ≤ x ∧ x < 9223372036854775808) : aiN (Lib.itoa x) = some x := by unfold aiN; rw [atoi_itoa h]
theorem pu_nat {l : List UInt8} {x : Int} (h : puN l = some x) : 0 ≤ x ∧ x < 18446744073709551616 := by
  unfold puN at h
  split at h
  · rename_i u hu
    have := Lib.parseMag_lt (by rw [← Lib.parseUintB_64]; exact hu)
    injection h with h; omega
  · cases h

set_option maxRecDepth 100000 in
set_option maxHeartbeats 1600000 in
theorem read_any (s : List UInt8) (hs : s.length ≤ 1000) (w : World) (hT : TabD w) (hP : Lib.TabIs Tryz.prog w "internal/strconv.uint64pow10" .u64 Lib.pow10Tab) (hE : ErrW w) :
    Calls Tryz.prog 40 #[.string (bytesOf s)] w (ReadPost w s) := by
  have HOF : Hid (∀ w, Calls Tryz.prog 56 #[.int .u64 9221120237041090560] w (OneFloat w 9221120237041090560)) := of_any 9221120237041090560
  have HI1 := Lib.hid inf_plus
  have HI2 := Lib.hid inf_minus
  have b1 := bytes_is s [110, 97, 110]
  have b2 := bytes_is s [105, 110, 102]
  have b3 := bytes_is s [45, 105, 110, 102]
  by_cases h1 : s = [110, 97, 110]
  · have hres : ReadPost w s (.returned (.tuple #[.float .f64 9221120237041090560, .int .i64 0])) w := ⟨Fr.refl _ _, .inl ⟨_, by decide, by rw [h1]; exact text_nan, rfl, rfl⟩⟩
    have HRES := Lib.hid hres
    rw [decide_eq_true h1] at b1
    clear hres b2 b3 h1 hs hT hP hE
    generalize bytesOf s = S at *
    go_enter Tryz.func40, Tryz.ntmps40
    go_wp2_with fail
    refine (HOF.out _).mono ?_
    rintro e w' ⟨rfl, rfl⟩
    go_wp2
    go_ret2
    exact HRES.out
  by_cases h2 : s = [105, 110, 102]
  · have hres : ReadPost w s (.returned (.tuple #[.float .f64 9218868437227405312, .int .i64 0])) w := ⟨Fr.refl _ _, .inl ⟨_, by decide, by rw [h2]; exact text_inf, rfl, rfl⟩⟩
    have HRES := Lib.hid hres
    rw [decide_eq_true h2] at b2
    rw [decide_eq_false h1] at b1
    clear hres b3 h1 h2 hs hT hP hE
    generalize bytesOf s = S at *
    go_enter Tryz.func40, Tryz.ntmps40
    go_wp2_with fail
    refine (HI1.out _).mono ?_
    rintro e w' ⟨rfl, rfl⟩
    go_wp2
    go_ret2
    exact HRES.out
  by_cases h3 : s = [45, 105, 110, 102]
  · have hres : ReadPost w s (.returned (.tuple #[.float .f64 18442240474082181120, .int .i64 0])) w := ⟨Fr.refl _ _, .inl ⟨_, by decide, by rw [h3]; exact text_ninf, rfl, rfl⟩⟩
    have HRES := Lib.hid hres
    rw [decide_eq_true h3] at b3
    rw [decide_eq_false h2] at b2
    rw [decide_eq_false h1] at b1
    clear hres h1 h2 h3 hs hT hP hE
    generalize bytesOf s = S at *
    go_enter Tryz.func40, Tryz.ntmps40
    go_wp2_with fail
    refine (HI2.out _).mono ?_
    rintro e w' ⟨rfl, rfl⟩
    go_wp2
    go_ret2
    exact HRES.out
  rw [decide_eq_false h1] at b1
  rw [decide_eq_false h2] at b2
  rw [decide_eq_false h3] at b3
  have HCP : Hid (∀ w, Calls Tryz.prog 58 #[.string (bytesOf s), .string ⟨#[45]⟩] w fun e w' => e = .returned (.tuple #[.string (bytesOf (Lib.trimPrefix s [45])), .bool (Lib.hasPrefix s [45])]) ∧ w' = w) := fun w => Tryz.strings_CutPrefix (bytesOf s) ⟨#[45]⟩ w
  have l1 := trim_len s [45]
  have l2 := cut_len (Lib.trimPrefix s [45]) [112]
  have HCU := Lib.hid (fun w => cut1_any (Lib.trimPrefix s [45]) 112 w (by omega))
  have hgood : ∀ b, b < 18446744073709551616 → textF b = s → Lib.hasPrefix s [45] = negF b ∧ Lib.cut (Lib.trimPrefix s [45]) [112] = (Lib.decDigits (oddF b), Lib.itoa (expF b), true) ∧ kindF b < 3 := by
    intro b hb ht
    have hk : kindF b < 3 := by
      rcases Nat.lt_or_ge (kindF b) 3 with h | h
      · exact h
      · exfalso
        have := kind_le b
        unfold textF at ht
        by_cases h4 : kindF b = 4
        · rw [if_pos h4] at ht; exact h1 ht.symm
        · rw [if_neg h4, if_pos (by omega)] at ht
          cases hn : negF b
          · rw [hn] at ht; exact h2 ht.symm
          · rw [hn] at ht; exact h3 ht.symm
    obtain ⟨g1, g2⟩ := good_of hk ht
    exact ⟨g1, g2, hk⟩
  generalize Lib.hasPrefix s [45] = P at *
  generalize hcut : Lib.cut (Lib.trimPrefix s [45]) [112] = C at *
  obtain ⟨A, B, f⟩ := C
  dsimp only at HCU l2
  have HPU := Lib.hid (fun w hE => parse_any A (by omega) w hE)
  have HAI := Lib.hid (fun w hE => atoi_any B (by omega) w hE)
  obtain ⟨pa, hpa⟩ : ∃ r, puN A = r := ⟨_, rfl⟩
  obtain ⟨qb, hqb⟩ : ∃ r, aiN B = r := ⟨_, rfl⟩
  have hpr : ∀ x, pa = some x → 0 ≤ x ∧ x < 18446744073709551616 := fun x hx => pu_nat (hpa.trans hx)
  have hall : ∀ b, b < 18446744073709551616 → textF b = s → f = true ∧ P = negF b ∧ pa = some ((oddF b : Nat) : Int) ∧ qb = some (expF b) ∧ kindF b < 3 := by
    intro b hb ht
    obtain ⟨g1, g2, g3⟩ := hgood b hb ht
    injection g2 with g4 g5
    injection g5 with g6 g7
    have hx := exp_num g3
    refine ⟨g7, g1, ?_, ?_, g3⟩
    · rw [← hpa, g4]; exact pu_dec (Nat.lt_trans (odd_lt b) (by decide))
    · rw [← hqb, g6]; exact ai_itoa (by omega)
  rw [hpa] at HPU
  rw [hqb] at HAI
  have HE := Lib.hid hE
  by_cases hgd : f = true ∧ ∃ (m : Nat) (n : Int), pa = some (m : Int) ∧ m < 9007199254740992 ∧ qb = some n ∧ -1074 ≤ n ∧ n ≤ 1023
  · obtain ⟨rfl, m, n, rfl, hm, rfl, hn1, hn2⟩ := hgd
    have HNU := Lib.hid (number_any m hm n ⟨hn1, hn2⟩)
    have HTX := Lib.hid (fun f w' (hf : f < 18446744073709551616) hfr => text_any f hf w' (hT.frame hfr) (tabIs_frame hP hfr))
    have hfit : ∀ b r, b < 18446744073709551616 → textF b = s → r < 9223372036854775808 → (∀ c, c < 9223372036854775808 → kindF c < 3 → magF c = m * 2 ^ (n + 1074).toNat → r = c) → (if P then flipF r else r) = b := by
      intro b r hb ht hr hc
      obtain ⟨_, q1, q2, q3, q4⟩ := hall b hb ht
      have q5 : m = oddF b := by injection q2 with q2; omega
      have q6 : n = expF b := by injection q3
      have hrg : rungF b < 9223372036854775808 := by unfold rungF; omega
      have hkr := (kind_num b).1 q4
      have := hc (rungF b) hrg ((kind_num _).2 (by unfold rungF at hkr ⊢; omega)) (by rw [← mag_rung, mag_parts q4, q5, q6])
      have hbw := bits_rung hb
      rw [this, q1]
      cases hn : negF b
      · rw [hn, if_neg Bool.false_ne_true] at hbw
        rw [if_neg Bool.false_ne_true]; exact hbw.symm
      · rw [hn, if_pos rfl] at hbw
        rw [if_pos rfl, flip_low hrg]; exact hbw.symm
    have hpost : ∀ r w', r < 9223372036854775808 → Fr (fun _ => False) w w' → (∀ c, c < 9223372036854775808 → kindF c < 3 → magF c = m * 2 ^ (n + 1074).toNat → r = c) →
        (textF (if P then flipF r else r) = s → ReadPost w s (.returned (.tuple #[.float .f64 (if P then flipF r else r), .int .i64 0])) w') ∧
        (textF (if P then flipF r else r) ≠ s → ReadPost w s (.returned (.tuple #[.float .f64 0, .int .i64 2])) w') := by
      intro r w' hr hfr hc
      refine ⟨fun ht => ⟨hfr, .inl ⟨_, ?_, ht, ?_, rfl⟩⟩, fun ht => ⟨hfr, .inr ⟨fun b hb hb2 => ?_, rfl⟩⟩⟩
      · cases P
        · rw [if_neg Bool.false_ne_true]; omega
        · rw [if_pos rfl]; exact (flip_neg (by omega)).1
      · refine canon_num (fun h4 => h1 ?_)
        rw [← ht]; unfold textF; rw [if_pos h4]
      · rw [hfit b r hb hb2 hr hc] at ht; exact ht hb2
    have hneg := run_neg_float (P := Tryz.prog)
    have HPO := Lib.hid hpost
    obtain ⟨M, hM⟩ : ∃ M, (m : Int) = M := ⟨_, rfl⟩
    have hmi : M < 9007199254740992 := by omega
    have hm0 : 0 ≤ M := by omega
    rw [hM] at HPU HNU
    clear hm hM
    clear hpost hfit hgood hall hT hP hE l1 l2 h1 h2 h3 HOF HI1 HI2 hcut hpa hqb hpr
    generalize bytesOf (Lib.trimPrefix s [45]) = T at *
    generalize bytesOf A = A1 at *
    generalize bytesOf B = B1 at *
    obtain ⟨S, hS⟩ : ∃ S, bytesOf s = S := ⟨_, rfl⟩
    rw [hS] at HCP b1 b2 b3 ⊢
    cases P
    · clear hs
      go_enter Tryz.func40, Tryz.ntmps40
      go_wp2_with fail
      refine (HCP.out _).mono ?_
      rintro e w' ⟨rfl, rfl⟩
      go_wp2_with fail
      refine (HCU.out _).mono ?_
      rintro e w1 ⟨rfl, hf1⟩
      have HF1 := Lib.hid hf1
      clear hf1
      go_wp2_with fail
      refine (HPU.out _ (HE.out.frame HF1.out)).mono ?_
      rintro e w2 ⟨hf2, rfl⟩
      have HF2 := Lib.hid (HF1.out.then hf2)
      clear hf2
      go_wp2_with fail
      refine (HAI.out _ (HE.out.frame HF2.out)).mono ?_
      rintro e w3 ⟨hf3, rfl⟩
      have HF3 := Lib.hid (HF2.out.then hf3)
      clear hf3
      go_wp2_with fail
      refine (HNU.out _).mono ?_
      rintro e w' ⟨rfl, r, hr, rfl, hc⟩
      have HC := Lib.hid hc
      clear hc
      have hr2 : r < 18446744073709551616 := by omega
      go_wp2_with fail
      refine (HTX.out r _ hr2 HF3.out).mono ?_
      rintro e w4 ⟨rfl, hf4⟩
      have HF4 := Lib.hid (HF3.out.then hf4)
      clear hf4
      obtain ⟨q1, q2⟩ := HPO.out r w4 hr HF4.out HC.out
      rw [if_neg Bool.false_ne_true] at q1 q2
      have hcmp : ((bytesOf (textF r)).toList == S.toList) = decide (textF r = s) := by rw [← hS, bytes_toList s, bytes_is]
      generalize textF r = X1 at *
      by_cases ht : X1 = s
      · have Q1 := Lib.hid (q1 ht)
        rw [decide_eq_true ht] at hcmp
        clear q1 q2 hS ht
        generalize bytesOf X1 = X at *
        go_wp2
        go_ret2
        exact Q1.out
      · have Q2 := Lib.hid (q2 ht)
        rw [decide_eq_false ht] at hcmp
        clear q1 q2 hS ht
        generalize bytesOf X1 = X at *
        go_wp2
        go_ret2
        exact Q2.out
    · clear hs
      go_enter Tryz.func40, Tryz.ntmps40
      go_wp2_with fail
      refine (HCP.out _).mono ?_
      rintro e w' ⟨rfl, rfl⟩
      go_wp2_with fail
      refine (HCU.out _).mono ?_
      rintro e w1 ⟨rfl, hf1⟩
      have HF1 := Lib.hid hf1
      clear hf1
      go_wp2_with fail
      refine (HPU.out _ (HE.out.frame HF1.out)).mono ?_
      rintro e w2 ⟨hf2, rfl⟩
      have HF2 := Lib.hid (HF1.out.then hf2)
      clear hf2
      go_wp2_with fail
      refine (HAI.out _ (HE.out.frame HF2.out)).mono ?_
      rintro e w3 ⟨hf3, rfl⟩
      have HF3 := Lib.hid (HF2.out.then hf3)
      clear hf3
      go_wp2_with fail
      refine (HNU.out _).mono ?_
      rintro e w' ⟨rfl, r, hr, rfl, hc⟩
      have HC := Lib.hid hc
      clear hc
      have hr2 : flipF r < 18446744073709551616 := (flip_neg (by omega)).1
      go_wp2_with fail
      refine (HTX.out (flipF r) _ hr2 HF3.out).mono ?_
      rintro e w4 ⟨rfl, hf4⟩
      have HF4 := Lib.hid (HF3.out.then hf4)
      clear hf4
      obtain ⟨q1, q2⟩ := HPO.out r w4 hr HF4.out HC.out
      rw [if_pos trivial] at q1 q2
      have hcmp : ((bytesOf (textF (flipF r))).toList == S.toList) = decide (textF (flipF r) = s) := by rw [← hS, bytes_toList s, bytes_is]
      generalize textF (flipF r) = X1 at *
      by_cases ht : X1 = s
      · have Q1 := Lib.hid (q1 ht)
        rw [decide_eq_true ht] at hcmp
        clear q1 q2 hS ht
        generalize bytesOf X1 = X at *
        go_wp2
        go_ret2
        exact Q1.out
      · have Q2 := Lib.hid (q2 ht)
        rw [decide_eq_false ht] at hcmp
        clear q1 q2 hS ht
        generalize bytesOf X1 = X at *
        go_wp2
        go_ret2
        exact Q2.out
  · have hbad : ∀ b, b < 18446744073709551616 → textF b ≠ s := by
      intro b hb ht
      obtain ⟨q0, q1, q2, q3, q4⟩ := hall b hb ht
      have hx := exp_num q4
      exact hgd ⟨q0, oddF b, expF b, q2, odd_lt b, q3, hx.1, hx.2⟩
    have hres : ∀ w', Fr (fun _ => False) w w' → ReadPost w s (.returned (.tuple #[.float .f64 0, .int .i64 2])) w' := fun w' hf => ⟨hf, .inr ⟨hbad, rfl⟩⟩
    have HRES := Lib.hid hres
    have hcase : f = false ∨ (f = true ∧ (pa = none ∨ ∃ m, pa = some m ∧ (qb = none ∨ ∃ n, qb = some n ∧ (9007199254740992 ≤ m ∨ (m < 9007199254740992 ∧ n < -1074) ∨ (m < 9007199254740992 ∧ -1074 ≤ n ∧ 1023 < n))))) := by
      cases f with
      | false => exact .inl rfl
      | true =>
        refine .inr ⟨rfl, ?_⟩
        cases pa with
        | none => exact .inl rfl
        | some m =>
          refine .inr ⟨m, rfl, ?_⟩
          cases qb with
          | none => exact .inl rfl
          | some n =>
            refine .inr ⟨n, rfl, ?_⟩
            have h5 := hpr m rfl
            rcases Int.lt_or_le m 9007199254740992 with h6 | h6
            · rcases Int.lt_or_le n (-1074) with h7 | h7
              · exact .inr (.inl ⟨h6, h7⟩)
              · rcases Int.lt_or_le 1023 n with h8 | h8
                · exact .inr (.inr ⟨h6, h7, h8⟩)
                · exact absurd ⟨rfl, m.toNat, n, by rw [Int.toNat_of_nonneg h5.1], by omega, rfl, h7, h8⟩ hgd
            · exact .inl h6
    clear hbad hres hgd hall hgood hT hP hE hpa hqb l1 l2 h1 h2 h3 HOF HI1 HI2 hcut
    generalize bytesOf (Lib.trimPrefix s [45]) = T at *
    generalize bytesOf A = A1 at *
    generalize bytesOf B = B1 at *
    generalize bytesOf s = S at *
    rcases hcase with rfl | ⟨rfl, rfl | ⟨m, rfl, rfl | ⟨n, rfl, h7 | ⟨h7, h8⟩ | ⟨h7, h8, h9⟩⟩⟩⟩
    all_goals
      try (cases pa)
      all_goals
        try (cases qb)
        all_goals
          clear hs
          go_enter Tryz.func40, Tryz.ntmps40
          go_wp2_with fail
          refine (HCP.out _).mono ?_
          rintro e w' ⟨rfl, rfl⟩
          go_wp2_with fail
          refine (HCU.out _).mono ?_
          rintro e w1 ⟨rfl, hf1⟩
          have HF1 := Lib.hid hf1
          clear hf1
          go_wp2_with fail
          refine (HPU.out _ (HE.out.frame HF1.out)).mono ?_
          rintro e w2 ⟨hf2, he⟩
          first
          | (obtain ⟨m1, t1, p1, rfl⟩ := he)
          | (obtain rfl := he)
          have HF2 := Lib.hid (HF1.out.then hf2)
          clear hf2
          go_wp2_with fail
          refine (HAI.out _ (HE.out.frame HF2.out)).mono ?_
          rintro e w3 ⟨hf3, he⟩
          first
          | (obtain ⟨m2, t2, p2, rfl⟩ := he)
          | (obtain rfl := he)
          have HF3 := Lib.hid (HF2.out.then hf3)
          clear hf3
          go_wp2
          go_ret2
          exact HRES.out _ HF3.out
end Go.Proofs.YtlcgmniahdngdaaGreatDoor

/- The walk of the reference: the bits of a whole number and a power of two. -/
namespace Go.Proofs.YtlcgmniahdngdaaGreatDoor
open Go.RowKit

def BitRel (m : Nat) (e : Int) (k : Nat) (y : Int) : Prop := (-1074 ≤ e → -1074 ≤ y ∧ k * 2 ^ (y + 1074).toNat = m * 2 ^ (e + 1074).toNat) ∧ (m ≠ 0 → k ≠ 0)
theorem BitRel.step {m : Nat} {e : Int} {k : Nat} {y : Int} (h : BitRel m e k y) (hy : -1074 < y) : BitRel m e (k * 2) (y - 1) := by
  refine ⟨fun he => ⟨by omega, ?_⟩, fun hm => by have := h.2 hm; omega⟩
  rw [← (h.1 he).2, show (y + 1074).toNat = (y - 1 + 1074).toNat + 1 by omega, Nat.pow_succ, Nat.mul_assoc, Nat.mul_comm 2]
def BitsPost (w : World) (m : Nat) (x : Int) (e : Ending) (w' : World) : Prop :=
  w = w' ∧ ∃ (r : Nat) (ok : Bool), r < 9223372036854775808 ∧ e = .returned (.tuple #[.int .u64 (r : Int), .bool ok]) ∧
    ∀ c, c < 9223372036854775808 → kindF c < 3 → -1074 ≤ x → magF c = m * 2 ^ (x + 1074).toNat → m ≠ 0 → r = c ∧ ok = true

end Go.Proofs.YtlcgmniahdngdaaGreatDoor
