/- The walk of the reference: the float of a text. -/
import Derived.Test.YtcmdcclolkgjeaaDoorFRead
import Derived.Test.YtcmdcclolkgjeaaDoorFRefText
import Derived.Test.YtcmdcclolkgjeaaDoorFRefBits
namespace Go.Proofs.YtcmdcclolkgjeaaDoor
open Go.RowKit

def Read2Post (w : World) (s : List UInt8) (e : Ending) (w' : World) : Prop :=
  Fr (fun _ => False) w w' ∧ ((∃ f : Nat, f < 18446744073709551616 ∧ textF f = s ∧ canonF f = f ∧ e = .returned (.tuple #[.int .u64 (f : Int), .int .i64 0])) ∨
    ((∀ b, b < 18446744073709551616 → textF b ≠ s) ∧ e = .returned (.tuple #[.int .u64 0, .int .i64 2])))
/-- What the text of a number gives, as the reference cuts it. -/
structure Parts2 (s : List UInt8) (P : Bool) (t : List UInt8) : Prop where
  num : ∀ b, b < 18446744073709551616 → textF b = s → kindF b < 3 ∧ negF b = P ∧ coreF b = t
  len : t.length ≤ s.length
  neg : P = true → s = 45 :: t
  pos : P = false → s = t
theorem ext_take (t : List UInt8) (k : Nat) (_hk : k ≤ t.length) : (bytesOf t).extract 0 k = bytesOf (t.take k) := by
  rw [Lib.extract_eq]; rfl
theorem ext_drop (t : List UInt8) (k : Nat) : (bytesOf t).extract k t.length = bytesOf (t.drop k) := by
  rw [Lib.extract_eq]
  show bytesOf (List.take (t.length - k) (List.drop k t)) = _
  rw [List.take_of_length_le (by rw [List.length_drop]; exact Nat.le_refl _)]
theorem core_cut {b k : Nat} {t : List UInt8} (h : coreF b = t) (hk : k < t.length) (hp : t[k] = 112) (hb : ∀ d ∈ t.take k, d ≠ 112) : t.take k = Lib.decDigits (oddF b) ∧ t.drop (k + 1) = Lib.itoa (expF b) := by
  have e : t = t.take k ++ 112 :: t.drop (k + 1) := by
    conv => lhs; rw [← List.take_append_drop k t, List.drop_eq_getElem_cons hk, hp]
  have c1 := cut_at (t.take k) (t.drop (k + 1)) 112 hb
  rw [← e, ← h, core_parts] at c1
  injection c1 with c2 c3
  injection c3 with c4 c5
  rw [h] at c2 c4
  exact ⟨c2.symm, c4.symm⟩
theorem core_has {b : Nat} {t : List UInt8} (h : coreF b = t) : ¬ ∀ d ∈ t, d ≠ 112 := by
  intro hh
  refine hh 112 ?_ rfl
  rw [← h]; unfold coreF; simp

/-- How the text behind the 'p' is cut: a sign or none, and the rest. -/
def MinusIs (B : List UInt8) (mi : Bool) (N : List UInt8) : Prop := (B = [] ∧ mi = false ∧ N = []) ∨ (B = 45 :: N ∧ mi = true) ∨ (mi = false ∧ N = B ∧ ∃ c N', B = c :: N' ∧ c ≠ 45)
theorem minus_cases (B : List UInt8) : ∃ mi N, MinusIs B mi N := by
  cases B with
  | nil => exact ⟨false, [], .inl ⟨rfl, rfl, rfl⟩⟩
  | cons c N =>
    by_cases h : c = 45
    · exact ⟨true, N, .inr (.inl ⟨by rw [h], rfl⟩)⟩
    · exact ⟨false, c :: N, .inr (.inr ⟨rfl, rfl, c, N, rfl, h⟩)⟩
theorem minus_len {B N : List UInt8} {mi : Bool} (h : MinusIs B mi N) : N.length ≤ B.length := by
  rcases h with ⟨rfl, _, rfl⟩ | ⟨rfl, _⟩ | ⟨_, rfl, _⟩
  · exact Nat.le_refl _
  · simp
  · exact Nat.le_refl _
theorem minus_forms {B N : List UInt8} {mi : Bool} (h : MinusIs B mi N) : (B = [] ∧ mi = false ∧ N = []) ∨ (B = 45 :: N ∧ mi = true) ∨ (mi = false ∧ N = B ∧ ∃ c N', B = c :: N' ∧ c ≠ 45) := h
theorem minus_num {B N : List UInt8} {mi : Bool} (h : MinusIs B mi N) (x : Int) (hB : B = Lib.itoa x) (hx : -2000 ≤ x ∧ x ≤ 2000) :
    (if mi then -(numV N : Int) else (numV N : Int)) = x ∧ numOk N = true ∧ (numV N : Int) = if mi then -x else x := by
  rcases Int.lt_or_le x 0 with h0 | h0
  · obtain ⟨u, rfl⟩ : ∃ u : Nat, x = -(u : Int) := ⟨x.natAbs, by omega⟩
    rw [Lib.itoa_neg u (by omega)] at hB
    obtain ⟨n1, n2⟩ := num_dec (u := u) (by omega)
    rcases h with ⟨h1, _, _⟩ | ⟨h1, h2⟩ | ⟨h1, h2, c, N', h3, h4⟩
    · rw [hB] at h1; cases h1
    · rw [hB] at h1
      injection h1 with _ h1
      subst h2
      rw [← h1, n1]
      exact ⟨rfl, n2, by rw [if_pos rfl]; omega⟩
    · rw [hB] at h3
      injection h3 with h3 _
      exact absurd h3.symm h4
  · obtain ⟨u, rfl⟩ : ∃ u : Nat, x = (u : Int) := ⟨x.toNat, by omega⟩
    rw [Lib.itoa_nonneg] at hB
    obtain ⟨n1, n2⟩ := num_dec (u := u) (by omega)
    obtain ⟨c, r, hc1, hc2⟩ := dec_cons u
    rcases h with ⟨h1, _, _⟩ | ⟨h1, h2⟩ | ⟨h1, h2, c', N', h3, h4⟩
    · rw [hB, hc1] at h1; cases h1
    · rw [hB, hc1] at h1
      injection h1 with h1 _
      exact absurd h1 (dig_not hc2 45 (.inl (by decide)))
    · subst h1
      rw [h2, hB, n1]
      exact ⟨rfl, n2, rfl⟩
theorem fit_pos {b r m : Nat} {ok : Bool} (hb : b < 18446744073709551616) (hk : kindF b < 3) (hn : negF b = false) (hm : oddF b = m)
    (hc : ∀ c, c < 9223372036854775808 → kindF c < 3 → -1074 ≤ expF b → magF c = m * 2 ^ (expF b + 1074).toNat → m ≠ 0 → r = c ∧ ok = true) : (m = 0 → b = 0) ∧ (m ≠ 0 → ok = true ∧ b = r) := by
  have hr := (kind_num b).1 hk
  have hx := exp_num hk
  have hbw := bits_rung hb
  rw [hn, if_neg Bool.false_ne_true] at hbw
  have hmag := mag_parts hk
  rw [hm] at hmag
  refine ⟨fun h => ?_, fun h => ?_⟩
  · rw [h, Nat.zero_mul] at hmag
    exact mag_inj (by omega) (by decide) hmag
  · obtain ⟨h1, h2⟩ := hc b (by omega) hk hx.1 hmag h
    exact ⟨h2, h1.symm⟩
theorem fit_neg {b r m : Nat} {ok : Bool} (hb : b < 18446744073709551616) (hk : kindF b < 3) (hn : negF b = true) (hm : oddF b = m)
    (hc : ∀ c, c < 9223372036854775808 → kindF c < 3 → -1074 ≤ expF b → magF c = m * 2 ^ (expF b + 1074).toNat → m ≠ 0 → r = c ∧ ok = true) : (m = 0 → b = 0 + 9223372036854775808) ∧ (m ≠ 0 → ok = true ∧ b = r + 9223372036854775808) := by
  have hr := (kind_num b).1 hk
  have hx := exp_num hk
  have hbw := bits_rung hb
  rw [hn, if_pos rfl] at hbw
  have hmag := mag_parts hk
  rw [hm, mag_rung] at hmag
  have hk2 : kindF (rungF b) < 3 := (kind_num _).2 (by unfold rungF at hr ⊢; omega)
  refine ⟨fun h => ?_, fun h => ?_⟩
  · rw [h, Nat.zero_mul] at hmag
    have := mag_inj (b := rungF b) (c := 0) (by omega) (by decide) hmag
    omega
  · obtain ⟨h1, h2⟩ := hc (rungF b) (by omega) hk2 hx.1 hmag h
    exact ⟨h2, by omega⟩
set_option maxRecDepth 100000 in
set_option maxHeartbeats 6400000 in
theorem read2_neg (s t : List UInt8) (hs : s.length ≤ 1000) (h1 : s ≠ [110, 97, 110]) (h2 : s ≠ [105, 110, 102]) (h3 : s ≠ [45, 105, 110, 102]) (hp2 : Parts2 s true t) (w : World) :
    Calls Tryd.prog 30 #[.string (bytesOf s)] w (Read2Post w s) := by
  have b1 := bytes_is s [110, 97, 110]
  have b2 := bytes_is s [105, 110, 102]
  have b3 := bytes_is s [45, 105, 110, 102]
  rw [decide_eq_false h1] at b1
  rw [decide_eq_false h2] at b2
  rw [decide_eq_false h3] at b3
  have hst := hp2.neg rfl
  have htl := hp2.len
  have hsz : (bytesOf s).size = s.length := bytes_size s
  have htz : (bytesOf t).size = t.length := bytes_size t
  have hsp : 0 < s.length := by rw [hst]; simp
  have hsp2 : 0 < (bytesOf s).size := by omega
  have hg : (bytesOf s)[0] = 45 := by subst hst; rfl
  have hcut : (bytesOf s).extract 1 s.length = bytesOf t := by rw [ext_drop, hst]; rfl
  have hne : ((bytesOf t).toList == (bytesOf s).toList) = false := by
    rw [bytes_toList s, bytes_is, decide_eq_false]
    intro h; have := congrArg List.length h; rw [hst] at this; simp at this
  have htl2 : t.length ≤ 1000 := by omega
  have hH1 := Lib.hid h1
  have HNUM := Lib.hid hp2.num
  clear hp2 hst h1 h2 h3
  go_enter Tryd.func30, Tryd.ntmps30
  go_wp2
  go_loop [5] (fun i => ∃ k : Nat, k ≤ t.length ∧ i = .int .i64 (k : Int) ∧ Hid (∀ d ∈ t.take k, d ≠ 112)) (fun i => t.length - (intOf i).toNat)
  case atStart => exact ⟨0, Nat.zero_le _, rfl, fun d hd => by simp at hd⟩
  case round =>
    obtain ⟨k, hk, rfl, hr⟩ := hrel
    by_cases hlt : k < t.length
    · have htz2 : k < (bytesOf t).size := by omega
      have hget : (bytesOf t)[k] = t[k] := rfl
      by_cases hp : t[k] = 112
      · rw [hp] at hget
        have hex1 := ext_take t k hk
        have hex2 := ext_drop t (k + 1)
        have HCC := Lib.hid (fun b (hb : coreF b = t) => core_cut hb hlt hp hr.out)
        have hla : (t.take k).length ≤ 1000 := by rw [List.length_take]; omega
        have hlb : (t.drop (k + 1)).length ≤ 1000 := by rw [List.length_drop]; omega
        have hbz : (bytesOf (t.drop (k + 1))).size = (t.drop (k + 1)).length := bytes_size _
        have hkl : ((k : Int) == (t.length : Int)) = false := by rw [beq_eq_false_iff_ne]; omega
        have HNA := Lib.hid (number2_any (t.take k) (by omega))
        generalize t.take k = A at *
        generalize t.drop (k + 1) = B at *
        clear hr hp
        have HALL : Hid (∀ b, b < 18446744073709551616 → textF b = s → kindF b < 3 ∧ negF b = true ∧ A = Lib.decDigits (oddF b) ∧ B = Lib.itoa (expF b)) := fun b hb ht => by
          obtain ⟨g1, g2, g3⟩ := HNUM.out b hb ht
          obtain ⟨g4, g5⟩ := HCC.out b g3
          exact ⟨g1, g2, g4, g5⟩
        clear HCC HNUM
        have HB := Lib.hid (minus_cases B)
        obtain ⟨mi, N, hN⟩ := HB.out
        have HMI := Lib.hid (minus_num hN)
        have hNl := minus_len hN
        have HNB := Lib.hid (number2_any N (by omega))
        by_cases hgd : numOk A = true ∧ numOk N = true ∧ numV N ≤ 2000
        · obtain ⟨g1, g2, g3⟩ := hgd
          have hm := num_small g1
          obtain ⟨X, hX⟩ : ∃ X, (if mi then -(numV N : Int) else (numV N : Int)) = X := ⟨_, rfl⟩
          have hXl : -2000 ≤ X ∧ X ≤ 2000 := by rw [← hX]; split <;> omega
          have HBI := Lib.hid (bits2_any (numV A) hm X hXl)
          have HFIT : Hid (∀ b, b < 18446744073709551616 → textF b = s → ∀ (r : Nat) (ok : Bool), (∀ c, c < 9223372036854775808 → kindF c < 3 → -1074 ≤ X → magF c = numV A * 2 ^ (X + 1074).toNat → numV A ≠ 0 → r = c ∧ ok = true) →
              (numV A = 0 → b = 0 + 9223372036854775808) ∧ (numV A ≠ 0 → ok = true ∧ b = r + 9223372036854775808)) := fun b hb ht r ok hc => by
            obtain ⟨q1, q2, q3, q4⟩ := HALL.out b hb ht
            have hx := exp_num q1
            have hv : numV A = oddF b := by rw [q3]; exact (num_dec (odd_lt b)).1
            have hxx := HMI.out (expF b) q4 (by omega)
            rw [← hX, hxx.1] at hc
            exact fit_neg hb q1 q2 hv.symm hc
          rw [g1] at HNA
          rw [g2] at HNB
          generalize numV A = m at *
          generalize numV N = n at *
          clear g1 g2 HMI HALL hXl
          rcases minus_forms hN with ⟨rfl, rfl, rfl⟩ | ⟨rfl, rfl⟩ | ⟨rfl, rfl, c, N', rfl, hc⟩
          · rw [List.length_nil] at hbz
            have hX2 : X = (n : Int) := hX.symm
            clear hX
            subst hX2
            go_wp2_with fail
            refine (HNA.out _).mono ?_
            rintro e w' ⟨rfl, rfl⟩
            go_wp2_with fail
            refine (HNB.out _).mono ?_
            rintro e w' ⟨rfl, rfl⟩
            go_wp2_with fail
            refine (HBI.out _).mono ?_
            rintro e w' ⟨rfl, r, ok, hrl, rfl, hc⟩
            have HFT := Lib.hid (fun b hb ht => HFIT.out b hb ht r ok hc)
            clear hc HFIT HBI HNA HNB
            by_cases hm0 : m = 0
            · have hmz : ((m : Int) == 0) = true := by rw [beq_iff_eq]; omega
              have HTX : Hid (∀ w, Calls Tryd.prog 32 #[.int .u64 9223372036854775808] w (SPost w (bytesOf (textF 9223372036854775808)))) := text2_any 9223372036854775808 (by decide)
              have HB1 : Hid (∀ b, b < 18446744073709551616 → textF b = s → b = 9223372036854775808) := fun b hb ht => (HFT.out b hb ht).1 hm0
              clear HFT hm hm0
              go_wp2_with fail
              refine (HTX.out _).mono ?_
              rintro e w4 ⟨rfl, hf4⟩
              have HF4 := Lib.hid hf4
              clear hf4
              have hcmp : ((bytesOf (textF 9223372036854775808)).toList == (bytesOf s).toList) = decide (textF 9223372036854775808 = s) := by rw [bytes_toList s, bytes_is]
              by_cases ht : textF 9223372036854775808 = s
              · have hres : Read2Post w s (.returned (.tuple #[.int .u64 9223372036854775808, .int .i64 0])) w4 := ⟨HF4.out, .inl ⟨9223372036854775808, by decide, ht, canon_num (fun h4 => hH1.out (by rw [← ht]; unfold textF; rw [if_pos h4])), rfl⟩⟩
                have HRES := Lib.hid hres
                rw [decide_eq_true ht] at hcmp
                clear hres ht
                generalize bytesOf (textF 9223372036854775808) = Y at *
                go_wp2
                go_ret2
                exact HRES.out
              · have HRES : Hid (Read2Post w s (.returned (.tuple #[.int .u64 0, .int .i64 2])) w4) := ⟨HF4.out, .inr ⟨fun b hb hb2 => ht (by rw [← HB1.out b hb hb2]; exact hb2), rfl⟩⟩
                rw [decide_eq_false ht] at hcmp
                clear ht
                generalize bytesOf (textF 9223372036854775808) = Y at *
                go_wp2
                go_ret2
                exact HRES.out
            · have hmz : ((m : Int) == 0) = false := by rw [beq_eq_false_iff_ne]; omega
              cases ok
              · have HBAD : Hid (∀ b, b < 18446744073709551616 → textF b ≠ s) := fun b hb ht => by
                  have := ((HFT.out b hb ht).2 hm0).1
                  cases this
                clear HFT hm hm0
                obtain ⟨RI, hRI⟩ : ∃ RI, (r : Int) = RI := ⟨_, rfl⟩
                have hr0 : 0 ≤ RI ∧ RI < 9223372036854775808 := by omega
                rw [hRI]
                clear hrl hRI
                obtain ⟨hr1, hr2⟩ := hr0
                go_wp2
                go_ret2
                exact ⟨Fr.refl _ _, .inr ⟨HBAD.out, rfl⟩⟩
              · have HB1 : Hid (∀ b, b < 18446744073709551616 → textF b = s → b = (r + 9223372036854775808)) := fun b hb ht => ((HFT.out b hb ht).2 hm0).2
                obtain ⟨RI, hRI⟩ : ∃ RI, (r : Int) = RI := ⟨_, rfl⟩
                have hr0 : 0 ≤ RI ∧ RI < 9223372036854775808 := by omega
                have HTX : Hid (∀ w, Calls Tryd.prog 32 #[.int .u64 (RI + 9223372036854775808)] w (SPost w (bytesOf (textF (r + 9223372036854775808))))) := fun w => by
                  have := text2_any (r + 9223372036854775808) (by omega) w
                  rwa [show (((r + 9223372036854775808) : Nat) : Int) = (RI + 9223372036854775808) by omega] at this
                have HVAL : Hid ((((r + 9223372036854775808) : Nat) : Int) = (RI + 9223372036854775808)) := by show _ = _; omega
                have HLT : Hid ((r + 9223372036854775808) < 18446744073709551616) := by show _ < _; omega
                rw [hRI]
                clear hrl hRI HFT hm hm0
                obtain ⟨hr1, hr2⟩ := hr0
                go_wp2_with fail
                refine (HTX.out _).mono ?_
                rintro e w4 ⟨rfl, hf4⟩
                have HF4 := Lib.hid hf4
                clear hf4
                have hcmp : ((bytesOf (textF (r + 9223372036854775808))).toList == (bytesOf s).toList) = decide (textF (r + 9223372036854775808) = s) := by rw [bytes_toList s, bytes_is]
                by_cases ht : textF (r + 9223372036854775808) = s
                · have hres : Read2Post w s (.returned (.tuple #[.int .u64 (RI + 9223372036854775808), .int .i64 0])) w4 := ⟨HF4.out, .inl ⟨(r + 9223372036854775808), HLT.out, ht, canon_num (fun h4 => hH1.out (by rw [← ht]; unfold textF; rw [if_pos h4])), by rw [HVAL.out]⟩⟩
                  have HRES := Lib.hid hres
                  rw [decide_eq_true ht] at hcmp
                  clear hres ht
                  generalize bytesOf (textF (r + 9223372036854775808)) = Y at *
                  go_wp2
                  go_ret2
                  exact HRES.out
                · have HRES : Hid (Read2Post w s (.returned (.tuple #[.int .u64 0, .int .i64 2])) w4) := ⟨HF4.out, .inr ⟨fun b hb hb2 => ht (by rw [← HB1.out b hb hb2]; exact hb2), rfl⟩⟩
                  rw [decide_eq_false ht] at hcmp
                  clear ht
                  generalize bytesOf (textF (r + 9223372036854775808)) = Y at *
                  go_wp2
                  go_ret2
                  exact HRES.out
          · have hbp : 0 < (bytesOf (45 :: N)).size := by rw [bytes_size]; simp
            have hb0 : (bytesOf (45 :: N))[0] = 45 := rfl
            have hbc : (bytesOf (45 :: N)).extract 1 (N.length + 1) = bytesOf N := ext_drop (45 :: N) 1
            rw [List.length_cons] at hbz
            have hX2 : X = -(n : Int) := hX.symm
            clear hX
            subst hX2
            go_wp2_with fail
            refine (HNA.out _).mono ?_
            rintro e w' ⟨rfl, rfl⟩
            go_wp2_with fail
            refine (HNB.out _).mono ?_
            rintro e w' ⟨rfl, rfl⟩
            go_wp2_with fail
            refine (HBI.out _).mono ?_
            rintro e w' ⟨rfl, r, ok, hrl, rfl, hc⟩
            have HFT := Lib.hid (fun b hb ht => HFIT.out b hb ht r ok hc)
            clear hc HFIT HBI HNA HNB
            by_cases hm0 : m = 0
            · have hmz : ((m : Int) == 0) = true := by rw [beq_iff_eq]; omega
              have HTX : Hid (∀ w, Calls Tryd.prog 32 #[.int .u64 9223372036854775808] w (SPost w (bytesOf (textF 9223372036854775808)))) := text2_any 9223372036854775808 (by decide)
              have HB1 : Hid (∀ b, b < 18446744073709551616 → textF b = s → b = 9223372036854775808) := fun b hb ht => (HFT.out b hb ht).1 hm0
              clear HFT hm hm0
              go_wp2_with fail
              refine (HTX.out _).mono ?_
              rintro e w4 ⟨rfl, hf4⟩
              have HF4 := Lib.hid hf4
              clear hf4
              have hcmp : ((bytesOf (textF 9223372036854775808)).toList == (bytesOf s).toList) = decide (textF 9223372036854775808 = s) := by rw [bytes_toList s, bytes_is]
              by_cases ht : textF 9223372036854775808 = s
              · have hres : Read2Post w s (.returned (.tuple #[.int .u64 9223372036854775808, .int .i64 0])) w4 := ⟨HF4.out, .inl ⟨9223372036854775808, by decide, ht, canon_num (fun h4 => hH1.out (by rw [← ht]; unfold textF; rw [if_pos h4])), rfl⟩⟩
                have HRES := Lib.hid hres
                rw [decide_eq_true ht] at hcmp
                clear hres ht
                generalize bytesOf (textF 9223372036854775808) = Y at *
                go_wp2
                go_ret2
                exact HRES.out
              · have HRES : Hid (Read2Post w s (.returned (.tuple #[.int .u64 0, .int .i64 2])) w4) := ⟨HF4.out, .inr ⟨fun b hb hb2 => ht (by rw [← HB1.out b hb hb2]; exact hb2), rfl⟩⟩
                rw [decide_eq_false ht] at hcmp
                clear ht
                generalize bytesOf (textF 9223372036854775808) = Y at *
                go_wp2
                go_ret2
                exact HRES.out
            · have hmz : ((m : Int) == 0) = false := by rw [beq_eq_false_iff_ne]; omega
              cases ok
              · have HBAD : Hid (∀ b, b < 18446744073709551616 → textF b ≠ s) := fun b hb ht => by
                  have := ((HFT.out b hb ht).2 hm0).1
                  cases this
                clear HFT hm hm0
                obtain ⟨RI, hRI⟩ : ∃ RI, (r : Int) = RI := ⟨_, rfl⟩
                have hr0 : 0 ≤ RI ∧ RI < 9223372036854775808 := by omega
                rw [hRI]
                clear hrl hRI
                obtain ⟨hr1, hr2⟩ := hr0
                go_wp2
                go_ret2
                exact ⟨Fr.refl _ _, .inr ⟨HBAD.out, rfl⟩⟩
              · have HB1 : Hid (∀ b, b < 18446744073709551616 → textF b = s → b = (r + 9223372036854775808)) := fun b hb ht => ((HFT.out b hb ht).2 hm0).2
                obtain ⟨RI, hRI⟩ : ∃ RI, (r : Int) = RI := ⟨_, rfl⟩
                have hr0 : 0 ≤ RI ∧ RI < 9223372036854775808 := by omega
                have HTX : Hid (∀ w, Calls Tryd.prog 32 #[.int .u64 (RI + 9223372036854775808)] w (SPost w (bytesOf (textF (r + 9223372036854775808))))) := fun w => by
                  have := text2_any (r + 9223372036854775808) (by omega) w
                  rwa [show (((r + 9223372036854775808) : Nat) : Int) = (RI + 9223372036854775808) by omega] at this
                have HVAL : Hid ((((r + 9223372036854775808) : Nat) : Int) = (RI + 9223372036854775808)) := by show _ = _; omega
                have HLT : Hid ((r + 9223372036854775808) < 18446744073709551616) := by show _ < _; omega
                rw [hRI]
                clear hrl hRI HFT hm hm0
                obtain ⟨hr1, hr2⟩ := hr0
                go_wp2_with fail
                refine (HTX.out _).mono ?_
                rintro e w4 ⟨rfl, hf4⟩
                have HF4 := Lib.hid hf4
                clear hf4
                have hcmp : ((bytesOf (textF (r + 9223372036854775808))).toList == (bytesOf s).toList) = decide (textF (r + 9223372036854775808) = s) := by rw [bytes_toList s, bytes_is]
                by_cases ht : textF (r + 9223372036854775808) = s
                · have hres : Read2Post w s (.returned (.tuple #[.int .u64 (RI + 9223372036854775808), .int .i64 0])) w4 := ⟨HF4.out, .inl ⟨(r + 9223372036854775808), HLT.out, ht, canon_num (fun h4 => hH1.out (by rw [← ht]; unfold textF; rw [if_pos h4])), by rw [HVAL.out]⟩⟩
                  have HRES := Lib.hid hres
                  rw [decide_eq_true ht] at hcmp
                  clear hres ht
                  generalize bytesOf (textF (r + 9223372036854775808)) = Y at *
                  go_wp2
                  go_ret2
                  exact HRES.out
                · have HRES : Hid (Read2Post w s (.returned (.tuple #[.int .u64 0, .int .i64 2])) w4) := ⟨HF4.out, .inr ⟨fun b hb hb2 => ht (by rw [← HB1.out b hb hb2]; exact hb2), rfl⟩⟩
                  rw [decide_eq_false ht] at hcmp
                  clear ht
                  generalize bytesOf (textF (r + 9223372036854775808)) = Y at *
                  go_wp2
                  go_ret2
                  exact HRES.out
          · have hbp : 0 < (bytesOf (c :: N')).size := by rw [bytes_size]; simp
            have hb0 : (bytesOf (c :: N'))[0] = c := rfl
            have hb1 : ((c.toNat : Int) == 45) = false := by
              rw [beq_eq_false_iff_ne]; intro h
              exact hc (UInt8.toNat_inj.1 (by rw [show (45 : UInt8).toNat = 45 by rfl]; omega))
            rw [List.length_cons] at hbz
            have hX2 : X = (n : Int) := hX.symm
            clear hX
            subst hX2
            go_wp2_with fail
            refine (HNA.out _).mono ?_
            rintro e w' ⟨rfl, rfl⟩
            go_wp2_with fail
            refine (HNB.out _).mono ?_
            rintro e w' ⟨rfl, rfl⟩
            go_wp2_with fail
            refine (HBI.out _).mono ?_
            rintro e w' ⟨rfl, r, ok, hrl, rfl, hc⟩
            have HFT := Lib.hid (fun b hb ht => HFIT.out b hb ht r ok hc)
            clear hc HFIT HBI HNA HNB
            by_cases hm0 : m = 0
            · have hmz : ((m : Int) == 0) = true := by rw [beq_iff_eq]; omega
              have HTX : Hid (∀ w, Calls Tryd.prog 32 #[.int .u64 9223372036854775808] w (SPost w (bytesOf (textF 9223372036854775808)))) := text2_any 9223372036854775808 (by decide)
              have HB1 : Hid (∀ b, b < 18446744073709551616 → textF b = s → b = 9223372036854775808) := fun b hb ht => (HFT.out b hb ht).1 hm0
              clear HFT hm hm0
              go_wp2_with fail
              refine (HTX.out _).mono ?_
              rintro e w4 ⟨rfl, hf4⟩
              have HF4 := Lib.hid hf4
              clear hf4
              have hcmp : ((bytesOf (textF 9223372036854775808)).toList == (bytesOf s).toList) = decide (textF 9223372036854775808 = s) := by rw [bytes_toList s, bytes_is]
              by_cases ht : textF 9223372036854775808 = s
              · have hres : Read2Post w s (.returned (.tuple #[.int .u64 9223372036854775808, .int .i64 0])) w4 := ⟨HF4.out, .inl ⟨9223372036854775808, by decide, ht, canon_num (fun h4 => hH1.out (by rw [← ht]; unfold textF; rw [if_pos h4])), rfl⟩⟩
                have HRES := Lib.hid hres
                rw [decide_eq_true ht] at hcmp
                clear hres ht
                generalize bytesOf (textF 9223372036854775808) = Y at *
                go_wp2
                go_ret2
                exact HRES.out
              · have HRES : Hid (Read2Post w s (.returned (.tuple #[.int .u64 0, .int .i64 2])) w4) := ⟨HF4.out, .inr ⟨fun b hb hb2 => ht (by rw [← HB1.out b hb hb2]; exact hb2), rfl⟩⟩
                rw [decide_eq_false ht] at hcmp
                clear ht
                generalize bytesOf (textF 9223372036854775808) = Y at *
                go_wp2
                go_ret2
                exact HRES.out
            · have hmz : ((m : Int) == 0) = false := by rw [beq_eq_false_iff_ne]; omega
              cases ok
              · have HBAD : Hid (∀ b, b < 18446744073709551616 → textF b ≠ s) := fun b hb ht => by
                  have := ((HFT.out b hb ht).2 hm0).1
                  cases this
                clear HFT hm hm0
                obtain ⟨RI, hRI⟩ : ∃ RI, (r : Int) = RI := ⟨_, rfl⟩
                have hr0 : 0 ≤ RI ∧ RI < 9223372036854775808 := by omega
                rw [hRI]
                clear hrl hRI
                obtain ⟨hr1, hr2⟩ := hr0
                go_wp2
                go_ret2
                exact ⟨Fr.refl _ _, .inr ⟨HBAD.out, rfl⟩⟩
              · have HB1 : Hid (∀ b, b < 18446744073709551616 → textF b = s → b = (r + 9223372036854775808)) := fun b hb ht => ((HFT.out b hb ht).2 hm0).2
                obtain ⟨RI, hRI⟩ : ∃ RI, (r : Int) = RI := ⟨_, rfl⟩
                have hr0 : 0 ≤ RI ∧ RI < 9223372036854775808 := by omega
                have HTX : Hid (∀ w, Calls Tryd.prog 32 #[.int .u64 (RI + 9223372036854775808)] w (SPost w (bytesOf (textF (r + 9223372036854775808))))) := fun w => by
                  have := text2_any (r + 9223372036854775808) (by omega) w
                  rwa [show (((r + 9223372036854775808) : Nat) : Int) = (RI + 9223372036854775808) by omega] at this
                have HVAL : Hid ((((r + 9223372036854775808) : Nat) : Int) = (RI + 9223372036854775808)) := by show _ = _; omega
                have HLT : Hid ((r + 9223372036854775808) < 18446744073709551616) := by show _ < _; omega
                rw [hRI]
                clear hrl hRI HFT hm hm0
                obtain ⟨hr1, hr2⟩ := hr0
                go_wp2_with fail
                refine (HTX.out _).mono ?_
                rintro e w4 ⟨rfl, hf4⟩
                have HF4 := Lib.hid hf4
                clear hf4
                have hcmp : ((bytesOf (textF (r + 9223372036854775808))).toList == (bytesOf s).toList) = decide (textF (r + 9223372036854775808) = s) := by rw [bytes_toList s, bytes_is]
                by_cases ht : textF (r + 9223372036854775808) = s
                · have hres : Read2Post w s (.returned (.tuple #[.int .u64 (RI + 9223372036854775808), .int .i64 0])) w4 := ⟨HF4.out, .inl ⟨(r + 9223372036854775808), HLT.out, ht, canon_num (fun h4 => hH1.out (by rw [← ht]; unfold textF; rw [if_pos h4])), by rw [HVAL.out]⟩⟩
                  have HRES := Lib.hid hres
                  rw [decide_eq_true ht] at hcmp
                  clear hres ht
                  generalize bytesOf (textF (r + 9223372036854775808)) = Y at *
                  go_wp2
                  go_ret2
                  exact HRES.out
                · have HRES : Hid (Read2Post w s (.returned (.tuple #[.int .u64 0, .int .i64 2])) w4) := ⟨HF4.out, .inr ⟨fun b hb hb2 => ht (by rw [← HB1.out b hb hb2]; exact hb2), rfl⟩⟩
                  rw [decide_eq_false ht] at hcmp
                  clear ht
                  generalize bytesOf (textF (r + 9223372036854775808)) = Y at *
                  go_wp2
                  go_ret2
                  exact HRES.out
        · have HBAD : Hid (∀ b, b < 18446744073709551616 → textF b ≠ s) := fun b hb ht => by
            obtain ⟨q1, q2, q3, q4⟩ := HALL.out b hb ht
            have hx := exp_num q1
            have hxx := HMI.out (expF b) q4 (by omega)
            exact hgd ⟨by rw [q3]; exact (num_dec (odd_lt b)).2, hxx.2.1, by omega⟩
          have hc3 : numOk A = false ∨ (numOk A = true ∧ numOk N = false) ∨ (numOk A = true ∧ numOk N = true ∧ 2000 < numV N) := by
            cases h5 : numOk A
            · exact .inl rfl
            · cases h6 : numOk N
              · exact .inr (.inl ⟨rfl, rfl⟩)
              · exact .inr (.inr ⟨rfl, rfl, by rcases Nat.lt_or_ge 2000 (numV N) with h | h; exact h; exact absurd ⟨h5, h6, h⟩ hgd⟩)
          generalize numV A = m at *
          generalize numV N = n at *
          generalize numOk A = oa at *
          generalize numOk N = on at *
          clear hgd HMI
          rcases minus_forms hN with ⟨rfl, rfl, rfl⟩ | ⟨rfl, rfl⟩ | ⟨rfl, rfl, c, N', rfl, hc⟩
          · rw [List.length_nil] at hbz
            rcases hc3 with rfl | ⟨rfl, rfl⟩ | ⟨rfl, rfl, hn3⟩
            all_goals
              go_wp2_with fail
              refine (HNA.out _).mono ?_
              rintro e w' ⟨rfl, rfl⟩
              go_wp2_with fail
              refine (HNB.out _).mono ?_
              rintro e w' ⟨rfl, rfl⟩
              go_wp2
              go_ret2
              exact ⟨Fr.refl _ _, .inr ⟨HBAD.out, rfl⟩⟩
          · have hbp : 0 < (bytesOf (45 :: N)).size := by rw [bytes_size]; simp
            have hb0 : (bytesOf (45 :: N))[0] = 45 := rfl
            have hbc : (bytesOf (45 :: N)).extract 1 (N.length + 1) = bytesOf N := ext_drop (45 :: N) 1
            rw [List.length_cons] at hbz
            rcases hc3 with rfl | ⟨rfl, rfl⟩ | ⟨rfl, rfl, hn3⟩
            all_goals
              go_wp2_with fail
              refine (HNA.out _).mono ?_
              rintro e w' ⟨rfl, rfl⟩
              go_wp2_with fail
              refine (HNB.out _).mono ?_
              rintro e w' ⟨rfl, rfl⟩
              go_wp2
              go_ret2
              exact ⟨Fr.refl _ _, .inr ⟨HBAD.out, rfl⟩⟩
          · have hbp : 0 < (bytesOf (c :: N')).size := by rw [bytes_size]; simp
            have hb0 : (bytesOf (c :: N'))[0] = c := rfl
            have hb1 : ((c.toNat : Int) == 45) = false := by
              rw [beq_eq_false_iff_ne]; intro h
              exact hc (UInt8.toNat_inj.1 (by rw [show (45 : UInt8).toNat = 45 by rfl]; omega))
            rw [List.length_cons] at hbz
            rcases hc3 with rfl | ⟨rfl, rfl⟩ | ⟨rfl, rfl, hn3⟩
            all_goals
              go_wp2_with fail
              refine (HNA.out _).mono ?_
              rintro e w' ⟨rfl, rfl⟩
              go_wp2_with fail
              refine (HNB.out _).mono ?_
              rintro e w' ⟨rfl, rfl⟩
              go_wp2
              go_ret2
              exact ⟨Fr.refl _ _, .inr ⟨HBAD.out, rfl⟩⟩
      · have hne2 : ((t[k].toNat : Int) == 112) = false := by
          rw [beq_eq_false_iff_ne]; intro h
          exact hp (UInt8.toNat_inj.1 (by rw [show (112 : UInt8).toNat = 112 by rfl]; omega))
        have HR : Hid (∀ d ∈ t.take (k + 1), d ≠ 112) := fun d hd => by
          rw [List.take_add_one, List.getElem?_eq_getElem hlt] at hd
          rcases List.mem_append.1 hd with h | h
          · exact hr.out d h
          · rw [Option.toList_some] at h
            rw [List.mem_singleton.1 h]; exact hp
        clear hr hp
        go_wp2
        go_round
        case rel => exact ⟨k + 1, by omega, by go_num, HR⟩
        case measure => simp [intOf]; omega
    · obtain rfl : k = t.length := by omega
      have HBAD : Hid (∀ b, b < 18446744073709551616 → textF b ≠ s) := fun b hb ht => by
        obtain ⟨g1, g2, g3⟩ := HNUM.out b hb ht
        refine core_has g3 (fun d hd => hr.out d ?_)
        rw [List.take_length]; exact hd
      clear hr
      go_wp2
      go_ret2
      exact ⟨Fr.refl _ _, .inr ⟨HBAD.out, rfl⟩⟩
set_option maxRecDepth 100000 in
set_option maxHeartbeats 6400000 in
theorem read2_pos (s : List UInt8) (hs : s.length ≤ 1000) (h1 : s ≠ [110, 97, 110]) (h2 : s ≠ [105, 110, 102]) (h3 : s ≠ [45, 105, 110, 102]) (hp2 : Parts2 s false s) (hh : ∃ c s', s = c :: s' ∧ c ≠ 45) (w : World) :
    Calls Tryd.prog 30 #[.string (bytesOf s)] w (Read2Post w s) := by
  have b1 := bytes_is s [110, 97, 110]
  have b2 := bytes_is s [105, 110, 102]
  have b3 := bytes_is s [45, 105, 110, 102]
  rw [decide_eq_false h1] at b1
  rw [decide_eq_false h2] at b2
  rw [decide_eq_false h3] at b3
  have hsz : (bytesOf s).size = s.length := bytes_size s
  have htz := hsz
  have htl2 := hs
  have hne : ((bytesOf s).toList == (bytesOf s).toList) = true := by rw [bytes_is, bytes_toList, decide_eq_true rfl]
  obtain ⟨c0, s', hst, hc0⟩ := hh
  have hsp : 0 < s.length := by rw [hst]; simp
  have hsp2 : 0 < (bytesOf s).size := by omega
  have hg : (bytesOf s)[0] = c0 := by subst hst; rfl
  have hc1 : ((c0.toNat : Int) == 45) = false := by
    rw [beq_eq_false_iff_ne]; intro h
    exact hc0 (UInt8.toNat_inj.1 (by rw [show (45 : UInt8).toNat = 45 by rfl]; omega))
  have hH1 := Lib.hid h1
  have HNUM := Lib.hid hp2.num
  clear hp2 hst h1 h2 h3
  go_enter Tryd.func30, Tryd.ntmps30
  go_wp2
  go_loop [5] (fun i => ∃ k : Nat, k ≤ s.length ∧ i = .int .i64 (k : Int) ∧ Hid (∀ d ∈ s.take k, d ≠ 112)) (fun i => s.length - (intOf i).toNat)
  case atStart => exact ⟨0, Nat.zero_le _, rfl, fun d hd => by simp at hd⟩
  case round =>
    obtain ⟨k, hk, rfl, hr⟩ := hrel
    by_cases hlt : k < s.length
    · have htz2 : k < (bytesOf s).size := by omega
      have hget : (bytesOf s)[k] = s[k] := rfl
      by_cases hp : s[k] = 112
      · rw [hp] at hget
        have hex1 := ext_take s k hk
        have hex2 := ext_drop s (k + 1)
        have HCC := Lib.hid (fun b (hb : coreF b = s) => core_cut hb hlt hp hr.out)
        have hla : (s.take k).length ≤ 1000 := by rw [List.length_take]; omega
        have hlb : (s.drop (k + 1)).length ≤ 1000 := by rw [List.length_drop]; omega
        have hbz : (bytesOf (s.drop (k + 1))).size = (s.drop (k + 1)).length := bytes_size _
        have hkl : ((k : Int) == (s.length : Int)) = false := by rw [beq_eq_false_iff_ne]; omega
        have HNA := Lib.hid (number2_any (s.take k) (by omega))
        generalize s.take k = A at *
        generalize s.drop (k + 1) = B at *
        clear hr hp
        have HALL : Hid (∀ b, b < 18446744073709551616 → textF b = s → kindF b < 3 ∧ negF b = false ∧ A = Lib.decDigits (oddF b) ∧ B = Lib.itoa (expF b)) := fun b hb ht => by
          obtain ⟨g1, g2, g3⟩ := HNUM.out b hb ht
          obtain ⟨g4, g5⟩ := HCC.out b g3
          exact ⟨g1, g2, g4, g5⟩
        clear HCC HNUM
        have HB := Lib.hid (minus_cases B)
        obtain ⟨mi, N, hN⟩ := HB.out
        have HMI := Lib.hid (minus_num hN)
        have hNl := minus_len hN
        have HNB := Lib.hid (number2_any N (by omega))
        by_cases hgd : numOk A = true ∧ numOk N = true ∧ numV N ≤ 2000
        · obtain ⟨g1, g2, g3⟩ := hgd
          have hm := num_small g1
          obtain ⟨X, hX⟩ : ∃ X, (if mi then -(numV N : Int) else (numV N : Int)) = X := ⟨_, rfl⟩
          have hXl : -2000 ≤ X ∧ X ≤ 2000 := by rw [← hX]; split <;> omega
          have HBI := Lib.hid (bits2_any (numV A) hm X hXl)
          have HFIT : Hid (∀ b, b < 18446744073709551616 → textF b = s → ∀ (r : Nat) (ok : Bool), (∀ c, c < 9223372036854775808 → kindF c < 3 → -1074 ≤ X → magF c = numV A * 2 ^ (X + 1074).toNat → numV A ≠ 0 → r = c ∧ ok = true) →
              (numV A = 0 → b = 0) ∧ (numV A ≠ 0 → ok = true ∧ b = r)) := fun b hb ht r ok hc => by
            obtain ⟨q1, q2, q3, q4⟩ := HALL.out b hb ht
            have hx := exp_num q1
            have hv : numV A = oddF b := by rw [q3]; exact (num_dec (odd_lt b)).1
            have hxx := HMI.out (expF b) q4 (by omega)
            rw [← hX, hxx.1] at hc
            exact fit_pos hb q1 q2 hv.symm hc
          rw [g1] at HNA
          rw [g2] at HNB
          generalize numV A = m at *
          generalize numV N = n at *
          clear g1 g2 HMI HALL hXl
          rcases minus_forms hN with ⟨rfl, rfl, rfl⟩ | ⟨rfl, rfl⟩ | ⟨rfl, rfl, c, N', rfl, hc⟩
          · rw [List.length_nil] at hbz
            have hX2 : X = (n : Int) := hX.symm
            clear hX
            subst hX2
            go_wp2_with fail
            refine (HNA.out _).mono ?_
            rintro e w' ⟨rfl, rfl⟩
            go_wp2_with fail
            refine (HNB.out _).mono ?_
            rintro e w' ⟨rfl, rfl⟩
            go_wp2_with fail
            refine (HBI.out _).mono ?_
            rintro e w' ⟨rfl, r, ok, hrl, rfl, hc⟩
            have HFT := Lib.hid (fun b hb ht => HFIT.out b hb ht r ok hc)
            clear hc HFIT HBI HNA HNB
            by_cases hm0 : m = 0
            · have hmz : ((m : Int) == 0) = true := by rw [beq_iff_eq]; omega
              have HTX : Hid (∀ w, Calls Tryd.prog 32 #[.int .u64 0] w (SPost w (bytesOf (textF 0)))) := text2_any 0 (by decide)
              have HB1 : Hid (∀ b, b < 18446744073709551616 → textF b = s → b = 0) := fun b hb ht => (HFT.out b hb ht).1 hm0
              clear HFT hm hm0
              go_wp2_with fail
              refine (HTX.out _).mono ?_
              rintro e w4 ⟨rfl, hf4⟩
              have HF4 := Lib.hid hf4
              clear hf4
              have hcmp : ((bytesOf (textF 0)).toList == (bytesOf s).toList) = decide (textF 0 = s) := by rw [bytes_toList s, bytes_is]
              by_cases ht : textF 0 = s
              · have hres : Read2Post w s (.returned (.tuple #[.int .u64 0, .int .i64 0])) w4 := ⟨HF4.out, .inl ⟨0, by decide, ht, canon_num (fun h4 => hH1.out (by rw [← ht]; unfold textF; rw [if_pos h4])), rfl⟩⟩
                have HRES := Lib.hid hres
                rw [decide_eq_true ht] at hcmp
                clear hres ht
                generalize bytesOf (textF 0) = Y at *
                go_wp2
                go_ret2
                exact HRES.out
              · have HRES : Hid (Read2Post w s (.returned (.tuple #[.int .u64 0, .int .i64 2])) w4) := ⟨HF4.out, .inr ⟨fun b hb hb2 => ht (by rw [← HB1.out b hb hb2]; exact hb2), rfl⟩⟩
                rw [decide_eq_false ht] at hcmp
                clear ht
                generalize bytesOf (textF 0) = Y at *
                go_wp2
                go_ret2
                exact HRES.out
            · have hmz : ((m : Int) == 0) = false := by rw [beq_eq_false_iff_ne]; omega
              cases ok
              · have HBAD : Hid (∀ b, b < 18446744073709551616 → textF b ≠ s) := fun b hb ht => by
                  have := ((HFT.out b hb ht).2 hm0).1
                  cases this
                clear HFT hm hm0
                obtain ⟨RI, hRI⟩ : ∃ RI, (r : Int) = RI := ⟨_, rfl⟩
                have hr0 : 0 ≤ RI ∧ RI < 9223372036854775808 := by omega
                rw [hRI]
                clear hrl hRI
                obtain ⟨hr1, hr2⟩ := hr0
                go_wp2
                go_ret2
                exact ⟨Fr.refl _ _, .inr ⟨HBAD.out, rfl⟩⟩
              · have HB1 : Hid (∀ b, b < 18446744073709551616 → textF b = s → b = r) := fun b hb ht => ((HFT.out b hb ht).2 hm0).2
                obtain ⟨RI, hRI⟩ : ∃ RI, (r : Int) = RI := ⟨_, rfl⟩
                have hr0 : 0 ≤ RI ∧ RI < 9223372036854775808 := by omega
                have HTX : Hid (∀ w, Calls Tryd.prog 32 #[.int .u64 RI] w (SPost w (bytesOf (textF r)))) := fun w => by
                  have := text2_any r (by omega) w
                  rwa [show ((r : Nat) : Int) = RI by omega] at this
                have HVAL : Hid (((r : Nat) : Int) = RI) := by show _ = _; omega
                have HLT : Hid (r < 18446744073709551616) := by show _ < _; omega
                rw [hRI]
                clear hrl hRI HFT hm hm0
                obtain ⟨hr1, hr2⟩ := hr0
                go_wp2_with fail
                refine (HTX.out _).mono ?_
                rintro e w4 ⟨rfl, hf4⟩
                have HF4 := Lib.hid hf4
                clear hf4
                have hcmp : ((bytesOf (textF r)).toList == (bytesOf s).toList) = decide (textF r = s) := by rw [bytes_toList s, bytes_is]
                by_cases ht : textF r = s
                · have hres : Read2Post w s (.returned (.tuple #[.int .u64 RI, .int .i64 0])) w4 := ⟨HF4.out, .inl ⟨r, HLT.out, ht, canon_num (fun h4 => hH1.out (by rw [← ht]; unfold textF; rw [if_pos h4])), by rw [HVAL.out]⟩⟩
                  have HRES := Lib.hid hres
                  rw [decide_eq_true ht] at hcmp
                  clear hres ht
                  generalize bytesOf (textF r) = Y at *
                  go_wp2
                  go_ret2
                  exact HRES.out
                · have HRES : Hid (Read2Post w s (.returned (.tuple #[.int .u64 0, .int .i64 2])) w4) := ⟨HF4.out, .inr ⟨fun b hb hb2 => ht (by rw [← HB1.out b hb hb2]; exact hb2), rfl⟩⟩
                  rw [decide_eq_false ht] at hcmp
                  clear ht
                  generalize bytesOf (textF r) = Y at *
                  go_wp2
                  go_ret2
                  exact HRES.out
          · have hbp : 0 < (bytesOf (45 :: N)).size := by rw [bytes_size]; simp
            have hb0 : (bytesOf (45 :: N))[0] = 45 := rfl
            have hbc : (bytesOf (45 :: N)).extract 1 (N.length + 1) = bytesOf N := ext_drop (45 :: N) 1
            rw [List.length_cons] at hbz
            have hX2 : X = -(n : Int) := hX.symm
            clear hX
            subst hX2
            go_wp2_with fail
            refine (HNA.out _).mono ?_
            rintro e w' ⟨rfl, rfl⟩
            go_wp2_with fail
            refine (HNB.out _).mono ?_
            rintro e w' ⟨rfl, rfl⟩
            go_wp2_with fail
            refine (HBI.out _).mono ?_
            rintro e w' ⟨rfl, r, ok, hrl, rfl, hc⟩
            have HFT := Lib.hid (fun b hb ht => HFIT.out b hb ht r ok hc)
            clear hc HFIT HBI HNA HNB
            by_cases hm0 : m = 0
            · have hmz : ((m : Int) == 0) = true := by rw [beq_iff_eq]; omega
              have HTX : Hid (∀ w, Calls Tryd.prog 32 #[.int .u64 0] w (SPost w (bytesOf (textF 0)))) := text2_any 0 (by decide)
              have HB1 : Hid (∀ b, b < 18446744073709551616 → textF b = s → b = 0) := fun b hb ht => (HFT.out b hb ht).1 hm0
              clear HFT hm hm0
              go_wp2_with fail
              refine (HTX.out _).mono ?_
              rintro e w4 ⟨rfl, hf4⟩
              have HF4 := Lib.hid hf4
              clear hf4
              have hcmp : ((bytesOf (textF 0)).toList == (bytesOf s).toList) = decide (textF 0 = s) := by rw [bytes_toList s, bytes_is]
              by_cases ht : textF 0 = s
              · have hres : Read2Post w s (.returned (.tuple #[.int .u64 0, .int .i64 0])) w4 := ⟨HF4.out, .inl ⟨0, by decide, ht, canon_num (fun h4 => hH1.out (by rw [← ht]; unfold textF; rw [if_pos h4])), rfl⟩⟩
                have HRES := Lib.hid hres
                rw [decide_eq_true ht] at hcmp
                clear hres ht
                generalize bytesOf (textF 0) = Y at *
                go_wp2
                go_ret2
                exact HRES.out
              · have HRES : Hid (Read2Post w s (.returned (.tuple #[.int .u64 0, .int .i64 2])) w4) := ⟨HF4.out, .inr ⟨fun b hb hb2 => ht (by rw [← HB1.out b hb hb2]; exact hb2), rfl⟩⟩
                rw [decide_eq_false ht] at hcmp
                clear ht
                generalize bytesOf (textF 0) = Y at *
                go_wp2
                go_ret2
                exact HRES.out
            · have hmz : ((m : Int) == 0) = false := by rw [beq_eq_false_iff_ne]; omega
              cases ok
              · have HBAD : Hid (∀ b, b < 18446744073709551616 → textF b ≠ s) := fun b hb ht => by
                  have := ((HFT.out b hb ht).2 hm0).1
                  cases this
                clear HFT hm hm0
                obtain ⟨RI, hRI⟩ : ∃ RI, (r : Int) = RI := ⟨_, rfl⟩
                have hr0 : 0 ≤ RI ∧ RI < 9223372036854775808 := by omega
                rw [hRI]
                clear hrl hRI
                obtain ⟨hr1, hr2⟩ := hr0
                go_wp2
                go_ret2
                exact ⟨Fr.refl _ _, .inr ⟨HBAD.out, rfl⟩⟩
              · have HB1 : Hid (∀ b, b < 18446744073709551616 → textF b = s → b = r) := fun b hb ht => ((HFT.out b hb ht).2 hm0).2
                obtain ⟨RI, hRI⟩ : ∃ RI, (r : Int) = RI := ⟨_, rfl⟩
                have hr0 : 0 ≤ RI ∧ RI < 9223372036854775808 := by omega
                have HTX : Hid (∀ w, Calls Tryd.prog 32 #[.int .u64 RI] w (SPost w (bytesOf (textF r)))) := fun w => by
                  have := text2_any r (by omega) w
                  rwa [show ((r : Nat) : Int) = RI by omega] at this
                have HVAL : Hid (((r : Nat) : Int) = RI) := by show _ = _; omega
                have HLT : Hid (r < 18446744073709551616) := by show _ < _; omega
                rw [hRI]
                clear hrl hRI HFT hm hm0
                obtain ⟨hr1, hr2⟩ := hr0
                go_wp2_with fail
                refine (HTX.out _).mono ?_
                rintro e w4 ⟨rfl, hf4⟩
                have HF4 := Lib.hid hf4
                clear hf4
                have hcmp : ((bytesOf (textF r)).toList == (bytesOf s).toList) = decide (textF r = s) := by rw [bytes_toList s, bytes_is]
                by_cases ht : textF r = s
                · have hres : Read2Post w s (.returned (.tuple #[.int .u64 RI, .int .i64 0])) w4 := ⟨HF4.out, .inl ⟨r, HLT.out, ht, canon_num (fun h4 => hH1.out (by rw [← ht]; unfold textF; rw [if_pos h4])), by rw [HVAL.out]⟩⟩
                  have HRES := Lib.hid hres
                  rw [decide_eq_true ht] at hcmp
                  clear hres ht
                  generalize bytesOf (textF r) = Y at *
                  go_wp2
                  go_ret2
                  exact HRES.out
                · have HRES : Hid (Read2Post w s (.returned (.tuple #[.int .u64 0, .int .i64 2])) w4) := ⟨HF4.out, .inr ⟨fun b hb hb2 => ht (by rw [← HB1.out b hb hb2]; exact hb2), rfl⟩⟩
                  rw [decide_eq_false ht] at hcmp
                  clear ht
                  generalize bytesOf (textF r) = Y at *
                  go_wp2
                  go_ret2
                  exact HRES.out
          · have hbp : 0 < (bytesOf (c :: N')).size := by rw [bytes_size]; simp
            have hb0 : (bytesOf (c :: N'))[0] = c := rfl
            have hb1 : ((c.toNat : Int) == 45) = false := by
              rw [beq_eq_false_iff_ne]; intro h
              exact hc (UInt8.toNat_inj.1 (by rw [show (45 : UInt8).toNat = 45 by rfl]; omega))
            rw [List.length_cons] at hbz
            have hX2 : X = (n : Int) := hX.symm
            clear hX
            subst hX2
            go_wp2_with fail
            refine (HNA.out _).mono ?_
            rintro e w' ⟨rfl, rfl⟩
            go_wp2_with fail
            refine (HNB.out _).mono ?_
            rintro e w' ⟨rfl, rfl⟩
            go_wp2_with fail
            refine (HBI.out _).mono ?_
            rintro e w' ⟨rfl, r, ok, hrl, rfl, hc⟩
            have HFT := Lib.hid (fun b hb ht => HFIT.out b hb ht r ok hc)
            clear hc HFIT HBI HNA HNB
            by_cases hm0 : m = 0
            · have hmz : ((m : Int) == 0) = true := by rw [beq_iff_eq]; omega
              have HTX : Hid (∀ w, Calls Tryd.prog 32 #[.int .u64 0] w (SPost w (bytesOf (textF 0)))) := text2_any 0 (by decide)
              have HB1 : Hid (∀ b, b < 18446744073709551616 → textF b = s → b = 0) := fun b hb ht => (HFT.out b hb ht).1 hm0
              clear HFT hm hm0
              go_wp2_with fail
              refine (HTX.out _).mono ?_
              rintro e w4 ⟨rfl, hf4⟩
              have HF4 := Lib.hid hf4
              clear hf4
              have hcmp : ((bytesOf (textF 0)).toList == (bytesOf s).toList) = decide (textF 0 = s) := by rw [bytes_toList s, bytes_is]
              by_cases ht : textF 0 = s
              · have hres : Read2Post w s (.returned (.tuple #[.int .u64 0, .int .i64 0])) w4 := ⟨HF4.out, .inl ⟨0, by decide, ht, canon_num (fun h4 => hH1.out (by rw [← ht]; unfold textF; rw [if_pos h4])), rfl⟩⟩
                have HRES := Lib.hid hres
                rw [decide_eq_true ht] at hcmp
                clear hres ht
                generalize bytesOf (textF 0) = Y at *
                go_wp2
                go_ret2
                exact HRES.out
              · have HRES : Hid (Read2Post w s (.returned (.tuple #[.int .u64 0, .int .i64 2])) w4) := ⟨HF4.out, .inr ⟨fun b hb hb2 => ht (by rw [← HB1.out b hb hb2]; exact hb2), rfl⟩⟩
                rw [decide_eq_false ht] at hcmp
                clear ht
                generalize bytesOf (textF 0) = Y at *
                go_wp2
                go_ret2
                exact HRES.out
            · have hmz : ((m : Int) == 0) = false := by rw [beq_eq_false_iff_ne]; omega
              cases ok
              · have HBAD : Hid (∀ b, b < 18446744073709551616 → textF b ≠ s) := fun b hb ht => by
                  have := ((HFT.out b hb ht).2 hm0).1
                  cases this
                clear HFT hm hm0
                obtain ⟨RI, hRI⟩ : ∃ RI, (r : Int) = RI := ⟨_, rfl⟩
                have hr0 : 0 ≤ RI ∧ RI < 9223372036854775808 := by omega
                rw [hRI]
                clear hrl hRI
                obtain ⟨hr1, hr2⟩ := hr0
                go_wp2
                go_ret2
                exact ⟨Fr.refl _ _, .inr ⟨HBAD.out, rfl⟩⟩
              · have HB1 : Hid (∀ b, b < 18446744073709551616 → textF b = s → b = r) := fun b hb ht => ((HFT.out b hb ht).2 hm0).2
                obtain ⟨RI, hRI⟩ : ∃ RI, (r : Int) = RI := ⟨_, rfl⟩
                have hr0 : 0 ≤ RI ∧ RI < 9223372036854775808 := by omega
                have HTX : Hid (∀ w, Calls Tryd.prog 32 #[.int .u64 RI] w (SPost w (bytesOf (textF r)))) := fun w => by
                  have := text2_any r (by omega) w
                  rwa [show ((r : Nat) : Int) = RI by omega] at this
                have HVAL : Hid (((r : Nat) : Int) = RI) := by show _ = _; omega
                have HLT : Hid (r < 18446744073709551616) := by show _ < _; omega
                rw [hRI]
                clear hrl hRI HFT hm hm0
                obtain ⟨hr1, hr2⟩ := hr0
                go_wp2_with fail
                refine (HTX.out _).mono ?_
                rintro e w4 ⟨rfl, hf4⟩
                have HF4 := Lib.hid hf4
                clear hf4
                have hcmp : ((bytesOf (textF r)).toList == (bytesOf s).toList) = decide (textF r = s) := by rw [bytes_toList s, bytes_is]
                by_cases ht : textF r = s
                · have hres : Read2Post w s (.returned (.tuple #[.int .u64 RI, .int .i64 0])) w4 := ⟨HF4.out, .inl ⟨r, HLT.out, ht, canon_num (fun h4 => hH1.out (by rw [← ht]; unfold textF; rw [if_pos h4])), by rw [HVAL.out]⟩⟩
                  have HRES := Lib.hid hres
                  rw [decide_eq_true ht] at hcmp
                  clear hres ht
                  generalize bytesOf (textF r) = Y at *
                  go_wp2
                  go_ret2
                  exact HRES.out
                · have HRES : Hid (Read2Post w s (.returned (.tuple #[.int .u64 0, .int .i64 2])) w4) := ⟨HF4.out, .inr ⟨fun b hb hb2 => ht (by rw [← HB1.out b hb hb2]; exact hb2), rfl⟩⟩
                  rw [decide_eq_false ht] at hcmp
                  clear ht
                  generalize bytesOf (textF r) = Y at *
                  go_wp2
                  go_ret2
                  exact HRES.out
        · have HBAD : Hid (∀ b, b < 18446744073709551616 → textF b ≠ s) := fun b hb ht => by
            obtain ⟨q1, q2, q3, q4⟩ := HALL.out b hb ht
            have hx := exp_num q1
            have hxx := HMI.out (expF b) q4 (by omega)
            exact hgd ⟨by rw [q3]; exact (num_dec (odd_lt b)).2, hxx.2.1, by omega⟩
          have hc3 : numOk A = false ∨ (numOk A = true ∧ numOk N = false) ∨ (numOk A = true ∧ numOk N = true ∧ 2000 < numV N) := by
            cases h5 : numOk A
            · exact .inl rfl
            · cases h6 : numOk N
              · exact .inr (.inl ⟨rfl, rfl⟩)
              · exact .inr (.inr ⟨rfl, rfl, by rcases Nat.lt_or_ge 2000 (numV N) with h | h; exact h; exact absurd ⟨h5, h6, h⟩ hgd⟩)
          generalize numV A = m at *
          generalize numV N = n at *
          generalize numOk A = oa at *
          generalize numOk N = on at *
          clear hgd HMI
          rcases minus_forms hN with ⟨rfl, rfl, rfl⟩ | ⟨rfl, rfl⟩ | ⟨rfl, rfl, c, N', rfl, hc⟩
          · rw [List.length_nil] at hbz
            rcases hc3 with rfl | ⟨rfl, rfl⟩ | ⟨rfl, rfl, hn3⟩
            all_goals
              go_wp2_with fail
              refine (HNA.out _).mono ?_
              rintro e w' ⟨rfl, rfl⟩
              go_wp2_with fail
              refine (HNB.out _).mono ?_
              rintro e w' ⟨rfl, rfl⟩
              go_wp2
              go_ret2
              exact ⟨Fr.refl _ _, .inr ⟨HBAD.out, rfl⟩⟩
          · have hbp : 0 < (bytesOf (45 :: N)).size := by rw [bytes_size]; simp
            have hb0 : (bytesOf (45 :: N))[0] = 45 := rfl
            have hbc : (bytesOf (45 :: N)).extract 1 (N.length + 1) = bytesOf N := ext_drop (45 :: N) 1
            rw [List.length_cons] at hbz
            rcases hc3 with rfl | ⟨rfl, rfl⟩ | ⟨rfl, rfl, hn3⟩
            all_goals
              go_wp2_with fail
              refine (HNA.out _).mono ?_
              rintro e w' ⟨rfl, rfl⟩
              go_wp2_with fail
              refine (HNB.out _).mono ?_
              rintro e w' ⟨rfl, rfl⟩
              go_wp2
              go_ret2
              exact ⟨Fr.refl _ _, .inr ⟨HBAD.out, rfl⟩⟩
          · have hbp : 0 < (bytesOf (c :: N')).size := by rw [bytes_size]; simp
            have hb0 : (bytesOf (c :: N'))[0] = c := rfl
            have hb1 : ((c.toNat : Int) == 45) = false := by
              rw [beq_eq_false_iff_ne]; intro h
              exact hc (UInt8.toNat_inj.1 (by rw [show (45 : UInt8).toNat = 45 by rfl]; omega))
            rw [List.length_cons] at hbz
            rcases hc3 with rfl | ⟨rfl, rfl⟩ | ⟨rfl, rfl, hn3⟩
            all_goals
              go_wp2_with fail
              refine (HNA.out _).mono ?_
              rintro e w' ⟨rfl, rfl⟩
              go_wp2_with fail
              refine (HNB.out _).mono ?_
              rintro e w' ⟨rfl, rfl⟩
              go_wp2
              go_ret2
              exact ⟨Fr.refl _ _, .inr ⟨HBAD.out, rfl⟩⟩
      · have hne2 : ((s[k].toNat : Int) == 112) = false := by
          rw [beq_eq_false_iff_ne]; intro h
          exact hp (UInt8.toNat_inj.1 (by rw [show (112 : UInt8).toNat = 112 by rfl]; omega))
        have HR : Hid (∀ d ∈ s.take (k + 1), d ≠ 112) := fun d hd => by
          rw [List.take_add_one, List.getElem?_eq_getElem hlt] at hd
          rcases List.mem_append.1 hd with h | h
          · exact hr.out d h
          · rw [Option.toList_some] at h
            rw [List.mem_singleton.1 h]; exact hp
        clear hr hp
        go_wp2
        go_round
        case rel => exact ⟨k + 1, by omega, by go_num, HR⟩
        case measure => simp [intOf]; omega
    · obtain rfl : k = s.length := by omega
      have HBAD : Hid (∀ b, b < 18446744073709551616 → textF b ≠ s) := fun b hb ht => by
        obtain ⟨g1, g2, g3⟩ := HNUM.out b hb ht
        refine core_has g3 (fun d hd => hr.out d ?_)
        rw [List.take_length]; exact hd
      clear hr
      go_wp2
      go_ret2
      exact ⟨Fr.refl _ _, .inr ⟨HBAD.out, rfl⟩⟩
set_option maxRecDepth 100000 in
theorem read2_nil (w : World) : Calls Tryd.prog 30 #[.string (bytesOf [])] w (Read2Post w []) := by
  have b1 := bytes_is [] [110, 97, 110]
  have b2 := bytes_is [] [105, 110, 102]
  have b3 := bytes_is [] [45, 105, 110, 102]
  rw [decide_eq_false (by simp)] at b1 b2 b3
  have hsz : (bytesOf []).size = 0 := rfl
  have HBAD : Hid (∀ b, b < 18446744073709551616 → textF b ≠ []) := fun b hb ht => by
    have hk := kind_le b
    unfold textF at ht
    split at ht
    · cases ht
    · split at ht
      · split at ht <;> cases ht
      · split at ht
        · cases ht
        · exact core_has (t := []) ht (fun d hd => by cases hd)
  generalize bytesOf [] = S at *
  go_enter Tryd.func30, Tryd.ntmps30
  go_wp2
  go_loop [5] (fun i => i = .int .i64 0) (fun i => 0)
  case atStart => rfl
  case round =>
    subst hrel
    go_wp2
    go_ret2
    exact ⟨Fr.refl _ _, .inr ⟨HBAD.out, rfl⟩⟩
end Go.Proofs.YtcmdcclolkgjeaaDoor
