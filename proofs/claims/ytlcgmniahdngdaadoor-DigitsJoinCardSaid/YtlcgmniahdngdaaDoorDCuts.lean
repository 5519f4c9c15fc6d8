/- The walks of the laws DigitsCuts and DigitsJoin. -/
import Derived.Test.YtlcgmniahdngdaaDoorDLines
namespace Go.Proofs.YtlcgmniahdngdaaDoor
open Go.RowKit

theorem chop_lf (l : List UInt8) : chop (l ++ [10]) = l := by
  unfold chop Lib.trimSuffix
  rw [if_pos (by rw [Lib.hasSuffix]; simp)]
  simp
theorem chop_no (l : List UInt8) (h : ∀ c ∈ l, c ≠ 10) : chop l = l := by
  unfold chop Lib.trimSuffix
  rw [if_neg]
  intro hs
  rw [Lib.hasSuffix] at hs
  have h2 : [10] <:+ l := by simpa using hs
  obtain ⟨t, rfl⟩ := h2
  exact h 10 (by simp) rfl
theorem lines_chop : ∀ (l now : List UInt8), (∀ c ∈ now, c ≠ 10) → (linesK now l).map chop = linesR now l
  | [], now, h => by
    rw [linesK, linesR]
    split
    · rfl
    · rw [List.map_cons, List.map_nil, chop_no now h]
  | c :: l, now, h => by
    rw [linesK, linesR]
    by_cases hc : c = 10
    · rw [if_pos hc, if_pos hc, List.map_cons, chop_lf, lines_chop l [] (fun _ h => by cases h)]
    · rw [if_neg hc, if_neg hc]
      refine lines_chop l _ ?_
      intro d hd
      rcases List.mem_append.1 hd with h2 | h2
      · exact h d h2
      · rw [List.mem_singleton.1 h2]; exact hc
theorem lines_any (l : List UInt8) (hl : l.length ≤ 100000) (w : World) : Calls Tryd.prog 21 #[.string (bytesOf l)] w (StrsPost w (linesR [] l)) := by
  have h := lines_in l hl w
  rw [lines_chop l [] (fun _ h => by cases h)] at h
  exact callsIn_wide.1 h
theorem post_of {w w' : World} {ls : List (List UInt8)} {e : Ending} (h : SRowPost w ls e w') : StrsPost w ls e w' := by
  obtain ⟨v, rfl, ho, _, hf⟩ := h
  exact ⟨v, rfl, strs_of ho, hf⟩
theorem rlines_strs (l : List UInt8) (hl : l.length ≤ 100000) (w : World) : Calls Tryd.prog 22 #[.string (bytesOf l)] w (StrsPost w (linesR [] l)) := (rlines_any l hl w).mono fun _ _ h => post_of h
theorem rfields_strs (l : List UInt8) (hl : l.length ≤ 100000) (w : World) : Calls Tryd.prog 24 #[.string (bytesOf l)] w (StrsPost w (fieldsR [] l)) := (rfields_any l hl w).mono fun _ _ h => post_of h
theorem linesR_len : ∀ (l now : List UInt8), (linesR now l).length ≤ l.length + now.length
  | [], now => by
    rw [linesR]; split
    · simp
    · rename_i h; have := List.length_pos_iff.2 h; simp; omega
  | c :: l, now => by
    rw [linesR]; split
    · have := linesR_len l []; rw [List.length_nil] at this; rw [List.length_cons, List.length_cons]; omega
    · have := linesR_len l (now ++ [c]); simp at this ⊢; omega
theorem flushR_len (now : List UInt8) : (flushR now).length ≤ now.length := by
  unfold flushR
  split
  · simp
  · rename_i h; have := List.length_pos_iff.2 h; simp; omega
theorem fieldsR_len : ∀ (l now : List UInt8), (fieldsR now l).length ≤ l.length + now.length
  | [], now => by rw [fieldsR]; have := flushR_len now; omega
  | c :: l, now => by
    rw [fieldsR]; split
    · have := fieldsR_len l []; have := flushR_len now; rw [List.length_nil] at *; rw [List.length_append, List.length_cons]; omega
    · have := fieldsR_len l (now ++ [c]); simp at this ⊢; omega

/-- Each line with a line feed behind it. -/
def putL (x : List UInt8) : List UInt8 := x ++ [10]
/-- Each field with a blank and a tab ahead of it. -/
def putF (x : List UInt8) : List UInt8 := 32 :: 9 :: x
theorem lines_join : ∀ (l now : List UInt8), (linesR now (l ++ [10])).flatMap putL = now ++ (l ++ [10])
  | [], now => by rw [List.nil_append, linesR, if_pos rfl, linesR, if_pos rfl, List.flatMap_cons, List.flatMap_nil, List.append_nil]; rfl
  | c :: l, now => by
    rw [List.cons_append, linesR]
    by_cases hc : c = 10
    · rw [if_pos hc, List.flatMap_cons, lines_join l [], hc]
      unfold putL
      simp
    · rw [if_neg hc, lines_join l]
      simp
theorem fields_good : ∀ (l now : List UInt8), (∀ c ∈ now, ¬ (c = 32 ∨ c = 9)) → ∀ f ∈ fieldsR now l, f ≠ [] ∧ ∀ c ∈ f, ¬ (c = 32 ∨ c = 9)
  | [], now, h => by
    intro f hf
    rw [fieldsR, flushR] at hf
    split at hf
    · cases hf
    · rw [List.mem_singleton.1 hf]; exact ⟨by assumption, h⟩
  | c :: l, now, h => by
    intro f hf
    rw [fieldsR] at hf
    split at hf
    · rcases List.mem_append.1 hf with h2 | h2
      · unfold flushR at h2
        split at h2
        · cases h2
        · rw [List.mem_singleton.1 h2]; exact ⟨by assumption, h⟩
      · exact fields_good l [] (fun _ h => by cases h) f h2
    · rename_i hc
      refine fields_good l _ ?_ f hf
      intro d hd
      rcases List.mem_append.1 hd with h2 | h2
      · exact h d h2
      · rw [List.mem_singleton.1 h2]; exact hc
theorem fields_join : ∀ (ls : List (List UInt8)), (∀ f ∈ ls, f ≠ [] ∧ ∀ c ∈ f, ¬ (c = 32 ∨ c = 9)) → ∀ now, fieldsR now (ls.flatMap putF) = flushR now ++ ls
  | [], _, now => by rw [List.flatMap_nil, fieldsR, List.append_nil]
  | f :: ls, h, now => by
    obtain ⟨h1, h2⟩ := h f List.mem_cons_self
    rw [List.flatMap_cons]
    show fieldsR now (32 :: 9 :: (f ++ ls.flatMap putF)) = _
    rw [fieldsR, if_pos (.inl rfl), fieldsR, if_pos (.inr rfl), fieldsR_run f [] _ h2, List.nil_append, fields_join ls (fun g hg => h g (List.mem_cons_of_mem _ hg)) f]
    unfold flushR
    rw [if_neg h1]
    simp
theorem fields_size : ∀ (l now : List UInt8), ((fieldsR now l).flatMap putF).length ≤ 3 * (l.length + now.length)
  | [], now => by
    rw [fieldsR, flushR]
    split
    · simp
    · rename_i h; have := List.length_pos_iff.2 h; unfold putF; simp; omega
  | c :: l, now => by
    rw [fieldsR]
    split
    · have h1 := fields_size l []
      rw [List.flatMap_append, List.length_append]
      have h2 : ((flushR now).flatMap putF).length ≤ 3 * now.length := by
        unfold flushR
        split
        · simp
        · rename_i h; have := List.length_pos_iff.2 h; unfold putF; simp; omega
      rw [List.length_nil] at h1
      rw [List.length_cons]
      omega
    · have := fields_size l (now ++ [c]); simp at this ⊢; omega

set_option maxHeartbeats 1600000 in
set_option maxRecDepth 100000 in
theorem DigitsCuts_any (l : List UInt8) (W : World) (hE : ErrW W) (hP : Lib.TabIs Tryd.prog W "internal/strconv.uint64pow10" .u64 Lib.pow10Tab) : Calls Tryd.prog 5 #[.string (bytesOf l)] W (LawPost W) := by
  have HL := Lib.hid (fun w' (hf : Fr (fun _ => False) W w') => lives_any w' (hE.frame hf) (tabIs_frame hP hf))
  have hsz : (bytesOf l).size = l.length := bytes_size l
  by_cases hl : 2000 < l.length
  · generalize bytesOf l = S at *
    clear hE hP
    go_enter Tryd.func5, Tryd.ntmps5
    go_wp2_with fail
    refine (HL.out W (Fr.refl _ W)).mono ?_
    rintro e w1 ⟨rfl, hf⟩
    have HF := Lib.hid hf
    clear hf
    go_wp2
    go_ret
    exact ⟨rfl, HF.out⟩
  · have H1 := Lib.hid (lines_any l (by omega))
    have H2 := Lib.hid (rlines_strs l (by omega))
    have H3 := Lib.hid (fields_any l (by omega))
    have H4 := Lib.hid (rfields_strs l (by omega))
    have n1 := linesR_len l []
    have n2 := fieldsR_len l []
    rw [List.length_nil] at n1 n2
    have HS1 := Lib.hid (fun v1 v2 => same_true (linesR [] l) v1 v2 (by omega))
    have HS2 := Lib.hid (fun v1 v2 => same_true (fieldsR [] l) v1 v2 (by omega))
    generalize linesR [] l = A at *
    generalize fieldsR [] l = B at *
    generalize bytesOf l = S at *
    clear hE hP n1 n2
    go_enter Tryd.func5, Tryd.ntmps5
    go_wp2_with fail
    refine (H1.out _).mono ?_
    rintro e w1 ⟨v1, rfl, hs1, hf⟩
    have HA1 := Lib.hid hs1
    have HF1 := Lib.hid hf
    clear hf hs1
    go_wp2_with fail
    refine (H2.out _).mono ?_
    rintro e w2 ⟨v2, rfl, hs2, hf⟩
    have HA2 := Lib.hid (And.intro (HA1.out.frame hf) hs2)
    have HF2 := Lib.hid (HF1.out.then hf)
    clear hf hs2
    go_wp2_with fail
    refine (HS1.out _ _ _ HA2.out.1 HA2.out.2).mono ?_
    rintro e w3 ⟨rfl, hf⟩
    have HF3 := Lib.hid (HF2.out.then hf)
    clear hf
    go_wp2_with fail
    refine (H3.out _).mono ?_
    rintro e w4 ⟨v3, rfl, hs3, hf⟩
    have HA3 := Lib.hid hs3
    have HF4 := Lib.hid (HF3.out.then hf)
    clear hf hs3
    go_wp2_with fail
    refine (H4.out _).mono ?_
    rintro e w5 ⟨v4, rfl, hs4, hf⟩
    have HA4 := Lib.hid (And.intro (HA3.out.frame hf) hs4)
    have HF5 := Lib.hid (HF4.out.then hf)
    clear hf hs4
    go_wp2_with fail
    refine (HS2.out _ _ _ HA4.out.1 HA4.out.2).mono ?_
    rintro e w6 ⟨rfl, hf⟩
    have HF6 := Lib.hid (HF5.out.then hf)
    clear hf
    go_wp2_with fail
    refine (HL.out _ HF6.out).mono ?_
    rintro e w7 ⟨rfl, hf⟩
    have HF7 := Lib.hid (HF6.out.then hf)
    clear hf
    go_wp2
    go_ret
    exact ⟨rfl, HF7.out⟩
theorem DigitsCuts_of (s : ByteArray) (W : World) (hL : laidMetH Tryd.prog Rows.digitsReadsRow.laid W) : Calls Tryd.prog 5 #[.string s] W (LawPost W) :=
  DigitsCuts_any s.data.toList W (errw_of hL) (tabs_of hL).2
end Go.Proofs.YtlcgmniahdngdaaDoor
