/- The walks of the laws DigitsCuts and DigitsJoin. -/
import Derived.Test.YtlcgmniahdngdaaGreatDoorDLines
namespace Go.Proofs.YtlcgmniahdngdaaGreatDoor
open Go.RowKit

theorem chop_lf (l : List UInt8) : chop (l ++ [10]) = l := by
  unfold chop Lib.trimSuffix
  rw [if_pos (by rw [Lib.hasSuffix]; simp)]
  simp
theorem chop_no (l : List UInt8) (h : ∀ c ∈ l, c ≠ 10) : chop l = l := by
  unfold chop Lib.trimSuffix
  rw [if_neg]
  intro hs
  rw [Lib.hasSuffix] at hs
  have h2 : [10] <:+ l := by simpa using hs
  obtain ⟨t, rfl⟩ := h2
  exact h 10 (by simp) rfl
theorem lines_chop : ∀ (l now : List UInt8), (∀ c ∈ now, c ≠ 10) → (linesK now l).map chop = linesR now l
  | [], now, h => by
    rw [linesK, linesR]
    split
    · rfl
    · rw [List.map_cons, List.map_nil, chop_no now h]
  | c :: l, now, h => by
    rw [linesK, linesR]
    by_cases hc : c = 10
    · rw [if_pos hc, if_pos hc, List.map_cons, chop_lf, lines_chop l [] (fun _ h => by cases h)]
    · rw [if_neg hc, if_neg hc]
      refine lines_chop l _ ?_
      intro d hd
      rcases List.mem_append.1 hd with h2 | h2
      · exact h d h2
      · rw [List.mem_singleton.1 h2]; exact hc
theorem lines_any (l : List UInt8) (hl : l.length ≤ 100000) (w : World) : Calls Tryz.prog 19 #[.string (bytesOf l)] w (StrsPost w (linesR [] l)) := by
  have h := lines_in l hl w
  rw [lines_chop l [] (fun _ h => by cases h)] at h
  exact callsIn_wide.1 h
theorem post_of {w w' : World} {ls : List (List UInt8)} {e : Ending} (h : SRowPost w ls e w') : StrsPost w ls e w' := by
  obtain ⟨v, rfl, ho, _, hf⟩ := h
  exact ⟨v, rfl, strs_of ho, hf⟩
theorem linesR_len : ∀ (l now : List UInt8), (linesR now l).length ≤ l.length + now.length
  | [], now => by
    rw [linesR]; split
    · simp
    · rename_i h; have := List.length_pos_iff.2 h; simp; omega
  | c :: l, now => by
    rw [linesR]; split
    · have := linesR_len l []; rw [List.length_nil] at this; rw [List.length_cons, List.length_cons]; omega
    · have := linesR_len l (now ++ [c]); simp at this ⊢; omega
theorem flushR_len (now : List UInt8) : (flushR now).length ≤ now.length := by
  unfold flushR
  split
  · simp
  · rename_i h; have := List.length_pos_iff.2 h; simp; omega
theorem fieldsR_len : ∀ (l now : List UInt8), (fieldsR now l).length ≤ l.length + now.length
  | [], now => by rw [fieldsR]; have := flushR_len now; omega
  | c :: l, now => by
    rw [fieldsR]; split
    · have := fieldsR_len l []; have := flushR_len now; rw [List.length_nil] at *; rw [List.length_append, List.length_cons]; omega
    · have := fieldsR_len l (now ++ [c]); simp at this ⊢; omega

/-- Each line with a line feed behind it. -/
def putL (x : List UInt8) : List UInt8 := x ++ [10]
/-- Each field with a blank and a tab ahead of it. -/
def putF (x : List UInt8) : List UInt8 := 32 :: 9 :: x
theorem lines_join : ∀ (l now : List UInt8), (linesR now (l ++ [10])).flatMap putL = now ++ (l ++ [10])
  | [], now => by rw [List.nil_append, linesR, if_pos rfl, linesR, if_pos rfl, List.flatMap_cons, List.flatMap_nil, List.append_nil]; rfl
  | c :: l, now => by
    rw [List.cons_append, linesR]
    by_cases hc : c = 10
    · rw [if_pos hc, List.flatMap_cons, lines_join l [], hc]
      unfold putL
      simp
    · rw [if_neg hc, lines_join l]
      simp
theorem fields_good : ∀ (l now : List UInt8), (∀ c ∈ now, ¬ (c = 32 ∨ c = 9)) → ∀ f ∈ fieldsR now l, f ≠ [] ∧ ∀ c ∈ f, ¬ (c = 32 ∨ c = 9)
  | [], now, h => by
    intro f hf
    rw [fieldsR, flushR] at hf
    split at hf
    · cases hf
    · rw [List.mem_singleton.1 hf]; exact ⟨by assumption, h⟩
  | c :: l, now, h => by
    intro f hf
    rw [fieldsR] at hf
    split at hf
    · rcases List.mem_append.1 hf with h2 | h2
      · unfold flushR at h2
        split at h2
        · cases h2
        · rw [List.mem_singleton.1 h2]; exact ⟨by assumption, h⟩
      · exact fields_good l [] (fun _ h => by cases h) f h2
    · rename_i hc
      refine fields_good l _ ?_ f hf
      intro d hd
      rcases List.mem_append.1 hd with h2 | h2
      · exact h d h2
      · rw [List.mem_singleton.1 h2]; exact hc
theorem fields_join : ∀ (ls : List (List UInt8)), (∀ f ∈ ls, f ≠ [] ∧ ∀ c ∈ f, ¬ (c = 32 ∨ c = 9)) → ∀ now, fieldsR now (ls.flatMap putF) = flushR now ++ ls
  | [], _, now => by rw [List.flatMap_nil, fieldsR, List.append_nil]
  | f :: ls, h, now => by
    obtain ⟨h1, h2⟩ := h f List.mem_cons_self
    rw [List.flatMap_cons]
    show fieldsR now (32 :: 9 :: (f ++ ls.flatMap putF)) = _
    rw [fieldsR, if_pos (.inl rfl), fieldsR, if_pos (.inr rfl), fieldsR_run f [] _ h2, List.nil_append, fields_join ls (fun g hg => h g (List.mem_cons_of_mem _ hg)) f]
    unfold flushR
    rw [if_neg h1]
    simp
theorem fields_size : ∀ (l now : List UInt8), ((fieldsR now l).flatMap putF).length ≤ 3 * (l.length + now.length)
  | [], now => by
    rw [fieldsR, flushR]
    split
    · simp
    · rename_i h; have := List.length_pos_iff.2 h; unfold putF; simp; omega
  | c :: l, now => by
    rw [fieldsR]
    split
    · have h1 := fields_size l []
      rw [List.flatMap_append, List.length_append]
      have h2 : ((flushR now).flatMap putF).length ≤ 3 * now.length := by
        unfold flushR
        split
        · simp
        · rename_i h; have := List.length_pos_iff.2 h; unfold putF; simp; omega
      rw [List.length_nil] at h1
      rw [List.length_cons]
      omega
    · have := fields_size l (now ++ [c]); simp at this ⊢; omega

end Go.Proofs.YtlcgmniahdngdaaGreatDoor
