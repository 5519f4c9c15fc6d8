/- Plain lemmas: digits to a base, what they are worth, and how a number is written with them. -/
import Derived.Test.YtlcgmniahdngdaaGreatDoorFRefBits
import Derived.Lib.ParseIntBCases
import Derived.Lib.ItoaMem
import Derived.Lib.Hide
import Derived.Lib.Strings
import Derived.Test.YtlcgmniahdngdaaGreatDoorShelf
import Derived.Lib.AppendIntMem
import Derived.Laws.BitsAllLaws
import Derived.Laws.BitsLemmas
import Derived.Lib.BitFns
import Derived.Lib.TrailingZeros
namespace Go.Proofs.YtlcgmniahdngdaaGreatDoor
open Go.RowKit

def digV (c : UInt8) : Nat := if 48 ≤ c.toNat ∧ c.toNat ≤ 57 then c.toNat - 48 else if 97 ≤ c.toNat ∧ c.toNat ≤ 102 then c.toNat - 87 else 99
def charV (d : Nat) : UInt8 := if d < 10 then UInt8.ofNat (48 + d) else UInt8.ofNat (87 + d)
theorem char_nat {d : Nat} (h : d < 16) : (charV d).toNat = if d < 10 then 48 + d else 87 + d := by
  unfold charV
  split <;> (rw [UInt8.toNat_ofNat']; omega)
theorem dig_char {d : Nat} (h : d < 16) : digV (charV d) = d := by
  unfold digV
  rw [char_nat h]
  split <;> split <;> (try split) <;> omega
theorem char_dig {c : UInt8} (h : digV c < 16) : charV (digV c) = c := by
  refine UInt8.toNat_inj.1 ?_
  rw [char_nat h]
  unfold digV at h ⊢
  split
  · rename_i h1
    split <;> omega
  · rename_i h1
    rw [if_neg h1] at h
    split
    · split <;> omega
    · rename_i h2; rw [if_neg h2] at h; omega
theorem dig_zero {c : UInt8} (h : digV c = 0) : c = 48 := by
  refine UInt8.toNat_inj.1 ?_
  unfold digV at h
  rw [show (48 : UInt8).toNat = 48 by rfl]
  split at h
  · omega
  · split at h <;> omega
def valB (b acc : Nat) (l : List UInt8) : Nat := l.foldl (fun a c => a * b + digV c) acc
theorem valB_nil (b acc : Nat) : valB b acc [] = acc := by
  unfold valB
  rw [List.foldl_nil]
theorem valB_cons (b acc : Nat) (c : UInt8) (l : List UInt8) : valB b acc (c :: l) = valB b (acc * b + digV c) l := by
  unfold valB
  rw [List.foldl_cons]
theorem valB_snoc (b acc : Nat) (l : List UInt8) (c : UInt8) : valB b acc (l ++ [c]) = valB b acc l * b + digV c := by
  unfold valB
  rw [List.foldl_append, List.foldl_cons, List.foldl_nil]
theorem le_valB (b : Nat) (hb : 1 ≤ b) : ∀ (l : List UInt8) (acc : Nat), acc ≤ valB b acc l
  | [], acc => by rw [valB_nil]; exact Nat.le_refl _
  | c :: l, acc => by
    rw [valB_cons]
    refine Nat.le_trans ?_ (le_valB b hb l _)
    have := Nat.le_mul_of_pos_right acc hb
    omega
def digB (b u : Nat) : List UInt8 := if _h : u < b ∨ b < 2 then [charV u] else digB b (u / b) ++ [charV (u % b)]
termination_by u
decreasing_by exact Nat.div_lt_self (by omega) (by omega)
theorem digB_small {b u : Nat} (h : u < b) : digB b u = [charV u] := by rw [digB, dif_pos (.inl h)]
theorem digB_big {b u : Nat} (h : ¬ u < b) (hb : 2 ≤ b) : digB b u = digB b (u / b) ++ [charV (u % b)] := by rw [digB, dif_neg (by omega)]

/-- A row of digits of a base without a needless nought. -/
structure Plain (b : Nat) (l : List UInt8) : Prop where
  ne : l ≠ []
  head : 1 < l.length → l.head? ≠ some 48
  digs : ∀ c ∈ l, digV c < b
theorem digB_facts (b : Nat) (hb : 2 ≤ b) (hb2 : b ≤ 16) (u : Nat) : (∀ c ∈ digB b u, digV c < b) ∧ valB b 0 (digB b u) = u ∧ digB b u ≠ [] ∧ (0 < u → (digB b u).head? ≠ some 48) ∧ (u = 0 → digB b u = [48]) := by
  induction u using Nat.strongRecOn with
  | _ u ih =>
    by_cases h : u < b
    · rw [digB_small h]
      refine ⟨fun c hc => ?_, ?_, by simp, fun h0 => ?_, fun h0 => ?_⟩
      · rw [List.mem_singleton] at hc; subst hc; rw [dig_char (by omega)]; exact h
      · rw [valB_cons, valB_nil, dig_char (by omega)]; omega
      · intro h1
        have h2 : charV u = 48 := by simpa using h1
        have := dig_char (d := u) (by omega)
        rw [h2] at this
        have h3 : digV 48 = 0 := by decide
        omega
      · subst h0; rfl
    · have hlt : u / b < u := Nat.div_lt_self (by omega) (by omega)
      have hm := Nat.mod_lt u (by omega : 0 < b)
      obtain ⟨i1, i2, i3, i4, i5⟩ := ih (u / b) hlt
      have hp : 0 < u / b := Nat.div_pos (by omega) (by omega)
      rw [digB_big h hb]
      refine ⟨fun c hc => ?_, ?_, by simp, fun _ => ?_, fun h0 => by omega⟩
      · rcases List.mem_append.1 hc with h1 | h1
        · exact i1 c h1
        · rw [List.mem_singleton] at h1; subst h1; rw [dig_char (by omega)]; exact hm
      · rw [valB_snoc, i2, dig_char (by omega), Nat.mul_comm]; exact Nat.div_add_mod u b
      · have := i4 hp
        cases hd : digB b (u / b) with
        | nil => exact absurd hd i3
        | cons x y => rw [hd] at this; exact this
theorem digB_plain (b : Nat) (hb : 2 ≤ b) (hb2 : b ≤ 16) (u : Nat) : Plain b (digB b u) := by
  obtain ⟨h1, h2, h3, h4, h5⟩ := digB_facts b hb hb2 u
  refine ⟨h3, fun hl => ?_, h1⟩
  rcases Nat.eq_zero_or_pos u with h0 | h0
  · rw [h5 h0] at hl; simp at hl
  · exact h4 h0
theorem val_pos (b : Nat) (hb : 2 ≤ b) {l : List UInt8} (h0 : l ≠ []) (hh : l.head? ≠ some 48) : 0 < valB b 0 l := by
  cases l with
  | nil => exact absurd rfl h0
  | cons c l =>
    have h1 : c ≠ 48 := fun h => hh (by rw [h]; rfl)
    have h2 : digV c ≠ 0 := fun h => h1 (dig_zero h)
    rw [valB_cons]
    have := le_valB b (by omega) l (0 * b + digV c)
    omega
/-- What is read from a row of digits is written as it stood. -/
theorem dig_val_n (b : Nat) (hb : 2 ≤ b) (hb2 : b ≤ 16) : ∀ (n : Nat) (l : List UInt8), l.length = n → Plain b l → digB b (valB b 0 l) = l
  | 0, l, hn, hp => absurd (List.length_eq_zero_iff.1 hn) hp.ne
  | n + 1, l, hn, hp => by
    obtain ⟨m, c, rfl⟩ : ∃ m c, l = m ++ [c] := ⟨l.dropLast, l.getLast hp.ne, (List.dropLast_concat_getLast hp.ne).symm⟩
    have hc := hp.digs c (by simp)
    have hmn : m.length = n := by simpa using hn
    rw [valB_snoc]
    cases m with
    | nil =>
      rw [valB_nil, Nat.zero_mul, Nat.zero_add, digB_small hc, char_dig (by omega)]
      rfl
    | cons x y =>
      have hhead : (x :: y).head? ≠ some 48 := by
        have := hp.head (by simp)
        simpa using this
      have hpm : Plain b (x :: y) := ⟨by simp, fun _ => hhead, fun d hd => hp.digs d (List.mem_append_left _ hd)⟩
      have ih := dig_val_n b hb hb2 n (x :: y) hmn hpm
      have hv := val_pos b hb (l := x :: y) (by simp) hhead
      generalize valB b 0 (x :: y) = v at *
      have h1 : b ≤ v * b := Nat.le_mul_of_pos_left b hv
      rw [digB_big (by omega) hb]
      have h2 : (v * b + digV c) / b = v := by
        rw [Nat.mul_comm, Nat.mul_add_div (by omega), Nat.div_eq_of_lt hc, Nat.add_zero]
      have h3 : (v * b + digV c) % b = digV c := by
        rw [Nat.mul_comm, Nat.mul_add_mod, Nat.mod_eq_of_lt hc]
      rw [h2, h3, ih, char_dig (by omega)]
theorem dig_val' (b : Nat) (hb : 2 ≤ b) (hb2 : b ≤ 16) {l : List UInt8} (hp : Plain b l) : digB b (valB b 0 l) = l := dig_val_n b hb hb2 _ l rfl hp

theorem dec_digB (u : Nat) : Lib.decDigits u = digB 10 u := by
  induction u using Nat.strongRecOn with
  | _ u ih =>
    rw [Lib.decDigits]
    by_cases h : u < 10
    · rw [dif_pos h, digB_small h]; unfold charV; rw [if_pos h]
    · rw [dif_neg h, digB_big h (by decide), ih (u / 10) (by omega)]
      unfold charV; rw [if_pos (by omega)]
/-- A row of decimal digits, parsed. -/
theorem parse_val : ∀ (l : List UInt8) (acc : Nat), (∀ c ∈ l, digV c < 10) → acc < 18446744073709551616 → Lib.parseUint10 acc l = if valB 10 acc l < 18446744073709551616 then .ok (valB 10 acc l) else .range
  | [], acc, _, ha => by rw [valB_nil, if_pos ha]; rfl
  | c :: l, acc, hd, ha => by
    have hc := hd c List.mem_cons_self
    have hl := le_valB 10 (by decide) l (acc * 10 + digV c)
    have hcc : 48 ≤ c.toNat ∧ c.toNat ≤ 57 ∧ digV c = c.toNat - 48 := by
      unfold digV at hc ⊢
      split at hc
      · rename_i h; exact ⟨h.1, h.2, by rw [if_pos h]⟩
      · split at hc <;> omega
    rw [valB_cons, Lib.parseUint10, if_pos ⟨hcc.1, hcc.2.1⟩, ← hcc.2.2]
    by_cases h1 : 1844674407370955162 ≤ acc
    · rw [if_pos h1, if_neg (by omega)]
    · rw [if_neg h1]
      by_cases h2 : 18446744073709551616 ≤ acc * 10 + digV c
      · rw [if_pos h2, if_neg (by omega)]
      · rw [if_neg h2]
        exact parse_val l _ (fun d hd' => hd d (List.mem_cons_of_mem _ hd')) (by omega)

open Classical in
/-- What a text is to a base: the number, and why it is none. -/
noncomputable def readN (b : Nat) (l : List UInt8) : Nat := if Plain b l ∧ valB b 0 l < 18446744073709551616 then valB b 0 l else 0
open Classical in
noncomputable def readE (b : Nat) (l : List UInt8) : Nat := if Plain b l then (if valB b 0 l < 18446744073709551616 then 0 else 4) else 2
theorem read_form {b : Nat} {l : List UInt8} (h : ¬ Plain b l) : readN b l = 0 ∧ readE b l = 2 := by unfold readN readE; rw [if_neg (fun k => h k.1), if_neg h]; exact ⟨rfl, rfl⟩
theorem read_ok {b : Nat} {l : List UInt8} (h : Plain b l) (hv : valB b 0 l < 18446744073709551616) : readN b l = valB b 0 l ∧ readE b l = 0 := by unfold readN readE; rw [if_pos ⟨h, hv⟩, if_pos h, if_pos hv]; exact ⟨rfl, rfl⟩
theorem read_over {b : Nat} {l : List UInt8} (h : Plain b l) (hv : ¬ valB b 0 l < 18446744073709551616) : readN b l = 0 ∧ readE b l = 4 := by unfold readN readE; rw [if_neg (fun k => hv k.2), if_pos h, if_neg hv]; exact ⟨rfl, rfl⟩
theorem read_cases (b : Nat) (l : List UInt8) : (¬ Plain b l ∧ readN b l = 0 ∧ readE b l = 2) ∨ (Plain b l ∧ valB b 0 l < 18446744073709551616 ∧ readN b l = valB b 0 l ∧ readE b l = 0) ∨ (Plain b l ∧ ¬ valB b 0 l < 18446744073709551616 ∧ readN b l = 0 ∧ readE b l = 4) := by
  by_cases h : Plain b l
  · by_cases hv : valB b 0 l < 18446744073709551616
    · exact .inr (.inl ⟨h, hv, read_ok h hv⟩)
    · exact .inr (.inr ⟨h, hv, read_over h hv⟩)
  · exact .inl ⟨h, read_form h⟩
theorem read_dig (b : Nat) (hb : 2 ≤ b) (hb2 : b ≤ 16) {u : Nat} (hu : u < 18446744073709551616) : readN b (digB b u) = u ∧ readE b (digB b u) = 0 := by
  have h := (digB_facts b hb hb2 u).2.1
  have := read_ok (digB_plain b hb hb2 u) (by rw [h]; exact hu)
  rwa [h] at this
theorem dig_read (b : Nat) (hb : 2 ≤ b) (hb2 : b ≤ 16) {l : List UInt8} (h : readE b l = 0) : digB b (readN b l) = l ∧ readN b l < 18446744073709551616 := by
  rcases read_cases b l with ⟨_, _, e⟩ | ⟨h1, h2, h3, _⟩ | ⟨_, _, _, e⟩
  · rw [e] at h; cases h
  · rw [h3]; exact ⟨dig_val' b hb hb2 h1, h2⟩
  · rw [e] at h; cases h

theorem digits_len {u : Nat} (h : u < 18446744073709551616) : (Lib.decDigits u).length ≤ 20 := by
  rw [Lib.decDigits_length]
  by_cases h0 : u = 0
  · subst h0; rw [Lib.nDigits, dif_pos (by decide)]; decide
  · have := Lib.numDigits_eq u (by omega) h
    split at this <;> omega
end Go.Proofs.YtlcgmniahdngdaaGreatDoor

/- The walk of strconv.FormatUint to the base 10. -/
namespace Go.Proofs.YtlcgmniahdngdaaGreatDoor
open Go.RowKit Go.Sort

end Go.Proofs.YtlcgmniahdngdaaGreatDoor

/- The walk of math/bits.TrailingZeros64. -/
namespace Go.Proofs.YtlcgmniahdngdaaGreatDoor
open Go.RowKit

end Go.Proofs.YtlcgmniahdngdaaGreatDoor
