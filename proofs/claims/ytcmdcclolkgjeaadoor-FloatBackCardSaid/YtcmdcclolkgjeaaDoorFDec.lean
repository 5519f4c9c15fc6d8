/- Decimal digits: what they are worth, and that they are read as they were. -/
import Derived.Test.YtcmdcclolkgjeaaDoorFExact
import Derived.Lib.ParseIntBCases
import Derived.Lib.ItoaMem
namespace Go.Proofs.YtcmdcclolkgjeaaDoor
open Go.RowKit

def IsDig (c : UInt8) : Prop := 48 ≤ c.toNat ∧ c.toNat ≤ 57
def valD (acc : Nat) (l : List UInt8) : Nat := l.foldl (fun a c => a * 10 + (c.toNat - 48)) acc
theorem valD_cons (acc : Nat) (c : UInt8) (l : List UInt8) : valD acc (c :: l) = valD (acc * 10 + (c.toNat - 48)) l := by
  unfold valD
  rw [List.foldl_cons]
theorem valD_snoc (acc : Nat) (l : List UInt8) (c : UInt8) : valD acc (l ++ [c]) = valD acc l * 10 + (c.toNat - 48) := by
  unfold valD
  rw [List.foldl_append, List.foldl_cons, List.foldl_nil]
theorem le_valD : ∀ (l : List UInt8) (acc : Nat), acc ≤ valD acc l
  | [], acc => Nat.le_refl _
  | c :: l, acc => by rw [valD_cons]; exact Nat.le_trans (by omega) (le_valD l _)
theorem parse_ok : ∀ (l : List UInt8) (acc : Nat), (∀ c ∈ l, IsDig c) → valD acc l < 18446744073709551616 → Lib.parseUint10 acc l = .ok (valD acc l)
  | [], acc, _, _ => rfl
  | c :: l, acc, hd, hv => by
    have hc := hd c List.mem_cons_self
    have h1 := le_valD l (acc * 10 + (c.toNat - 48))
    rw [valD_cons] at hv ⊢
    unfold IsDig at hc
    rw [Lib.parseUint10, if_pos hc, if_neg (by omega), if_neg (by omega)]
    exact parse_ok l _ (fun d hd' => hd d (List.mem_cons_of_mem _ hd')) hv
theorem dig_val {d : Nat} (h : d < 10) : (UInt8.ofNat (48 + d)).toNat = 48 + d := by rw [UInt8.toNat_ofNat']; omega
theorem dec_digs (u : Nat) : (∀ c ∈ Lib.decDigits u, IsDig c) ∧ valD 0 (Lib.decDigits u) = u ∧ Lib.decDigits u ≠ [] := by
  induction u using Nat.strongRecOn with
  | _ u ih =>
    rw [Lib.decDigits]
    by_cases h : u < 10
    · rw [dif_pos h]
      refine ⟨fun c hc => ?_, ?_, by simp⟩
      · rw [List.mem_singleton] at hc; subst hc; unfold IsDig; rw [dig_val h]; omega
      · rw [valD_cons, dig_val h]; show 0 * 10 + (48 + u - 48) = u; omega
    · rw [dif_neg h]
      obtain ⟨i1, i2, i3⟩ := ih (u / 10) (by omega)
      refine ⟨fun c hc => ?_, ?_, by simp⟩
      · rcases List.mem_append.1 hc with h1 | h1
        · exact i1 c h1
        · rw [List.mem_singleton] at h1; subst h1; unfold IsDig; rw [dig_val (by omega)]; omega
      · rw [valD_snoc, i2, dig_val (by omega)]; omega
theorem parse_dec {u : Nat} (h : u < 18446744073709551616) : Lib.parseMag (Lib.decDigits u) = .ok u := by
  obtain ⟨h1, h2, h3⟩ := dec_digs u
  unfold Lib.parseMag
  rw [if_neg h3, parse_ok _ _ h1 (by omega), h2]
theorem parse_decB {u : Nat} (h : u < 18446744073709551616) : Lib.parseUintB 64 (Lib.decDigits u) = .ok u := by rw [Lib.parseUintB_64, parse_dec h]
theorem dec_cons (u : Nat) : ∃ c r, Lib.decDigits u = c :: r ∧ IsDig c := by
  obtain ⟨h1, _, h3⟩ := dec_digs u
  cases h : Lib.decDigits u with
  | nil => exact absurd h h3
  | cons c r => exact ⟨c, r, rfl, h1 c (by rw [h]; exact List.mem_cons_self)⟩
theorem atoi_itoa {x : Int} (h : -9223372036854775808 ≤ x ∧ x < 9223372036854775808) : Lib.atoiAll (Lib.itoa x) = .ok x := by
  rcases Int.lt_or_le x 0 with h0 | h0
  · obtain ⟨u, rfl⟩ : ∃ u : Nat, x = -(u : Int) := ⟨x.natAbs, by omega⟩
    rw [Lib.itoa_neg u (by omega), Lib.atoiAll_minus, parse_dec (by omega)]
    unfold Lib.signed
    simp only
    rw [if_neg (by omega)]
  · obtain ⟨u, rfl⟩ : ∃ u : Nat, x = (u : Int) := ⟨x.toNat, by omega⟩
    obtain ⟨c, r, e, hc⟩ := dec_cons u
    have hp := parse_dec (u := u) (by omega)
    unfold IsDig at hc
    rw [Lib.itoa_nonneg]
    rw [e] at hp ⊢
    rw [Lib.atoiAll_plain c r (by omega) (by omega), hp]
    unfold Lib.signless
    simp only
    rw [if_neg (by omega)]
theorem dig_not {c : UInt8} (h : IsDig c) (k : UInt8) (hk : k.toNat < 48 ∨ 57 < k.toNat) : c ≠ k := by
  rintro rfl
  unfold IsDig at h
  omega
end Go.Proofs.YtcmdcclolkgjeaaDoor
