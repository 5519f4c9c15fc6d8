/- The walks of the reference: decimal digits written and read. -/
import Derived.Test.YtcmdcclolkgjeaaDoorFCut
namespace Go.Proofs.YtcmdcclolkgjeaaDoor
open Go.RowKit

def digC (k : Nat) : UInt8 := UInt8.ofNat (48 + k % 10)
theorem conv_digit (k : Nat) (W : World) : (convert 72 9 (.slice (some ⟨W.heap.size, 0, none⟩) 1 1)).run Tryd.prog (W.alloc (.cells #[.int .u8 (48 + (k : Int) % 10)] 5)) = .ok (.string (bytesOf [digC k])) (W.alloc (.cells #[.int .u8 (48 + (k : Int) % 10)] 5)) := by
  have h := run_convert_bytes_back (P := Tryd.prog) (W.alloc (.cells #[.int .u8 (48 + (k : Int) % 10)] 5)) 72 9 5 ⟨W.heap.size, 0, none⟩ 1 [digC k] Tryd.underlying72 Tryd.underlying5 Tryd.underlying9 (fun j hj => by
    have hj0 : j = 0 := by simpa using hj
    subst hj0
    have hc := (Blk.new W [.int .u8 (48 + (k : Int) % 10)] 5).cell 0 rfl
    have ha : (⟨W.heap.size, 0, none⟩ : Addr).add 0 = ⟨W.heap.size, 0, none⟩ := rfl
    rw [ha]
    refine hc.trans ?_
    rw [List.getElem_cons_zero, digC, dig_val (by omega)]
    congr 2)
  exact h

/-- How far a row of digits is written. -/
def DigRel (u k : Nat) (t : List UInt8) : Prop := Lib.decDigits k ++ t = Lib.decDigits u
theorem DigRel.step {u k : Nat} {t : List UInt8} (h : DigRel u k t) (hk : ¬ k < 10) : DigRel u (k / 10) (digC k :: t) := by
  unfold DigRel at *
  rw [← h]
  conv => rhs; rw [Lib.decDigits, dif_neg hk]
  rw [List.append_assoc]; rfl
theorem DigRel.last {u k : Nat} {t : List UInt8} (h : DigRel u k t) (hk : k < 10) : digC k :: t = Lib.decDigits u := by
  unfold DigRel at h
  rw [← h, Lib.decDigits, dif_pos hk, digC, Nat.mod_eq_of_lt hk]
  rfl
theorem DigRel.len {u k : Nat} {t : List UInt8} (h : DigRel u k t) (hu : u < 18446744073709551616) : t.length ≤ 20 := by
  have h1 := congrArg List.length h
  rw [List.length_append] at h1
  have := digits_le hu
  omega

set_option maxRecDepth 100000 in
set_option maxHeartbeats 1600000 in
theorem digits2_any (u : Nat) (hu : u < 18446744073709551616) (w : World) : Calls Tryd.prog 50 #[.int .u64 (u : Int)] w (SPost w (bytesOf (Lib.decDigits u))) := by
  have hcv := conv_digit
  go_enter Tryd.func50, Tryd.ntmps50
  go_wp2
  go_loopw [0, 3] (fun n s wr => ∃ (k : Nat) (t : List UInt8), n = .int .u64 (k : Int) ∧ s = .string (bytesOf t) ∧ k < 18446744073709551616 ∧ Hid (DigRel u k t ∧ Fr (fun _ => False) w wr)) (fun n _ _ => (intOf n).toNat)
  case atStart => exact ⟨u, [], rfl, rfl, hu, List.append_nil _, Fr.refl _ _⟩
  case round =>
    obtain ⟨k, t, rfl, rfl, hk, hr⟩ := hrel
    have hlen := hr.out.1.len hu
    have hsz : (bytesOf t).size ≤ 20 := by rw [bytes_size]; exact hlen
    have hs1 : (bytesOf [digC k]).size ≤ 1 := by rw [bytes_size]; exact Nat.le_refl _
    have happ := bytes_app [digC k] t
    by_cases hlt : k < 10
    · have hki : (k : Int) ≤ 9 := by omega
      have hmod : (k : Int) % 10 = (k : Int) := by omega
      have hcv1 := hcv k
      rw [hmod] at hcv1
      have hD := Lib.hid (hr.out.1.last hlt)
      have hF := Lib.hid (hr.out.2.alloc (.cells #[.int .u8 (48 + (k : Int))] 5))
      clear hcv hr hlen hmod hk hlt
      go_wp2
      go_ret
      refine ⟨?_, hF.out⟩
      rw [← hD.out]; rfl
    · have hki : (9 : Int) < (k : Int) := by omega
      have hcv1 := hcv k
      have hD := Lib.hid (hr.out.1.step hlt)
      have hF := Lib.hid (hr.out.2.alloc (.cells #[.int .u8 (48 + (k : Int) % 10)] 5))
      clear hcv hr hlen
      go_wp2
      go_roundw
      case rel => exact ⟨k / 10, digC k :: t, by go_num, rfl, by omega, hD.out, hF.out⟩
      case measure => simp [intOf]; omega
/-- What a row of decimal digits is worth; none: it is no such row, or too great. -/
def numR : Nat → List UInt8 → Option Nat
  | n, [] => some n
  | n, c :: l => if c.toNat < 48 ∨ 57 < c.toNat ∨ 9007199254740992 < n then none else numR (n * 10 + (c.toNat - 48)) l
def numV (l : List UInt8) : Nat := (numR 0 l).getD 0
def numOk (l : List UInt8) : Bool := match numR 0 l with | none => false | some n => decide (0 < l.length) && decide (n < 9007199254740992)

set_option maxRecDepth 100000 in
set_option maxHeartbeats 1600000 in
theorem number2_any (l : List UInt8) (hl : l.length ≤ 2000) (w : World) : Calls Tryd.prog 45 #[.string (bytesOf l)] w fun e w' => e = .returned (.tuple #[.int .u64 (numV l : Int), .bool (numOk l)]) ∧ w = w' := by
  have hsz : (bytesOf l).size = l.length := bytes_size l
  go_enter Tryd.func45, Tryd.ntmps45
  go_wp2
  go_loop [4, 5] (fun n i => ∃ k m : Nat, k ≤ l.length ∧ n = .int .u64 (m : Int) ∧ i = .int .i64 (k : Int) ∧ Hid (numR 0 l = numR m (l.drop k) ∧ m < 90071992547409930)) (fun _ i => l.length - (intOf i).toNat)
  case atStart => exact ⟨0, 0, Nat.zero_le _, rfl, rfl, rfl, by decide⟩
  case round =>
    obtain ⟨k, m, hk, rfl, rfl, hr⟩ := hrel
    by_cases hlt : k < l.length
    · have hsz2 : k < (bytesOf l).size := by omega
      have hget : (bytesOf l)[k] = l[k] := rfl
      have hdrop : l.drop k = (bytesOf l)[k] :: l.drop (k + 1) := by rw [hget]; exact List.drop_eq_getElem_cons hlt
      obtain ⟨hr1, hr2⟩ := hr.out
      rw [hdrop, numR] at hr1
      have HN : Hid (((bytesOf l)[k].toNat < 48 ∨ 57 < (bytesOf l)[k].toNat ∨ 9007199254740992 < m) → numV l = 0 ∧ numOk l = false) := fun hc => by
        rw [if_pos hc] at hr1
        unfold numV numOk
        rw [hr1]; exact ⟨rfl, rfl⟩
      have HY : Hid (¬ ((bytesOf l)[k].toNat < 48 ∨ 57 < (bytesOf l)[k].toNat ∨ 9007199254740992 < m) → numR 0 l = numR (m * 10 + ((bytesOf l)[k].toNat - 48)) (l.drop (k + 1)) ∧ m * 10 + ((bytesOf l)[k].toNat - 48) < 90071992547409930) := fun hc => by
        rw [if_neg hc] at hr1
        exact ⟨hr1, by omega⟩
      clear hr1 hr hdrop hget
      go_wp2
      · obtain ⟨e1, e2⟩ := HN.out (by omega)
        go_ret2
        rw [e1, e2]; exact ⟨rfl, rfl⟩
      · refine ⟨⟨k + 1, m * 10 + ((bytesOf l)[k].toNat - 48), by omega, ?_, by go_num, HY.out (by omega)⟩, ?_⟩
        · congr 1; omega
        · simp [intOf]; omega
      · obtain ⟨e1, e2⟩ := HN.out (by omega)
        go_ret2
        rw [e1, e2]; exact ⟨rfl, rfl⟩
      · obtain ⟨e1, e2⟩ := HN.out (by omega)
        go_ret2
        rw [e1, e2]; exact ⟨rfl, rfl⟩
    · obtain rfl : k = l.length := by omega
      have hv : numV l = m ∧ numOk l = (decide (0 < l.length) && decide (m < 9007199254740992)) := by
        obtain ⟨hr1, hr2⟩ := hr.out
        rw [List.drop_length, numR] at hr1
        unfold numV numOk
        rw [hr1]; exact ⟨rfl, rfl⟩
      have HV := Lib.hid hv
      clear hr hv
      go_wp2
      · have hd : decide (m < 9007199254740992) = decide ((m : Int) < 9007199254740992) := by rw [decide_eq_decide]; omega
        have hd2 : decide (0 < l.length) = true := decide_eq_true (by omega)
        go_ret2
        rw [HV.out.1, HV.out.2, hd, hd2, Bool.true_and]
        exact ⟨rfl, rfl⟩
      · have hd2 : decide (0 < l.length) = false := decide_eq_false (by omega)
        go_ret2
        rw [HV.out.1, HV.out.2, hd2]
        exact ⟨rfl, rfl⟩
/-- A row of digits that is a number is read as it. -/
theorem num_ok : ∀ (l : List UInt8) (n u : Nat), (∀ c ∈ l, IsDig c) → valD n l = u → u < 9007199254740992 → numR n l = some u
  | [], n, u, _, hv, _ => by rw [numR]; exact congrArg some hv
  | c :: l, n, u, hd, hv, hu => by
    have hc := hd c List.mem_cons_self
    have h1 := le_valD l (n * 10 + (c.toNat - 48))
    rw [valD_cons] at hv
    unfold IsDig at hc
    rw [numR, if_neg (by omega)]
    exact num_ok l _ u (fun d hd' => hd d (List.mem_cons_of_mem _ hd')) hv hu
theorem num_dec {u : Nat} (hu : u < 9007199254740992) : numV (Lib.decDigits u) = u ∧ numOk (Lib.decDigits u) = true := by
  obtain ⟨h1, h2, h3⟩ := dec_digs u
  have := num_ok _ 0 u h1 h2 hu
  have hp : 0 < (Lib.decDigits u).length := List.length_pos_iff.2 h3
  unfold numV numOk
  rw [this]
  refine ⟨rfl, ?_⟩
  show (decide (0 < (Lib.decDigits u).length) && decide (u < 9007199254740992)) = true
  rw [decide_eq_true hp, decide_eq_true hu]; rfl
theorem num_small {l : List UInt8} (h : numOk l = true) : numV l < 9007199254740992 := by
  unfold numOk at h
  unfold numV
  cases hn : numR 0 l with
  | none => rw [hn] at h; cases h
  | some n => rw [hn] at h; simp at h; exact h.2
theorem num_u64 : ∀ (l : List UInt8) (n u : Nat), n < 90071992547409930 → numR n l = some u → u < 90071992547409930
  | [], n, u, hn, h => by rw [numR] at h; injection h with h; omega
  | c :: l, n, u, hn, h => by
    rw [numR] at h
    split at h
    · cases h
    · exact num_u64 l _ u (by omega) h
theorem num_lt (l : List UInt8) : numV l < 90071992547409930 := by
  unfold numV
  cases hn : numR 0 l with
  | none => decide
  | some n => exact num_u64 l 0 n (by decide) hn
end Go.Proofs.YtcmdcclolkgjeaaDoor
