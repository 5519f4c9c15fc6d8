/- Plain lemmas: the fields that strings.FieldsFunc finds, rune by rune, are those that stand between blanks, byte by byte; the walk of digits.Fields. -/
import Derived.Test.YtlcgmniahdngdaaGreatDoorDFields
import Derived.Lib.FieldsP
import Derived.Shelf.Strings.FieldsFuncAny
namespace Go.Proofs.YtlcgmniahdngdaaGreatDoor
open Go.RowKit

def sepC (c : UInt8) : Bool := decide (c = 32 ∨ c = 9)
def gapP (r : Nat) : Bool := decide (r = 32) || decide (r = 9)
theorem fieldsR_run : ∀ (m now r : List UInt8), (∀ c ∈ m, ¬ (c = 32 ∨ c = 9)) → fieldsR now (m ++ r) = fieldsR (now ++ m) r
  | [], now, r, _ => by rw [List.nil_append, List.append_nil]
  | c :: m, now, r, h => by
    rw [List.cons_append, fieldsR, if_neg (h c List.mem_cons_self), fieldsR_run m _ r (fun d hd => h d (List.mem_cons_of_mem _ hd)), List.append_assoc]
    rfl
theorem dec_low (n b0 b1 b2 b3 : Nat) (h : b0 < 128) : Lib.decodeN n b0 b1 b2 b3 = (b0, 1) := by unfold Lib.decodeN; rw [if_pos h]
theorem dec_big (n b0 b1 b2 b3 : Nat) (h : 128 ≤ b0) : gapP (Lib.decodeN n b0 b1 b2 b3).1 = false ∧ (2 ≤ (Lib.decodeN n b0 b1 b2 b3).2 → 128 ≤ b1) ∧ (3 ≤ (Lib.decodeN n b0 b1 b2 b3).2 → 128 ≤ b2) ∧ (4 ≤ (Lib.decodeN n b0 b1 b2 b3).2 → 128 ≤ b3) ∧ (Lib.decodeN n b0 b1 b2 b3).2 ≤ 4 := by
  have hg : ∀ r, 128 ≤ r → gapP r = false := fun r hr => by
    unfold gapP
    rw [decide_eq_false (by omega), decide_eq_false (by omega)]; rfl
  unfold Lib.decodeN
  rw [if_neg (by omega)]
  repeat' split
  all_goals
    refine ⟨hg _ (by simp only; omega), ?_, ?_, ?_, ?_⟩ <;> (simp only; omega)
theorem get_at (l : List UInt8) (i : Nat) (hi : i < l.length) : (bytesOf l).get! i = l[i] := by
  simp [bytesOf, ByteArray.get!, hi]
theorem sep_nat (c : UInt8) : (c = 32 ∨ c = 9) ↔ (c.toNat = 32 ∨ c.toNat = 9) := by
  constructor
  · rintro (rfl | rfl)
    · exact .inl rfl
    · exact .inr rfl
  · rintro (h | h)
    · exact .inl (UInt8.toNat_inj.1 (by rw [show (32 : UInt8).toNat = 32 by rfl]; exact h))
    · exact .inr (UInt8.toNat_inj.1 (by rw [show (9 : UInt8).toNat = 9 by rfl]; exact h))

/-- What stands at a place: a blank, or a rune whose bytes are none. -/
theorem dec_at (l : List UInt8) (pos : Nat) (hp : pos < l.length) :
    (gapP (Utf8.decode (bytesOf l) pos).1 = true ∧ (l[pos] = 32 ∨ l[pos] = 9) ∧ (Utf8.decode (bytesOf l) pos).2 = 1) ∨
    (gapP (Utf8.decode (bytesOf l) pos).1 = false ∧ ∀ c ∈ (l.drop pos).take (Utf8.decode (bytesOf l) pos).2, ¬ (c = 32 ∨ c = 9)) := by
  rw [Lib.decode_at, get_at l pos hp]
  have hd : l.drop pos = l[pos] :: l.drop (pos + 1) := List.drop_eq_getElem_cons hp
  rcases Nat.lt_or_ge l[pos].toNat 128 with h | h
  · rw [dec_low _ _ _ _ _ h]
    by_cases hs : l[pos] = 32 ∨ l[pos] = 9
    · refine .inl ⟨?_, hs, rfl⟩
      have := (sep_nat _).1 hs
      unfold gapP
      rcases this with e | e
      · rw [decide_eq_true e]; rfl
      · show (decide (l[pos].toNat = 32) || decide (l[pos].toNat = 9)) = true
        rw [decide_eq_true e, Bool.or_true]
    · refine .inr ⟨?_, ?_⟩
      · have : ¬ (l[pos].toNat = 32 ∨ l[pos].toNat = 9) := fun e => hs ((sep_nat _).2 e)
        show (decide (l[pos].toNat = 32) || decide (l[pos].toNat = 9)) = false
        rw [decide_eq_false (fun e => this (.inl e)), decide_eq_false (fun e => this (.inr e))]; rfl
      · rw [hd]
        intro c hc
        have hc2 : c ∈ List.take 1 (l[pos] :: l.drop (pos + 1)) := hc
        rw [List.take_succ_cons, List.take_zero] at hc2
        rw [List.mem_singleton.1 hc2]; exact hs
  · obtain ⟨g1, g2, g3, g4, g5⟩ := dec_big ((bytesOf l).size - pos) l[pos].toNat ((bytesOf l).get! (pos + 1)).toNat ((bytesOf l).get! (pos + 2)).toNat ((bytesOf l).get! (pos + 3)).toNat h
    refine .inr ⟨g1, ?_⟩
    generalize (Lib.decodeN ((bytesOf l).size - pos) l[pos].toNat ((bytesOf l).get! (pos + 1)).toNat ((bytesOf l).get! (pos + 2)).toNat ((bytesOf l).get! (pos + 3)).toNat).2 = wd at *
    intro c hc hs
    obtain ⟨j, hj, hcj⟩ := List.getElem_of_mem hc
    rw [List.length_take, List.length_drop] at hj
    rw [List.getElem_take, List.getElem_drop] at hcj
    have hbig : 128 ≤ c.toNat := by
      have h1 : j = 0 ∨ j = 1 ∨ j = 2 ∨ j = 3 := by omega
      rcases h1 with rfl | rfl | rfl | rfl
      · rw [← hcj]; exact h
      · rw [← hcj]; have := g2 (by omega); rwa [get_at l (pos + 1) (by omega)] at this
      · rw [← hcj]; have := g3 (by omega); rwa [get_at l (pos + 2) (by omega)] at this
      · rw [← hcj]; have := g4 (by omega); rwa [get_at l (pos + 3) (by omega)] at this
    have := (sep_nat c).1 hs
    omega

theorem spans_bytes (l : List UInt8) : ∀ (f pos : Nat) (st : Option Nat) (acc : List (Nat × Nat)), l.length ≤ pos + f → pos ≤ l.length → (∀ a, st = some a → a < pos) →
    acc.map (fun p => Lib.pieceU l p.1 p.2) ++ fieldsR (Lib.openPiece l st pos) (l.drop pos) = (Lib.closeSpans (bytesOf l) (Lib.spansFromP gapP (bytesOf l) f pos st acc)).map (fun p => Lib.pieceU l p.1 p.2)
  | 0, pos, st, acc, h, hp, hst => by
    have hsz := bytes_size l
    obtain rfl : pos = l.length := by omega
    rw [List.drop_length, fieldsR]
    unfold flushR
    cases st with
    | none => simp [Lib.spansFromP, Lib.closeSpans, Lib.openPiece]
    | some a =>
      have := Lib.pieceU_ne l a l.length (hst a rfl) (Nat.le_refl _)
      simp [Lib.spansFromP, Lib.closeSpans, Lib.openPiece, this, hsz]
  | f + 1, pos, st, acc, h, hp, hst => by
    have hsz := bytes_size l
    by_cases hlt : pos < l.length
    · have hw := Lib.width_pos (bytesOf l) pos
      have hwn : pos + (Utf8.decode (bytesOf l) pos).2 ≤ l.length := by
        have := Lib.decodeN_le_n' ((bytesOf l).size - pos) ((bytesOf l).get! pos).toNat ((bytesOf l).get! (pos + 1)).toNat ((bytesOf l).get! (pos + 2)).toNat ((bytesOf l).get! (pos + 3)).toNat (by omega)
        rw [← Lib.decode_at] at this
        omega
      simp only [Lib.spansFromP, if_pos (show pos < (bytesOf l).size by omega)]
      rcases dec_at l pos hlt with ⟨hg, hsep, hw1⟩ | ⟨hg, hns⟩
      · rw [hg]
        simp only [if_true]
        rw [hw1]
        have hd : l.drop pos = l[pos] :: l.drop (pos + 1) := List.drop_eq_getElem_cons hlt
        cases st with
        | none =>
          have ih := spans_bytes l f (pos + 1) none acc (by omega) (by omega) (fun a h => by cases h)
          rw [hd, fieldsR, if_pos hsep]
          simpa [Lib.openPiece, flushR] using ih
        | some a =>
          have hpn := Lib.pieceU_ne l a pos (hst a rfl) hp
          have ih := spans_bytes l f (pos + 1) none (acc ++ [(a, pos)]) (by omega) (by omega) (fun a h => by cases h)
          rw [hd, fieldsR, if_pos hsep]
          simpa [Lib.openPiece, flushR, hpn] using ih
      · rw [hg]
        simp only [Bool.false_eq_true, if_false]
        have hrun := fieldsR_run _ (Lib.openPiece l st pos) (l.drop (pos + (Utf8.decode (bytesOf l) pos).2)) hns
        have hcat : (l.drop pos).take (Utf8.decode (bytesOf l) pos).2 ++ l.drop (pos + (Utf8.decode (bytesOf l) pos).2) = l.drop pos := by
          rw [← List.drop_drop, List.take_append_drop]
        rw [hcat] at hrun
        rw [hrun]
        cases st with
        | none =>
          have ih := spans_bytes l f (pos + (Utf8.decode (bytesOf l) pos).2) (some pos) acc (by omega) hwn (fun a h => by cases h; omega)
          have e : ([] : List UInt8) ++ (l.drop pos).take (Utf8.decode (bytesOf l) pos).2 = Lib.pieceU l pos (pos + (Utf8.decode (bytesOf l) pos).2) := by
            unfold Lib.pieceU
            rw [List.nil_append, Nat.add_sub_cancel_left]
          simp only [Lib.openPiece] at ih ⊢
          rw [e]
          exact ih
        | some a =>
          have ih := spans_bytes l f (pos + (Utf8.decode (bytesOf l) pos).2) (some a) acc (by omega) hwn (fun b h => by cases h; have := hst a rfl; omega)
          simp only [Lib.openPiece] at ih ⊢
          rw [Lib.pieceU_grow _ _ _ _ (Nat.le_of_lt (hst a rfl))]
          exact ih
    · obtain rfl : pos = l.length := by omega
      rw [List.drop_length, fieldsR, Lib.spansFromP_end gapP _ _ _ _ _ (by omega)]
      unfold flushR
      cases st with
      | none => simp [Lib.closeSpans, Lib.openPiece]
      | some a =>
        have := Lib.pieceU_ne l a l.length (hst a rfl) (Nat.le_refl _)
        simp [Lib.closeSpans, Lib.openPiece, this, hsz]
theorem fields_vals (l : List UInt8) : (Lib.goFieldsP gapP (bytesOf l)).map Value.string = svals (fieldsR [] l) := by
  have h := spans_bytes l (bytesOf l).size 0 none [] (by rw [bytes_size]; omega) (Nat.zero_le _) (fun a h => by cases h)
  simp only [List.map_nil, List.nil_append, List.drop_zero] at h
  have h2 : fieldsR [] l = (Lib.spansOfP gapP (bytesOf l)).map (fun p => Lib.pieceU l p.1 p.2) := h
  rw [h2]
  unfold Lib.goFieldsP svals
  rw [List.map_map, List.map_map]
  refine List.map_congr_left fun x _ => ?_
  show Value.string ((bytesOf l).extract x.1 x.2) = Value.string (bytesOf (Lib.pieceU l x.1 x.2))
  rw [Lib.extract_eq]
  rfl

set_option maxRecDepth 100000 in
theorem gap_any (r : Nat) (W : World) : Calls Tryz.prog 36 #[.int .i32 (r : Int)] W fun e w' => e = .returned (.bool (gapP r)) ∧ ∃ q, w' = W.drewN q := by
  by_cases h1 : r = 32
  · subst h1
    go_enter Tryz.func36, Tryz.ntmps36
    go_wp2
    go_ret
    exact ⟨rfl, 0, rfl⟩
  · by_cases h2 : r = 9
    · subst h2
      go_enter Tryz.func36, Tryz.ntmps36
      go_wp2
      go_ret
      exact ⟨rfl, 0, rfl⟩
    · have hg : gapP r = false := by unfold gapP; rw [decide_eq_false h1, decide_eq_false h2]; rfl
      have q1 : ((r : Int) == 32) = false := by rw [beq_eq_false_iff_ne]; omega
      have q2 : ((r : Int) == 9) = false := by rw [beq_eq_false_iff_ne]; omega
      rw [hg]
      go_enter Tryz.func36, Tryz.ntmps36
      go_wp2
      go_ret
      exact ⟨rfl, 0, rfl⟩
/-- A slice of strings that a call has made. -/
def StrsPost (w : World) (ls : List (List UInt8)) (e : Ending) (w' : World) : Prop := ∃ v, e = .returned v ∧ Strs w' v ls ∧ Fr (fun _ => False) w w'
set_option maxRecDepth 100000 in
theorem fields_any (l : List UInt8) (hl : l.length ≤ 1000000) (w : World) : Calls Tryz.prog 20 #[.string (bytesOf l)] w (StrsPost w (fieldsR [] l)) := by
  have eg : ∀ args w, (callFunc 36 args).run Tryz.prog w = .ok (.enter 36 args) w := enters_of Tryz.func36 (by kernel_rfl) rfl
  have h := Tryz.strings_FieldsFunc 36 #[] eg gapP (bytesOf l) w (by rw [bytes_size]; omega) (fun W x _ => gap_any x W)
  have H : Hid (Calls Tryz.prog 35 #[.string (bytesOf l), .func (.func 36) #[] #[]] w (StrsPost w (fieldsR [] l))) := by
    refine h.mono ?_
    rintro e w' ⟨A, rfl, _, ho, hb⟩
    have hlen : (Lib.goFieldsP gapP (bytesOf l)).length = (fieldsR [] l).length := by
      have := congrArg List.length (fields_vals l)
      rwa [List.length_map, svals_len] at this
    rw [hlen, fields_vals] at ho
    rw [hlen]
    exact ⟨_, rfl, strs_of ho, Fr.of_below hb⟩
  clear h eg
  generalize bytesOf l = S at *
  go_enter Tryz.func20, Tryz.ntmps20
  go_wp2_with fail
  refine (H.out).mono ?_
  rintro e w1 ⟨v, rfl, hs, hf⟩
  have HS := Lib.hid hs
  have HF := Lib.hid hf
  clear hs hf
  go_wp2
  go_ret
  exact ⟨_, rfl, HS.out, HF.out⟩
end Go.Proofs.YtlcgmniahdngdaaGreatDoor
