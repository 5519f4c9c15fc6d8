/- The walk of the reference's Fields; two rows of strings compared. -/
import Derived.Test.YtlcgmniahdngdaaDoorDRow
namespace Go.Proofs.YtlcgmniahdngdaaDoor
open Go.RowKit

def flushR (now : List UInt8) : List (List UInt8) := if now = [] then [] else [now]
/-- The fields of a text, as the reference cuts it. -/
def fieldsR : List UInt8 → List UInt8 → List (List UInt8)
  | now, [] => flushR now
  | now, c :: l => if c = 32 ∨ c = 9 then flushR now ++ fieldsR [] l else fieldsR (now ++ [c]) l

set_option maxHeartbeats 3200000 in
set_option maxRecDepth 100000 in
theorem rfields_any (l : List UInt8) (hl : l.length ≤ 100000) (w : World) : Calls Tryd.prog 24 #[.string (bytesOf l)] w (SRowPost w (fieldsR [] l)) := by
  obtain ⟨i0, hi, hz0, hz1, hz2⟩ := info_parts info_string
  have hsz : (bytesOf l).size = l.length := bytes_size l
  go_enter Tryd.func24, Tryd.ntmps24
  go_wp2
  go_loopw [3, 4, 5] (fun v s i wr => ∃ (k : Nat) (now : List UInt8) (ls : List (List UInt8)), k ≤ l.length + 1 ∧ s = .string (bytesOf now) ∧ i = .int .i64 (k : Int) ∧ now.length ≤ k ∧ ls.length ≤ k ∧ SRow w v ls wr ∧
      Hid ((k ≤ l.length ∧ fieldsR [] l = ls ++ fieldsR now (l.drop k)) ∨ (k = l.length + 1 ∧ fieldsR [] l = ls))) (fun _ _ i _ => l.length + 1 - (intOf i).toNat)
  case atStart => exact ⟨0, [], [], Nat.zero_le _, rfl, rfl, Nat.le_refl _, Nat.le_refl _, ⟨World.ownsRow_nil _ _ _ _, by simp [Value.ownBlock], Fr.refl _ _⟩, .inl ⟨Nat.zero_le _, rfl⟩⟩
  case round =>
    obtain ⟨k, now, ls, hk, rfl, rfl, hn, hls, hrow, hr⟩ := hrel
    obtain ⟨q, qc, rfl⟩ := srow_shape hrow.1
    by_cases hle : k ≤ l.length
    · have hrr : fieldsR [] l = ls ++ fieldsR now (l.drop k) := by
        rcases hr.out with ⟨_, h⟩ | ⟨h, _⟩
        · exact h
        · omega
      clear hr
      have hb0 : (bytesOf now).toList.isEmpty = decide (now = []) := by
        rw [bytes_toList]
        cases now with
        | nil => rfl
        | cons c r => rw [decide_eq_false (by simp)]; rfl
      -- what the round does: it takes a byte on, or it cuts here
      have hway : (∃ hlt : k < l.length, ¬ (l[k] = 32 ∨ l[k] = 9) ∧ fieldsR [] l = ls ++ fieldsR (now ++ [l[k]]) (l.drop (k + 1))) ∨
          ((∀ hlt : k < l.length, l[k] = 32 ∨ l[k] = 9) ∧ ((k + 1 ≤ l.length ∧ fieldsR [] l = ls ++ flushR now ++ fieldsR [] (l.drop (k + 1))) ∨ (k + 1 = l.length + 1 ∧ fieldsR [] l = ls ++ flushR now))) := by
        by_cases hlt : k < l.length
        · rw [List.drop_eq_getElem_cons hlt, fieldsR] at hrr
          by_cases hc : l[k] = 32 ∨ l[k] = 9
          · rw [if_pos hc] at hrr
            exact .inr ⟨fun _ => hc, .inl ⟨hlt, by rw [hrr, List.append_assoc]⟩⟩
          · rw [if_neg hc] at hrr
            exact .inl ⟨hlt, hc, hrr⟩
        · obtain rfl : k = l.length := by omega
          rw [List.drop_length, fieldsR] at hrr
          exact .inr ⟨fun h => absurd h hlt, .inr ⟨rfl, hrr⟩⟩
      rcases hway with ⟨hlt, hc, hrn⟩ | ⟨hc, hrn⟩
      · have hsz2 : k < (bytesOf l).size := by omega
        have hget : (bytesOf l)[k] = l[k] := rfl
        have hc1 : ¬ ((l[k].toNat : Int) = 32) := by
          intro h
          exact hc (.inl (UInt8.toNat_inj.1 (by rw [show (32 : UInt8).toNat = 32 by rfl]; omega)))
        have hc2 : ¬ ((l[k].toNat : Int) = 9) := by
          intro h
          exact hc (.inr (UInt8.toNat_inj.1 (by rw [show (9 : UInt8).toNat = 9 by rfl]; omega)))
        have hd1 : ((l[k].toNat : Int) != 32) = true := by rw [bne_iff_ne]; exact hc1
        have hd2 : ((l[k].toNat : Int) != 9) = true := by rw [bne_iff_ne]; exact hc2
        have hex := ext_at l k hlt
        have happ := bytes_app now [l[k]]
        have hs1 : (bytesOf now).size ≤ 100001 := by rw [bytes_size]; omega
        have hs2 : (bytesOf [l[k]]).size ≤ 1 := by rw [bytes_size]; exact Nat.le_refl _
        have HR := Lib.hid hrn
        clear hrr hrn hc hb0
        go_wp2
        go_roundw
        case rel => exact ⟨k + 1, now ++ [l[k]], ls, by omega, rfl, by go_num, by simp; omega, by omega, hrow, .inl ⟨by omega, HR.out⟩⟩
        case measure => simp [intOf]; omega
      · have HR : Hid ((k + 1 ≤ l.length ∧ fieldsR [] l = ls ++ flushR now ++ fieldsR [] (l.drop (k + 1))) ∨ (k + 1 = l.length + 1 ∧ fieldsR [] l = ls ++ flushR now)) := hrn
        have hbyte : (k = l.length) ∨ (∃ hlt : k < l.length, l[k] = 32 ∨ l[k] = 9) := by
          rcases Nat.lt_or_ge k l.length with h | h
          · exact .inr ⟨h, hc h⟩
          · exact .inl (by omega)
        clear hrr hrn hc
        have hcut : ∀ (v2 : Value) (ls2 : List (List UInt8)) (w2 : World), SRow w v2 ls2 w2 → ls2 = ls ++ flushR now → ls2.length ≤ k + 1 ∧ SRow w v2 ls2 w2 ∧ Hid ((k + 1 ≤ l.length ∧ fieldsR [] l = ls2 ++ fieldsR [] (l.drop (k + 1))) ∨ (k + 1 = l.length + 1 ∧ fieldsR [] l = ls2)) := fun v2 ls2 w2 h1 h2 => by
          refine ⟨?_, h1, by rw [h2]; exact HR.out⟩
          rw [h2, List.length_append]
          unfold flushR
          split
          · simp; omega
          · simp; omega
        clear HR
        by_cases h0 : now = []
        · rw [decide_eq_true h0] at hb0
          have hls0 : ls = ls ++ flushR now := by rw [h0]; unfold flushR; rw [if_pos rfl, List.append_nil]
          obtain ⟨g1, g2, g3⟩ := hcut _ ls wr hrow hls0
          clear hcut hls0 h0 hrow
          generalize bytesOf now = S at *
          rcases hbyte with rfl | ⟨hlt, h32 | h32⟩
          · go_wp2
            go_roundw
            case rel => exact ⟨l.length + 1, [], ls, by omega, rfl, by go_num, by simp, g1, g2, g3⟩
            case measure => simp [intOf]
          · have hsz2 : k < (bytesOf l).size := by omega
            have hget : (bytesOf l)[k] = 32 := h32
            clear h32
            go_wp2
            go_roundw
            case rel => exact ⟨k + 1, [], ls, by omega, rfl, by go_num, by simp, g1, g2, g3⟩
            case measure => simp [intOf]; omega
          · have hsz2 : k < (bytesOf l).size := by omega
            have hget : (bytesOf l)[k] = 9 := h32
            clear h32
            go_wp2
            go_roundw
            case rel => exact ⟨k + 1, [], ls, by omega, rfl, by go_num, by simp, g1, g2, g3⟩
            case measure => simp [intOf]; omega
        · rw [decide_eq_false h0] at hb0
          have hls0 : ls ++ [now] = ls ++ flushR now := by unfold flushR; rw [if_neg h0]
          have HCUT := Lib.hid (fun v2 w2 h => hcut v2 (ls ++ [now]) w2 h hls0)
          clear hcut hls0 h0
          rcases hbyte with rfl | ⟨hlt, h32 | h32⟩
          · go_wp2_with (at_builtin; refine Hid.out ?_)
            unfold Hid
            have hwa : Fr (fun _ => False) wr (wr.alloc (.cells #[.string (bytesOf now)] 9)) := (Fr.refl (fun _ => False) wr).alloc _
            refine wpList_append_one rfl _ _ 38 rfl 9 i0 (.string ⟨#[]⟩) 16 Tryd.underlying38 hi hz0 hz1 hz2 rfl (.slice q ls.length qc) ls.length (svals ls) rfl (ownsRow_frame hrow.1 hwa (fun _ _ h => h)) ⟨wr.heap.size, 0, none⟩ _ (.string (bytesOf now)) rfl ((Blk.new wr [.string (bytesOf now)] 9).cell 0 rfl) rfl (by unfold maxLen; omega) (by omega) ?_
            intro g cap' w1 ho1 hf1 hg1
            have hrow1 := hrow.step ho1 rfl _ hwa hf1 hg1
            obtain ⟨g1, g2, g3⟩ := HCUT.out _ _ hrow1
            clear ho1 hf1 hg1 hrow hwa hrow1 HCUT
            go_wp2
            go_roundw
            case rel => exact ⟨l.length + 1, [], ls ++ [now], by omega, rfl, by go_num, by simp, g1, by simpa using g2, .inr ⟨rfl, by rcases g3.out with h | h; exact absurd h.1 (by omega); exact h.2⟩⟩
            case measure => simp [intOf]
          · have hsz2 : k < (bytesOf l).size := by omega
            have hget : (bytesOf l)[k] = 32 := h32
            clear h32
            go_wp2_with (at_builtin; refine Hid.out ?_)
            unfold Hid
            have hwa : Fr (fun _ => False) wr (wr.alloc (.cells #[.string (bytesOf now)] 9)) := (Fr.refl (fun _ => False) wr).alloc _
            refine wpList_append_one rfl _ _ 38 rfl 9 i0 (.string ⟨#[]⟩) 16 Tryd.underlying38 hi hz0 hz1 hz2 rfl (.slice q ls.length qc) ls.length (svals ls) rfl (ownsRow_frame hrow.1 hwa (fun _ _ h => h)) ⟨wr.heap.size, 0, none⟩ _ (.string (bytesOf now)) rfl ((Blk.new wr [.string (bytesOf now)] 9).cell 0 rfl) rfl (by unfold maxLen; omega) (by omega) ?_
            intro g cap' w1 ho1 hf1 hg1
            have hrow1 := hrow.step ho1 rfl _ hwa hf1 hg1
            obtain ⟨g1, g2, g3⟩ := HCUT.out _ _ hrow1
            clear ho1 hf1 hg1 hrow hwa hrow1 HCUT
            go_wp2
            go_roundw
            case rel => exact ⟨k + 1, [], ls ++ [now], by omega, rfl, by go_num, by simp, g1, by simpa using g2, g3⟩
            case measure => simp [intOf]; omega
          · have hsz2 : k < (bytesOf l).size := by omega
            have hget : (bytesOf l)[k] = 9 := h32
            clear h32
            go_wp2_with (at_builtin; refine Hid.out ?_)
            unfold Hid
            have hwa : Fr (fun _ => False) wr (wr.alloc (.cells #[.string (bytesOf now)] 9)) := (Fr.refl (fun _ => False) wr).alloc _
            refine wpList_append_one rfl _ _ 38 rfl 9 i0 (.string ⟨#[]⟩) 16 Tryd.underlying38 hi hz0 hz1 hz2 rfl (.slice q ls.length qc) ls.length (svals ls) rfl (ownsRow_frame hrow.1 hwa (fun _ _ h => h)) ⟨wr.heap.size, 0, none⟩ _ (.string (bytesOf now)) rfl ((Blk.new wr [.string (bytesOf now)] 9).cell 0 rfl) rfl (by unfold maxLen; omega) (by omega) ?_
            intro g cap' w1 ho1 hf1 hg1
            have hrow1 := hrow.step ho1 rfl _ hwa hf1 hg1
            obtain ⟨g1, g2, g3⟩ := HCUT.out _ _ hrow1
            clear ho1 hf1 hg1 hrow hwa hrow1 HCUT
            go_wp2
            go_roundw
            case rel => exact ⟨k + 1, [], ls ++ [now], by omega, rfl, by go_num, by simp, g1, by simpa using g2, g3⟩
            case measure => simp [intOf]; omega
    · have hfin : fieldsR [] l = ls := by
        rcases hr.out with ⟨h, _⟩ | ⟨_, h⟩
        · exact absurd h hle
        · exact h
      obtain rfl : k = l.length + 1 := by omega
      have HFIN : Hid (SRowPost w (fieldsR [] l) (.returned (.slice q ls.length qc)) wr) := ⟨_, rfl, by rw [hfin]; exact hrow⟩
      clear hr hfin hrow
      go_wp2
      go_ret
      exact HFIN.out
end Go.Proofs.YtlcgmniahdngdaaDoor
