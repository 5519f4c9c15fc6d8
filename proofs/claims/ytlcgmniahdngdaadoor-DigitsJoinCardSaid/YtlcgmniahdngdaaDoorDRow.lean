/- Rows of strings that a call owns; the walk of the reference's Lines. -/
import Derived.Test.YtlcgmniahdngdaaDoorDLaws
namespace Go.Proofs.YtlcgmniahdngdaaDoor
open Go.RowKit

def svals (ls : List (List UInt8)) : List Value := ls.map (fun l => Value.string (bytesOf l))
theorem svals_len (ls : List (List UInt8)) : (svals ls).length = ls.length := List.length_map _
/-- A slice of strings that can be read. -/
def Strs (w : World) (v : Value) (ls : List (List UInt8)) : Prop :=
  ∃ p cap, v = .slice p ls.length cap ∧ ∀ i l, ls[i]? = some l → ∃ b off, p = some ⟨b, off, none⟩ ∧ w.cell? ⟨b, off + i, none⟩ = some (.string (bytesOf l))
theorem Strs.frame {w w' : World} {v : Value} {ls : List (List UInt8)} (h : Strs w v ls) (hf : Fr (fun _ => False) w w') : Strs w' v ls := by
  obtain ⟨p, cap, rfl, hc⟩ := h
  refine ⟨p, cap, rfl, fun i l hl => ?_⟩
  obtain ⟨b, off, hp, hcell⟩ := hc i l hl
  exact ⟨b, off, hp, (World.cell?_of_block (w := w) (hf.block b (cell_lt hcell) (fun h => h))).trans hcell⟩
/-- A row of strings that the call owns. -/
def SRow (w0 : World) (v : Value) (ls : List (List UInt8)) (w : World) : Prop :=
  w.ownsRow 0 9 1 v ls.length (svals ls) ∧ (∀ i, v.ownBlock = some i → w0.heap.size ≤ i) ∧ Fr (fun _ => False) w0 w
theorem srow_shape {w : World} {e : TypeId} {v : Value} {n : Nat} {xs : List Value} {B : Nat} (h : w.ownsRow B e 1 v n xs) : ∃ p cap, v = .slice p n cap := by
  rcases h.2 with ⟨rfl, rfl⟩ | ⟨g, cap, cur, rfl, _⟩
  · exact ⟨_, _, rfl⟩
  · exact ⟨_, _, rfl⟩
theorem info_string : (Tryd.prog.info? 9).map (fun i => (i.zero, i.size, i.bytes)) = some (some (.string ⟨#[]⟩), 1, 16) := by kernel_rfl
theorem strs_of {w : World} {v : Value} {ls : List (List UInt8)} {B : Nat} (ho : w.ownsRow B 9 1 v ls.length (svals ls)) : Strs w v ls := by
  rcases ho.2 with ⟨rfl, h0⟩ | ⟨g, cap, cur, rfl, _, hg, _⟩
  · have : ls = [] := List.eq_nil_of_length_eq_zero h0
    subst this
    exact ⟨none, 0, rfl, fun i l hl => by simp at hl⟩
  · refine ⟨some ⟨g, 0, none⟩, cap, rfl, fun i l hl => ⟨g, 0, rfl, ?_⟩⟩
    have hc := ho.cells (g := g) rfl i (.string (bytesOf l)) (by unfold svals; simp [hl])
    have ha : (⟨g, 0, none⟩ : Addr).add i = ⟨g, 0 + i, none⟩ := by unfold Addr.add; split <;> simp_all
    rw [ha] at hc
    exact hc
theorem SRow.step {w0 wr w1 : World} {q : Option Addr} {k qc g cap' : Nat} {ls : List (List UInt8)} {l : List UInt8} (h : SRow w0 (.slice q k qc) ls wr)
    (ho1 : w1.ownsRow 0 9 1 (.slice (some ⟨g, 0, none⟩) (k + 1) cap') (k + 1) (svals ls ++ [.string (bytesOf l)])) (hk : ls.length = k) (wa : World) (hwa : Fr (fun _ => False) wr wa)
    (hf1 : Fr (fun i => (Value.slice q k qc).ownBlock = some i) wa w1) (hg1 : (Value.slice q k qc).ownBlock = some g ∨ wa.heap.size ≤ g) : SRow w0 (.slice (some ⟨g, 0, none⟩) (k + 1) cap') (ls ++ [l]) w1 := by
  obtain ⟨ho, hb, hf⟩ := h
  have hw1 := hf.trans hwa (fun _ h => h.elim)
  refine ⟨?_, ?_, hw1.trans hf1 (fun i hi => .inr (hb i hi))⟩
  · have e1 : (ls ++ [l]).length = k + 1 := by simp [hk]
    have e2 : svals (ls ++ [l]) = svals ls ++ [.string (bytesOf l)] := by unfold svals; simp
    rw [e1, e2]
    exact ho1
  · intro i hi
    simp only [Value.ownBlock, Option.some.injEq] at hi
    subst hi
    rcases hg1 with h | h
    · exact hb _ h
    · have := hw1.size; omega

/-- The lines of a text, as the reference cuts it. -/
def linesR : List UInt8 → List UInt8 → List (List UInt8)
  | now, [] => if now = [] then [] else [now]
  | now, c :: l => if c = 10 then now :: linesR [] l else linesR (now ++ [c]) l
theorem ext_at (l : List UInt8) (k : Nat) (hk : k < l.length) : (bytesOf l).extract k (k + 1) = bytesOf [l[k]] := by
  rw [Lib.extract_eq]
  show bytesOf (List.take (k + 1 - k) (List.drop k l)) = _
  rw [show k + 1 - k = 1 by omega, List.drop_eq_getElem_cons hk]
  rfl
def SRowPost (w : World) (ls : List (List UInt8)) (e : Ending) (w' : World) : Prop := ∃ v, e = .returned v ∧ SRow w v ls w'

set_option maxHeartbeats 1600000 in
set_option maxRecDepth 100000 in
theorem rlines_any (l : List UInt8) (hl : l.length ≤ 100000) (w : World) : Calls Tryd.prog 22 #[.string (bytesOf l)] w (SRowPost w (linesR [] l)) := by
  obtain ⟨i0, hi, hz0, hz1, hz2⟩ := info_parts info_string
  have hsz : (bytesOf l).size = l.length := bytes_size l
  go_enter Tryd.func22, Tryd.ntmps22
  go_wp2
  go_loopw [3, 4, 5] (fun v s i wr => ∃ (k : Nat) (now : List UInt8) (ls : List (List UInt8)), k ≤ l.length ∧ s = .string (bytesOf now) ∧ i = .int .i64 (k : Int) ∧ now.length ≤ k ∧ ls.length ≤ k ∧ SRow w v ls wr ∧ Hid (linesR [] l = ls ++ linesR now (l.drop k))) (fun _ _ i _ => l.length - (intOf i).toNat)
  case atStart => exact ⟨0, [], [], Nat.zero_le _, rfl, rfl, Nat.le_refl _, Nat.le_refl _, ⟨World.ownsRow_nil _ _ _ _, by simp [Value.ownBlock], Fr.refl _ _⟩, rfl⟩
  case round =>
    obtain ⟨k, now, ls, hk, rfl, rfl, hn, hls, hrow, hr⟩ := hrel
    obtain ⟨q, qc, rfl⟩ := srow_shape hrow.1
    by_cases hlt : k < l.length
    · have hsz2 : k < (bytesOf l).size := by omega
      have hget : (bytesOf l)[k] = l[k] := rfl
      have hdrop : l.drop k = l[k] :: l.drop (k + 1) := List.drop_eq_getElem_cons hlt
      by_cases h10 : l[k] = 10
      · rw [h10] at hget
        have HR : Hid (linesR [] l = (ls ++ [now]) ++ linesR [] (l.drop (k + 1))) := by
          have := hr.out
          rw [hdrop, linesR, if_pos h10] at this
          rw [this, List.append_assoc]; exact rfl
        clear hr hdrop h10
        go_wp2_with (at_builtin; refine Hid.out ?_)
        unfold Hid
        have hwa : Fr (fun _ => False) wr (wr.alloc (.cells #[.string (bytesOf now)] 9)) := (Fr.refl (fun _ => False) wr).alloc _
        refine wpList_append_one rfl _ _ 38 rfl 9 i0 (.string ⟨#[]⟩) 16 Tryd.underlying38 hi hz0 hz1 hz2 rfl (.slice q ls.length qc) ls.length (svals ls) rfl (ownsRow_frame hrow.1 hwa (fun _ _ h => h)) ⟨wr.heap.size, 0, none⟩ _ (.string (bytesOf now)) rfl ((Blk.new wr [.string (bytesOf now)] 9).cell 0 rfl) rfl (by unfold maxLen; omega) (by omega) ?_
        intro g cap' w1 ho1 hf1 hg1
        have hrow1 := hrow.step ho1 rfl _ hwa hf1 hg1
        clear ho1 hf1 hg1 hrow hwa
        go_wp2
        go_roundw
        case rel => exact ⟨k + 1, [], ls ++ [now], by omega, rfl, by go_num, by simp, by simp; omega, by simpa using hrow1, HR⟩
        case measure => simp [intOf]; omega
      · have HR : Hid (linesR [] l = ls ++ linesR (now ++ [l[k]]) (l.drop (k + 1))) := by
          have := hr.out
          rw [hdrop, linesR, if_neg h10] at this
          exact this
        have h10b : ((l[k].toNat : Int) == 10) = false := by
          rw [beq_eq_false_iff_ne]; intro h
          exact h10 (UInt8.toNat_inj.1 (by rw [show (10 : UInt8).toNat = 10 by rfl]; omega))
        have hex := ext_at l k hlt
        have happ := bytes_app now [l[k]]
        have hs1 : (bytesOf now).size ≤ 100000 := by rw [bytes_size]; omega
        have hs2 : (bytesOf [l[k]]).size ≤ 1 := by rw [bytes_size]; exact Nat.le_refl _
        clear hr hdrop h10
        go_wp2
        go_roundw
        case rel => exact ⟨k + 1, now ++ [l[k]], ls, by omega, rfl, by go_num, by simp; omega, by omega, hrow, HR⟩
        case measure => simp [intOf]; omega
    · obtain rfl : k = l.length := by omega
      have hfin := hr.out
      rw [List.drop_length, linesR] at hfin
      have hb0 := bytes_is now []
      by_cases h0 : now = []
      · rw [if_pos h0, List.append_nil] at hfin
        rw [decide_eq_true h0] at hb0
        have HFIN : Hid (SRowPost w (linesR [] l) (.returned (.slice q ls.length qc)) wr) := ⟨_, rfl, by rw [hfin]; exact hrow⟩
        clear hr hfin hrow
        generalize bytesOf now = S at *
        go_wp2
        go_ret
        exact HFIN.out
      · rw [if_neg h0] at hfin
        rw [decide_eq_false h0] at hb0
        have HFIN := Lib.hid hfin
        clear hr hfin
        go_wp2_with (at_builtin; refine Hid.out ?_)
        unfold Hid
        have hwa : Fr (fun _ => False) wr (wr.alloc (.cells #[.string (bytesOf now)] 9)) := (Fr.refl (fun _ => False) wr).alloc _
        refine wpList_append_one rfl _ _ 38 rfl 9 i0 (.string ⟨#[]⟩) 16 Tryd.underlying38 hi hz0 hz1 hz2 rfl (.slice q ls.length qc) ls.length (svals ls) rfl (ownsRow_frame hrow.1 hwa (fun _ _ h => h)) ⟨wr.heap.size, 0, none⟩ _ (.string (bytesOf now)) rfl ((Blk.new wr [.string (bytesOf now)] 9).cell 0 rfl) rfl (by unfold maxLen; omega) (by omega) ?_
        intro g cap' w1 ho1 hf1 hg1
        have hrow1 := hrow.step ho1 rfl _ hwa hf1 hg1
        have HF2 : Hid (SRowPost w (linesR [] l) (.returned (.slice (some ⟨g, 0, none⟩) (ls.length + 1) cap')) w1) := ⟨_, rfl, by rw [HFIN.out]; exact hrow1⟩
        clear ho1 hf1 hg1 hrow hwa hrow1
        go_wp2
        go_ret
        exact HF2.out
end Go.Proofs.YtlcgmniahdngdaaDoor
