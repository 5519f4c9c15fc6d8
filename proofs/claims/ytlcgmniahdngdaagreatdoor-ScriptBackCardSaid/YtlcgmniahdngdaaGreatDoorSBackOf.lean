/- The law ScriptBack at arguments that were read. -/
import Derived.Test.YtlcgmniahdngdaaGreatDoorSBack2
import Derived.Test.YtlcgmniahdngdaaGreatDoorFlat
namespace Go.Proofs.YtlcgmniahdngdaaGreatDoor
open Go.RowKit Go.Great

def opKinds : List Sc := [.int .i64, .int .i64, .int .i64, .int .i64, .int .i64, .int .i64, .int .i64, .int .u64, .float .f64]
theorem op_of_cells {cs : List Value} (h : AllOk opKinds cs) : ∃ o : OpR, o.Ok ∧ cs = o.cells := by
  rcases cs with _ | ⟨_, cs⟩
  · exact h.elim
  obtain ⟨⟨k, rfl, hk⟩, h⟩ := h
  rcases cs with _ | ⟨_, cs⟩
  · exact h.elim
  obtain ⟨⟨a, rfl, ha⟩, h⟩ := h
  rcases cs with _ | ⟨_, cs⟩
  · exact h.elim
  obtain ⟨⟨b, rfl, hb⟩, h⟩ := h
  rcases cs with _ | ⟨_, cs⟩
  · exact h.elim
  obtain ⟨⟨i, rfl, hi⟩, h⟩ := h
  rcases cs with _ | ⟨_, cs⟩
  · exact h.elim
  obtain ⟨⟨p, rfl, hp⟩, h⟩ := h
  rcases cs with _ | ⟨_, cs⟩
  · exact h.elim
  obtain ⟨⟨f, rfl, hf⟩, h⟩ := h
  rcases cs with _ | ⟨_, cs⟩
  · exact h.elim
  obtain ⟨⟨g, rfl, hg⟩, h⟩ := h
  rcases cs with _ | ⟨_, cs⟩
  · exact h.elim
  obtain ⟨⟨x, rfl, hx⟩, h⟩ := h
  rcases cs with _ | ⟨_, cs⟩
  · exact h.elim
  obtain ⟨⟨q, rfl, hq⟩, h⟩ := h
  rcases cs with _ | ⟨_, cs⟩
  rotate_left
  · exact h.elim
  obtain ⟨y, rfl, hy⟩ := u64_nat hx
  exact ⟨⟨k, a, b, i, p, f, g, y, q⟩, ⟨i64_int hk, i64_int ha, i64_int hb, i64_int hi, i64_int hp, i64_int hf, i64_int hg, hy, by simpa [Lit.wf] using hq⟩, rfl⟩
theorem ops_of {W : World} {p : Option Addr} {len : Nat} (h : RowsOf opKinds W p len) : ∀ n, n ≤ len → ∃ os : List OpR, os.length = n ∧ (∀ o ∈ os, o.Ok) ∧ OpsAt W p os
  | 0, _ => ⟨[], rfl, fun o h => by (cases h), fun i o h => by simp at h⟩
  | n + 1, hn => by
    obtain ⟨os, hl, hok, hat⟩ := ops_of h n (by omega)
    obtain ⟨b, off, cs, hp, hall, hc⟩ := h n (by omega)
    obtain ⟨o, ho, rfl⟩ := op_of_cells hall
    refine ⟨os ++ [o], by simp [hl], ?_, ?_⟩
    · intro x hx
      rcases List.mem_append.1 hx with h | h
      · exact hok x h
      · rw [List.mem_singleton.1 h]; exact ho
    · intro i x hx
      by_cases hi : i < os.length
      · rw [List.getElem?_append_left hi] at hx
        exact hat i x hx
      · have hi2 : i = n := by
          have := (List.getElem?_eq_some_iff.1 hx).1
          simp at this; omega
        subst hi2
        rw [List.getElem?_append_right (by omega), show i - os.length = 0 by omega] at hx
        cases hx
        refine ⟨b, off, hp, cell_lt (hc 0 _ rfl), fun j v hv => ?_⟩
        exact hc j v hv
theorem ScriptBack_of {p : Option Addr} {len cap : Nat} {W : World} (h : RowsOf opKinds W p len) (s : ByteArray) (hL : laidMetH Tryz.prog Rows.scriptBackRow.laid W) :
    Calls Tryz.prog 3 #[.slice p len cap, .string s] W (LawPost W) := by
  obtain ⟨os, hl, hok, hat⟩ := ops_of h len (Nat.le_refl _)
  have ht := tabs_of hL
  have := ScriptBack_any os hok p cap s.data.toList W hat ht.1 ht.2 (errw_of hL)
  rw [hl, bytes_self] at this
  exact this
end Go.Proofs.YtlcgmniahdngdaaGreatDoor
