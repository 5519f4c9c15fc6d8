/- The walk of the reference's Same: two rows that hold the same strings. -/
import Derived.Test.YtlcgmniahdngdaaDoorDFields
namespace Go.Proofs.YtlcgmniahdngdaaDoor
open Go.RowKit

set_option maxHeartbeats 1600000 in
set_option maxRecDepth 100000 in
theorem same_true (ls : List (List UInt8)) (v1 v2 : Value) (hl : ls.length ≤ 1000000) (w : World) (h1 : Strs w v1 ls) (h2 : Strs w v2 ls) : Calls Tryd.prog 20 #[v1, v2] w (LawPost w) := by
  obtain ⟨p1, c1, rfl, e1⟩ := h1
  obtain ⟨p2, c2, rfl, e2⟩ := h2
  have hne : ((ls.length : Int) != (ls.length : Int)) = false := by simp
  go_enter Tryd.func20, Tryd.ntmps20
  go_wp2
  go_loopw [5] (fun i wr => ∃ k : Nat, k ≤ ls.length ∧ i = .int .i64 (k : Int) ∧ Fr (fun _ => False) w wr) (fun i _ => ls.length - (intOf i).toNat)
  case atStart => exact ⟨0, Nat.zero_le _, rfl, Fr.refl _ _⟩
  case round =>
    obtain ⟨k, hk, rfl, hf⟩ := hrel
    by_cases hlt : k < ls.length
    · obtain ⟨b1, o1, rfl, hc1⟩ := e1 k ls[k] (List.getElem?_eq_getElem hlt)
      obtain ⟨b2, o2, rfl, hc2⟩ := e2 k ls[k] (List.getElem?_eq_getElem hlt)
      have hd1 : wr.cell? ⟨b1, o1 + k, none⟩ = some (.string (bytesOf ls[k])) := (World.cell?_of_block (w := w) (hf.block b1 (cell_lt hc1) (fun h => h))).trans hc1
      have hd2 : wr.cell? ⟨b2, o2 + k, none⟩ = some (.string (bytesOf ls[k])) := (World.cell?_of_block (w := w) (hf.block b2 (cell_lt hc2) (fun h => h))).trans hc2
      have hss : ((bytesOf ls[k]).toList == (bytesOf ls[k]).toList) = true := beq_self_eq_true _
      generalize bytesOf ls[k] = S at *
      clear e1 e2 hc1 hc2
      go_wp2
      go_quiet (fail)
      go_wp2
      go_roundw
      case rel => exact ⟨k + 1, by omega, by go_num, hf.drewN _⟩
      case measure => simp [intOf]; omega
    · obtain rfl : k = ls.length := by omega
      clear e1 e2
      go_wp2
      go_ret
      exact ⟨rfl, hf⟩
end Go.Proofs.YtlcgmniahdngdaaDoor
