/- The walks of package exact: sums of rows of floats. -/
import Derived.Test.YtmllbdiljjimmaaExact3
namespace Go.Proofs.Ytmllbdiljjimmaa
open Go.RowKit

/-- What a slice of floats is: its cells, as far as its length. -/
def Flts (w : World) (p : Option Addr) (len : Nat) (fs : List Nat) : Prop :=
  fs.length = len ∧ ∀ i, i < len → ∃ b off f, p = some ⟨b, off, none⟩ ∧ fs[i]? = some f ∧ f < 18446744073709551616 ∧ w.cell? ⟨b, off + i, none⟩ = some (.float .f64 f)

theorem Flts.frame {S : Nat → Prop} {w w' : World} {p : Option Addr} {len : Nat} {fs : List Nat} (h : Flts w p len fs) (hf : Fr S w w') (hn : ∀ b off, p = some ⟨b, off, none⟩ → ¬ S b) : Flts w' p len fs :=
  ⟨h.1, fun i hi => let ⟨b, off, f, hp, hx, hl, hc⟩ := h.2 i hi; ⟨b, off, f, hp, hx, hl, (World.cell?_of_block (w := w) (hf.block b (cell_lt hc) (hn b off hp))).trans hc⟩⟩

theorem got_take {fs : List Nat} {k f : Nat} (h : fs[k]? = some f) : Got.of (fs.take (k + 1)) = (Got.of (fs.take k)).add f := by
  rw [List.take_add_one, h]
  unfold Got.of
  rw [Option.toList_some, List.foldl_append]; rfl

def OfRel (w : World) (b : Nat) (fs : List Nat) (k : Nat) (wr : World) : Prop := SumG wr b (Got.of (fs.take k)) ∧ Fr (fun _ => False) w wr
def OfPost (w : World) (fs : List Nat) (e : Ending) (w' : World) : Prop := ∃ b, e = .returned (.pointer (some ⟨b, 0, none⟩)) ∧ w.heap.size ≤ b ∧ SumG w' b (Got.of fs) ∧ Fr (fun _ => False) w w'

set_option maxHeartbeats 800000 in
set_option maxRecDepth 100000 in
theorem of_sum (p : Option Addr) (len cap : Nat) (fs : List Nat) (w : World) (h : Flts w p len fs) (hlen : len < 4611686018427387904) :
    Calls Try.prog 61 #[.slice p len cap] w (OfPost w fs) := by
  have hl : (len : Int) ≤ 9223372036854775807 := by omega
  have hl2 : len ≤ 9223372036854775807 := by omega
  go_enter Try.func61, Try.ntmps61
  go_wp2_with fail
  refine (new_got w).mono ?_
  rintro e w1 ⟨rfl, g1, f1, l1⟩
  generalize hb : w.heap.size = b at *
  have Hb := Lib.hid hb
  clear hb
  go_wp2_with fail
  go_loopw [9] (fun i wr => ∃ k : Nat, k ≤ len ∧ i = .int .i64 k ∧ OfRel w b fs k wr) (fun i _ => len - (intOf i).toNat)
  case atStart => exact ⟨0, Nat.zero_le _, rfl, g1, f1⟩
  case round =>
    obtain ⟨k, hk, rfl, hg, hf⟩ := hrel
    clear g1 f1 l1
    by_cases hlt : k < len
    · obtain ⟨pb, off, f, rfl, hx, hfl, hc⟩ := (h.frame hf (fun _ _ _ h => h)).2 k hlt
      have hz := zeroes_le (fs.take k)
      have hcnt : (Got.of (fs.take k)).count < 4611686018427387904 := by rw [hz.2, List.length_take]; omega
      have ha := add_got b (Got.of (fs.take k)) f hfl wr hg hcnt hz.1
      rw [← got_take hx] at ha
      have HA := Lib.hid ha
      have HF : Hid (∀ w', Fr (fun k => k = b) wr w' → Fr (fun _ => False) w w') := fun w' h' => hf.trans h' (fun i hi => .inr (by rw [Hb.out]; omega))
      clear ha hz hcnt hx hg
      go_wp2_with fail
      refine (HA.out).mono ?_
      rintro e w2 ⟨rfl, hg2, hf2⟩
      have hr : OfRel w b fs (k + 1) w2 := ⟨hg2, HF.out _ hf2⟩
      go_wp2
      go_roundw
      case rel => exact ⟨k + 1, by omega, by go_num, hr⟩
      case measure => simp [intOf]; omega
    · obtain rfl : k = len := by omega
      rw [List.take_of_length_le (by rw [h.1]; exact Nat.le_refl _)] at hg
      have hfin : OfPost w fs (.returned (.pointer (some ⟨b, 0, none⟩))) wr := ⟨b, rfl, by rw [Hb.out]; exact Nat.le_refl _, hg, hf⟩
      go_wp2
      go_ret
      exact hfin
end Go.Proofs.Ytmllbdiljjimmaa
