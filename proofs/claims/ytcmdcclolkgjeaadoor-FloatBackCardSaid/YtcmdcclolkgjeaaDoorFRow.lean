/- The walk of floats out of words. -/
import Derived.Test.YtcmdcclolkgjeaaDoorFParts
namespace Go.Proofs.YtcmdcclolkgjeaaDoor
open Go.RowKit

def Flts (w : World) (p : Option Addr) (len : Nat) (fs : List Nat) : Prop :=
  fs.length = len ∧ ∀ i, i < len → ∃ b off f, p = some ⟨b, off, none⟩ ∧ fs[i]? = some f ∧ f < 18446744073709551616 ∧ w.cell? ⟨b, off + i, none⟩ = some (.float .f64 f)

theorem Flts.frame {S : Nat → Prop} {w w' : World} {p : Option Addr} {len : Nat} {fs : List Nat} (h : Flts w p len fs) (hf : Fr S w w') (hn : ∀ b off, p = some ⟨b, off, none⟩ → ¬ S b) : Flts w' p len fs :=
  ⟨h.1, fun i hi => let ⟨b, off, f, hp, hx, hl, hc⟩ := h.2 i hi; ⟨b, off, f, hp, hx, hl, (World.cell?_of_block (w := w) (hf.block b (cell_lt hc) (hn b off hp))).trans hc⟩⟩


theorem ownsRow_shape {w : World} {e : TypeId} {v : Value} {n : Nat} {xs : List Value} (h : w.ownsRow 0 e 1 v n xs) : ∃ p cap, v = .slice p n cap := by
  rcases h.2 with ⟨rfl, rfl⟩ | ⟨g, cap, cur, rfl, _⟩
  · exact ⟨_, _, rfl⟩
  · exact ⟨_, _, rfl⟩

theorem info_float : (Tryd.prog.info? 23).map (fun i => (i.zero, i.size, i.bytes)) = some (some (.float .f64 0), 1, 8) := by kernel_rfl

def fvals (fs : List Nat) : List Value := fs.map (fun f : Nat => Value.float .f64 f)

/-- A row of floats that the call owns. -/
def FRow (w0 : World) (v : Value) (fs : List Nat) (w : World) : Prop :=
  w.ownsRow 0 23 1 v fs.length (fvals fs) ∧ (∀ i, v.ownBlock = some i → w0.heap.size ≤ i) ∧ (∀ f ∈ fs, f < 18446744073709551616) ∧ Fr (fun _ => False) w0 w

theorem flts_of_row {w0 w : World} {v : Value} {fs : List Nat} (h : FRow w0 v fs w) : ∃ p cap, v = .slice p fs.length cap ∧ Flts w p fs.length fs ∧ (p = none ∨ ∃ g, p = some ⟨g, 0, none⟩ ∧ w0.heap.size ≤ g) := by
  obtain ⟨ho, hb, hl, _⟩ := h
  rcases ho.2 with ⟨rfl, h0⟩ | ⟨g, cap, cur, rfl, _, hg, _⟩
  · have : fs = [] := List.eq_nil_of_length_eq_zero h0
    subst this
    exact ⟨none, 0, rfl, ⟨rfl, fun i hi => absurd hi (by simp)⟩, .inl rfl⟩
  · refine ⟨some ⟨g, 0, none⟩, cap, rfl, ⟨rfl, fun i hi => ?_⟩, .inr ⟨g, rfl, hb g rfl⟩⟩
    have hc := ho.cells (g := g) rfl i (.float .f64 fs[i]) (by unfold fvals; simp [hi])
    refine ⟨g, 0, fs[i], rfl, by simp [hi], hl _ (List.getElem_mem hi), ?_⟩
    have ha : (⟨g, 0, none⟩ : Addr).add i = ⟨g, 0 + i, none⟩ := by unfold Addr.add; split <;> simp_all
    rw [ha] at hc
    exact hc

def FloatsRel (w : World) (fs : List Nat) (k : Nat) (v : Value) (wr : World) : Prop := FRow w v (fs.take k) wr
def FloatsPost (w : World) (fs : List Nat) (e : Ending) (w' : World) : Prop := ∃ v, e = .returned v ∧ FRow w v fs w'

set_option maxHeartbeats 800000 in
set_option maxRecDepth 100000 in
theorem floats_any (p : Option Addr) (len cap : Nat) (fs : List Nat) (w : World) (h : Nums .u64 w p len (fs.map Int.ofNat)) (hf : ∀ f ∈ fs, f < 18446744073709551616) (hlen : len ≤ 100000) :
    Calls Tryd.prog 13 #[.slice p len cap] w (FloatsPost w fs) := by
  obtain ⟨i0, hi, hz0, hz1, hz2⟩ := info_parts info_float
  have hfl : fs.length = len := by have := h.1; simpa using this
  go_enter Tryd.func13, Tryd.ntmps13
  go_wp2
  go_loopw [3, 8] (fun v i wr => ∃ k : Nat, k ≤ len ∧ i = .int .i64 k ∧ FloatsRel w fs k v wr) (fun _ i _ => len - (intOf i).toNat)
  case atStart => exact ⟨0, Nat.zero_le _, rfl, World.ownsRow_nil _ _ _ _, by simp [Value.ownBlock], by simp, Fr.refl _ _⟩
  case round =>
    obtain ⟨k, hk, rfl, hrow⟩ := hrel
    by_cases hlt : k < len
    · have hrow' := hrow
      obtain ⟨ho, hb, hl, hfr⟩ := hrow
      obtain ⟨pb, off, x, rfl, hx, hc⟩ := (h.frame hfr).2 k hlt
      obtain ⟨f, hfx, rfl⟩ : ∃ f : Nat, fs[k]? = some f ∧ x = (f : Int) := by
        rw [List.getElem?_map] at hx
        cases hfk : fs[k]? with
        | none => rw [hfk] at hx; cases hx
        | some f => rw [hfk] at hx; exact ⟨f, rfl, by simpa using hx.symm⟩
      have hff : f < 18446744073709551616 := hf f (List.mem_of_getElem? hfx)
      have htk : (fs.take k).length = k := by rw [List.length_take]; omega
      rw [htk] at ho
      obtain ⟨q, qc, rfl⟩ := ownsRow_shape ho
      have Hx := Lib.hid hfx
      have Htk := Lib.hid htk
      have HO := Lib.hid (of_any f wr)
      clear hx hfx htk
      go_wp2_with fail
      refine (HO.out).mono ?_
      rintro e w2 ⟨rfl, hw2⟩
      subst hw2
      go_wp2_with (at_builtin; refine Hid.out ?_)
      unfold Hid
      have hf0 : Fr (fun _ => False) wr (wr.alloc (.cells #[.float .f64 f] 23)) := (Fr.refl (fun _ => False) wr).alloc _
      refine wpList_append_one rfl _ _ 29 rfl 23 i0 (.float .f64 0) 8 Tryd.underlying29 hi hz0 hz1 hz2 rfl (.slice q k qc) k (fvals (fs.take k)) rfl (ownsRow_frame ho hf0 (fun _ _ h => h)) ⟨wr.heap.size, 0, none⟩ _ (.float .f64 f) rfl ((Blk.new wr [.float .f64 f] 23).cell 0 rfl) rfl (by unfold maxLen; omega) (by omega) ?_
      intro g cap' w1 ho1 hf1 hg1
      have hrel1 : FloatsRel w fs (k + 1) (.slice (some ⟨g, 0, none⟩) (k + 1) cap') w1 := by
        have e1 : fs.take (k + 1) = fs.take k ++ [f] := by rw [List.take_add_one, Hx.out]; rfl
        have hw1 := hfr.trans hf0 (fun _ h => h.elim)
        refine ⟨?_, ?_, ?_, hw1.trans hf1 (fun i hi => .inr (hb i hi))⟩
        · have e2 : (fs.take (k + 1)).length = k + 1 := by rw [List.length_take]; omega
          rw [e2, show fvals (fs.take (k + 1)) = fvals (fs.take k) ++ [.float .f64 f] by rw [e1]; unfold fvals; simp]
          exact ho1
        · intro i hi
          simp only [Value.ownBlock, Option.some.injEq] at hi
          subst hi
          rcases hg1 with h | h
          · exact hb _ h
          · have := hw1.size; omega
        · intro y hy; exact hf y (List.mem_of_mem_take hy)
      clear ho1 hf1 hg1 ho hb hl hrow' hf0
      go_wp2
      go_roundw
      case rel => exact ⟨k + 1, by omega, by go_num, hrel1⟩
      case measure => simp [intOf]; omega
    · obtain rfl : k = len := by omega
      obtain ⟨q, qc, rfl⟩ := ownsRow_shape hrow.1
      have htk : fs.take k = fs := List.take_of_length_le (by omega)
      have hr2 : FRow w (.slice q (fs.take k).length qc) fs wr := by
        have h' : FRow w (.slice q (fs.take k).length qc) (fs.take k) wr := hrow
        rwa [htk] at h' ⊢
      have hfin : FloatsPost w fs (.returned (.slice q (fs.take k).length qc)) wr := ⟨_, rfl, hr2⟩
      clear hrow hr2 htk
      go_wp2
      go_ret
      exact hfin
theorem FRow.frame {S : Nat → Prop} {W w w' : World} {v : Value} {fs : List Nat} (h : FRow W v fs w) (hf : Fr S w w') (hn : ∀ i, v.ownBlock = some i → ¬ S i) (hs : ∀ i, S i → W.heap.size ≤ i) : FRow W v fs w' :=
  ⟨ownsRow_frame h.1 hf hn, h.2.1, h.2.2.1, h.2.2.2.trans hf (fun i hi => .inr (hs i hi))⟩
theorem FRow.lt {W w : World} {v : Value} {fs : List Nat} (h : FRow W v fs w) : ∀ i, v.ownBlock = some i → i < w.heap.size := by
  intro i hi
  rcases h.1.2 with ⟨rfl, _⟩ | ⟨g, cap, cur, rfl, _, hg, _⟩
  · simp [Value.ownBlock] at hi
  · simp only [Value.ownBlock, Option.some.injEq] at hi
    subst hi
    exact (Array.getElem?_eq_some_iff.1 hg).1
def Words (w : World) (p : Option Addr) (len : Nat) (fs : List Nat) : Prop := Nums .u64 w p len (fs.map Int.ofNat) ∧ ∀ f ∈ fs, f < 18446744073709551616
theorem Words.len {w : World} {p : Option Addr} {len : Nat} {fs : List Nat} (h : Words w p len fs) : fs.length = len := by have := h.1.1; simpa using this
theorem Words.at {w : World} {p : Option Addr} {len : Nat} {fs : List Nat} (h : Words w p len fs) {k : Nat} (hk : k < len) : ∃ b off f, p = some ⟨b, off, none⟩ ∧ fs[k]? = some f ∧ f < 18446744073709551616 ∧ w.cell? ⟨b, off + k, none⟩ = some (.int .u64 (f : Int)) := by
  obtain ⟨b, off, x, hp, hx, hc⟩ := h.1.2 k hk
  obtain ⟨f, hfx, rfl⟩ : ∃ f : Nat, fs[k]? = some f ∧ x = (f : Int) := by
    rw [List.getElem?_map] at hx
    cases hfk : fs[k]? with
    | none => rw [hfk] at hx; cases hx
    | some f => rw [hfk] at hx; exact ⟨f, rfl, by simpa using hx.symm⟩
  exact ⟨b, off, f, hp, hfx, h.2 f (List.mem_of_getElem? hfx), hc⟩
theorem Words.frame {w w' : World} {p : Option Addr} {len : Nat} {fs : List Nat} (h : Words w p len fs) (hf : Fr (fun _ => False) w w') : Words w' p len fs := ⟨h.1.frame hf, h.2⟩

end Go.Proofs.YtcmdcclolkgjeaaDoor
