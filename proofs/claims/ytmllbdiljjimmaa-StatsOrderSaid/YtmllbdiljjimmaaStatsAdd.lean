/- The walk of stats.Add. -/
import Derived.Test.YtmllbdiljjimmaaStatsPlain
namespace Go.Proofs.Ytmllbdiljjimmaa
open Go.RowKit

/-- Behind a float that came. -/
def AddPost35 (W w : World) (b : Nat) (v : Value) (fs : List Nat) (e : Ending) (w' : World) : Prop :=
  e = .returned (.tuple #[]) ∧ ∃ v', RowB W w' b v' fs ∧ Fr (fun i => i = b ∨ v.ownBlock = some i) w w' ∧ ∀ i, v'.ownBlock = some i → v.ownBlock = some i ∨ w.heap.size ≤ i
set_option maxRecDepth 100000 in
theorem radd_nil (f : Nat) (w : World) : Calls Try.prog 60 #[.pointer none, .float .f64 f] w fun e w' => e = .returned (.tuple #[]) ∧ w = w' := by
  go_enter Try.func60, Try.ntmps60
  go_wp2
  go_end0
  exact ⟨rfl, rfl⟩
theorem add_end {W w w7 w9 : World} {b f : Nat} {v v' : Value} {fs : List Nat} (h : RowB W w b v fs) (h7 : Fr (fun _ => False) w w7) (hrow : FRow W v' (insF fs f) w9) (hf : Fr (fun i => v.ownBlock = some i) w7 w9) (hg : ∀ i, v'.ownBlock = some i → v.ownBlock = some i ∨ w7.heap.size ≤ i) :
    Blk w9 b [v] 115 ∧ AddPost35 W w b v (insF fs f) (.returned (.tuple #[])) (w9.setCell ⟨b, 0, none⟩ v') := by
  have hb9 := (h.1.frame h7 (fun h => h)).frame hf h.2.2.1
  have hlt := h.1.lt
  have hne : v'.ownBlock ≠ some b := fun e => by
    rcases hg b e with k | k
    · exact h.2.2.1 k
    · have := h7.size; omega
  have hS : Fr (fun i => i = b ∨ v.ownBlock = some i) w w9 := (h7.mono (S' := fun i => i = b ∨ v.ownBlock = some i) (fun i h => h.elim)).trans hf (fun i hi => .inl (.inr hi))
  refine ⟨hb9, rfl, v', ⟨hb9.set 0 v', hrow.frame (S := fun i => i = b) ((Fr.refl (fun i => i = b) w9).setCell ⟨b, 0, none⟩ (.inl rfl) v') (fun i hi e => hne (by rw [hi, e])) (fun i hi => by rw [hi]; exact h.2.2.2), hne, h.2.2.2⟩, hS.setCell ⟨b, 0, none⟩ (.inl (.inl rfl)) v', fun i hi => ?_⟩
  rcases hg i hi with k | k
  · exact .inl k
  · have := h7.size; exact .inr (by omega)

set_option maxRecDepth 100000 in
set_option maxHeartbeats 3200000 in
theorem radd_any {W w : World} {b : Nat} {v : Value} {fs : List Nat} (h : RowB W w b v fs) (hs : SortF fs) (hl : fs.length ≤ 90000) (f : Nat) (hf : f < 18446744073709551616) :
    Calls Try.prog 60 #[.pointer (some ⟨b, 0, none⟩), .float .f64 f] w (AddPost35 W w b v (insF fs f)) := by
  have HR := Lib.hid h
  have HU : Hid (∀ w', Fr (fun _ => False) w w' → Calls Try.prog 88 #[.pointer (some ⟨b, 0, none⟩), .float .f64 f] w' (IntP w' (rankU fs f))) := fun w' hf' => upto_any (h.keep hf') hs (by omega) f hf
  have HRK := Lib.hid (rankU_split hs f).1
  have HI : Hid (∀ w' vb, Fr (fun _ => False) w w' → Blk w' vb [.float .f64 f] 26 → w.heap.size ≤ vb → Calls Try.prog 90 #[v, .int .i64 (rankU fs f : Int), .slice (some ⟨vb, 0, none⟩) 1 1] w' (InsPost W w' v (insF fs f))) := fun w' vb hf' hb hvb =>
    insert_any (h.2.1.frame hf' (fun _ _ h => h) (fun _ h => h.elim)) (by omega) _ HRK.out vb f hf hb (fun e => by have := h.2.1.lt vb e; omega)
  have HE : Hid (∀ w7 w9 v', Fr (fun _ => False) w w7 → FRow W v' (insF fs f) w9 → Fr (fun i => v.ownBlock = some i) w7 w9 → (∀ i, v'.ownBlock = some i → v.ownBlock = some i ∨ w7.heap.size ≤ i) → Blk w9 b [v] 115 ∧ AddPost35 W w b v (insF fs f) (.returned (.tuple #[])) (w9.setCell ⟨b, 0, none⟩ v')) := fun w7 w9 v' h1 h2 h3 h4 => add_end h h1 h2 h3 h4
  have HC : Hid (∀ w', Fr (fun _ => False) w w' → w'.cell? ⟨b, 0, none⟩ = some v) := fun w' hf' => (h.keep hf').1.cell 0 rfl
  have hrow := h.row
  obtain ⟨q, qc, rfl⟩ := hrow
  clear h
  generalize rankU fs f = k at *
  generalize fs.length = n at *
  go_enter Try.func60, Try.ntmps60
  go_upto_region 1 with fail
  refine wp_region_any (by kernel_rfl) ?_
  change wpAny _ _ _ _ _ _ _ (World.drew _)
  have HF0 := Lib.hid ((Fr.refl (fun _ => False) w).drew)
  generalize w.drew = w0 at *
  refine takeA (i := 0) (d := 6) (v := .pointer (some ⟨b, 0, none⟩)) rfl rfl (by kernel_rfl) (by kernel_rfl) (by kernel_rfl) (fun _ _ _ h => h) (Or.inl ⟨by rfl, fun w => by go_simp⟩) ?_
  simp only [Act.put, List.setIfInBounds_toArray, List.set_cons_zero, List.set_cons_succ]
  refine takeA (i := 1) (d := 7) (v := .pointer (some ⟨b, 0, none⟩)) rfl rfl (by kernel_rfl) (by kernel_rfl) (by kernel_rfl) (fun _ _ _ h => h) (Or.inl ⟨by rfl, fun w => by go_simp⟩) ?_
  simp only [Act.put, List.setIfInBounds_toArray, List.set_cons_zero, List.set_cons_succ]
  refine takeA (i := 2) (d := 8) (v := .pointer (some ⟨b, 0, none⟩)) rfl rfl (by kernel_rfl) (by kernel_rfl) (by kernel_rfl) (fun _ _ _ h => h) (Or.inl ⟨by rfl, fun w => by go_simp⟩) ?_
  simp only [Act.put, List.setIfInBounds_toArray, List.set_cons_zero, List.set_cons_succ]
  refine takeA (i := 3) (d := 9) (v := .pointer (some ⟨b, 0, none⟩)) rfl rfl (by kernel_rfl) (by kernel_rfl) (by kernel_rfl) (fun _ _ _ h => h) (Or.inl ⟨by rfl, fun w => by go_simp⟩) ?_
  simp only [Act.put, List.setIfInBounds_toArray, List.set_cons_zero, List.set_cons_succ]
  refine takeA (i := 5) (d := 11) (v := .pointer (some ⟨b, 0, none⟩)) rfl rfl (by kernel_rfl) (by kernel_rfl) (by kernel_rfl) (fun _ _ _ h => h) (Or.inl ⟨by rfl, fun w => by go_simp⟩) ?_
  simp only [Act.put, List.setIfInBounds_toArray, List.set_cons_zero, List.set_cons_succ]
  refine takeA (i := 6) (d := 12) (v := .float .f64 f) rfl rfl (by kernel_rfl) (by kernel_rfl) (by kernel_rfl) (fun _ _ _ h => h) (Or.inl ⟨by rfl, fun w => by go_simp⟩) ?_
  simp only [Act.put, List.setIfInBounds_toArray, List.set_cons_zero, List.set_cons_succ]
  refine takeA (i := 8) (d := 14) (v := .float .f64 f) rfl rfl (by kernel_rfl) (by kernel_rfl) (by kernel_rfl) (fun _ _ _ h => h) (Or.inl ⟨by rfl, fun w => by go_simp⟩) ?_
  simp only [Act.put, List.setIfInBounds_toArray, List.set_cons_zero, List.set_cons_succ]
  refine wpAny_ready (rs := [4, 7, 9]) (by kernel_rfl) (by simp) ?_
  refine AllReady.cons rfl (fun K hK => ?_) (AllReady.cons rfl (fun K hK => ?_) (AllReady.cons rfl (fun K hK => ?_) AllReady.nil))
  · have kc := HC.out _ HF0.out
    go_simp
    refine hK _ _ ?_
    clear hK K kc
    try simp only [Act.put, List.setIfInBounds_toArray, List.set_cons_zero, List.set_cons_succ]
    refine wpAny_ready (rs := [7, 9]) (by kernel_rfl) (by simp) ?_
    refine AllReady.cons rfl (fun K hK => ?_) (AllReady.cons rfl (fun K hK => ?_) AllReady.nil)
    · go_simp
      refine (HU.out _ HF0.out).mono ?_
      rintro e w1 ⟨rfl, hf'⟩
      have HF1 := Lib.hid (HF0.out.trans hf' (fun _ h => h.elim))
      clear hf'
      dsimp only
      refine hK _ _ ?_
      clear hK K HF0
      try simp only [Act.put, List.setIfInBounds_toArray, List.set_cons_zero, List.set_cons_succ]
      refine wpAny_ready (rs := [9]) (by kernel_rfl) (by simp) ?_
      refine AllReady.cons rfl (fun K hK => ?_) AllReady.nil
      · go_simp
        have HF2 : Hid (Fr (fun _ => False) w (w1.alloc (.cells #[.float .f64 f] 26))) := HF1.out.alloc _
        have HV : Hid (Blk (w1.alloc (.cells #[.float .f64 f] 26)) w1.heap.size [.float .f64 f] 26 ∧ w.heap.size ≤ w1.heap.size) := ⟨Blk.new w1 [.float .f64 f] 26, HF1.out.size⟩
        refine hK _ _ ?_
        clear hK K HF1
        generalize w1.alloc (.cells #[.float .f64 f] 26) = w2 at *
        generalize w1.heap.size = vb at *
        try simp only [Act.put, List.setIfInBounds_toArray, List.set_cons_zero, List.set_cons_succ]
        refine wpAny_ready (rs := [10]) (by kernel_rfl) (by simp) ?_
        refine AllReady.cons rfl (fun K hK => ?_) AllReady.nil
        go_simp
        refine (HI.out _ vb HF2.out HV.out.1 HV.out.2).mono ?_
        rintro e w9 ⟨v', rfl, hrow, hf9, hg9⟩
        obtain ⟨q9, c9, rfl⟩ := ownsRow_shape hrow.1
        have HX := Lib.hid (HE.out w2 w9 _ HF2.out hrow hf9 hg9)
        clear hrow hf9 hg9
        dsimp only
        refine hK _ _ ?_
        clear hK K
        try simp only [Act.put, List.setIfInBounds_toArray, List.set_cons_zero, List.set_cons_succ]
        refine wpAny_ready (rs := [11]) (by kernel_rfl) (by simp) ?_
        refine AllReady.cons rfl (fun K hK => ?_) AllReady.nil
        go_simp
        refine hK _ _ ?_
        clear hK K
        try simp only [Act.put, List.setIfInBounds_toArray, List.set_cons_zero, List.set_cons_succ]
        refine wpAny_ready (rs := [12]) (by kernel_rfl) (by simp) ?_
        refine AllReady.cons rfl (fun K hK => ?_) AllReady.nil
        go_simp
        refine hK _ _ ?_
        clear hK K
        try simp only [Act.put, List.setIfInBounds_toArray, List.set_cons_zero, List.set_cons_succ]
        have kb := HX.out.1.cell 0 rfl
        have kf := HX.out.1.free 0
        refine wpAny_ready (rs := [13]) (by kernel_rfl) (by simp) ?_
        refine AllReady.cons rfl (fun K hK => ?_) AllReady.nil
        go_simp
        refine hK _ _ ?_
        clear hK K
        try simp only [Act.put]
        refine wpAny_done (by kernel_rfl) ?_ _
        go_wp2
        go_end0
        exact HX.out.2
    · go_simp
      have HF1 : Hid (Fr (fun _ => False) w (w0.alloc (.cells #[.float .f64 f] 26))) := HF0.out.alloc _
      have HV : Hid (Blk (w0.alloc (.cells #[.float .f64 f] 26)) w0.heap.size [.float .f64 f] 26 ∧ w.heap.size ≤ w0.heap.size) := ⟨Blk.new w0 [.float .f64 f] 26, HF0.out.size⟩
      refine hK _ _ ?_
      clear hK K HF0
      generalize w0.alloc (.cells #[.float .f64 f] 26) = w1 at *
      generalize w0.heap.size = vb at *
      try simp only [Act.put, List.setIfInBounds_toArray, List.set_cons_zero, List.set_cons_succ]
      refine wpAny_ready (rs := [7]) (by kernel_rfl) (by simp) ?_
      refine AllReady.cons rfl (fun K hK => ?_) AllReady.nil
      · go_simp
        refine (HU.out _ HF1.out).mono ?_
        rintro e w2 ⟨rfl, hf'⟩
        have HF2 := Lib.hid (HF1.out.trans hf' (fun _ h => h.elim))
        have HV' := Lib.hid (And.intro (HV.out.1.frame hf' (fun h => h)) HV.out.2)
        clear HV
        have HV := HV'
        clear HV'
        clear hf'
        dsimp only
        refine hK _ _ ?_
        clear hK K HF1
        try simp only [Act.put, List.setIfInBounds_toArray, List.set_cons_zero, List.set_cons_succ]
        refine wpAny_ready (rs := [10]) (by kernel_rfl) (by simp) ?_
        refine AllReady.cons rfl (fun K hK => ?_) AllReady.nil
        go_simp
        refine (HI.out _ vb HF2.out HV.out.1 HV.out.2).mono ?_
        rintro e w9 ⟨v', rfl, hrow, hf9, hg9⟩
        obtain ⟨q9, c9, rfl⟩ := ownsRow_shape hrow.1
        have HX := Lib.hid (HE.out w2 w9 _ HF2.out hrow hf9 hg9)
        clear hrow hf9 hg9
        dsimp only
        refine hK _ _ ?_
        clear hK K
        try simp only [Act.put, List.setIfInBounds_toArray, List.set_cons_zero, List.set_cons_succ]
        refine wpAny_ready (rs := [11]) (by kernel_rfl) (by simp) ?_
        refine AllReady.cons rfl (fun K hK => ?_) AllReady.nil
        go_simp
        refine hK _ _ ?_
        clear hK K
        try simp only [Act.put, List.setIfInBounds_toArray, List.set_cons_zero, List.set_cons_succ]
        refine wpAny_ready (rs := [12]) (by kernel_rfl) (by simp) ?_
        refine AllReady.cons rfl (fun K hK => ?_) AllReady.nil
        go_simp
        refine hK _ _ ?_
        clear hK K
        try simp only [Act.put, List.setIfInBounds_toArray, List.set_cons_zero, List.set_cons_succ]
        have kb := HX.out.1.cell 0 rfl
        have kf := HX.out.1.free 0
        refine wpAny_ready (rs := [13]) (by kernel_rfl) (by simp) ?_
        refine AllReady.cons rfl (fun K hK => ?_) AllReady.nil
        go_simp
        refine hK _ _ ?_
        clear hK K
        try simp only [Act.put]
        refine wpAny_done (by kernel_rfl) ?_ _
        go_wp2
        go_end0
        exact HX.out.2
  · go_simp
    refine (HU.out _ HF0.out).mono ?_
    rintro e w1 ⟨rfl, hf'⟩
    have HF1 := Lib.hid (HF0.out.trans hf' (fun _ h => h.elim))
    clear hf'
    dsimp only
    refine hK _ _ ?_
    clear hK K HF0
    try simp only [Act.put, List.setIfInBounds_toArray, List.set_cons_zero, List.set_cons_succ]
    refine wpAny_ready (rs := [4, 9]) (by kernel_rfl) (by simp) ?_
    refine AllReady.cons rfl (fun K hK => ?_) (AllReady.cons rfl (fun K hK => ?_) AllReady.nil)
    · have kc := HC.out _ HF1.out
      go_simp
      refine hK _ _ ?_
      clear hK K kc
      try simp only [Act.put, List.setIfInBounds_toArray, List.set_cons_zero, List.set_cons_succ]
      refine wpAny_ready (rs := [9]) (by kernel_rfl) (by simp) ?_
      refine AllReady.cons rfl (fun K hK => ?_) AllReady.nil
      · go_simp
        have HF2 : Hid (Fr (fun _ => False) w (w1.alloc (.cells #[.float .f64 f] 26))) := HF1.out.alloc _
        have HV : Hid (Blk (w1.alloc (.cells #[.float .f64 f] 26)) w1.heap.size [.float .f64 f] 26 ∧ w.heap.size ≤ w1.heap.size) := ⟨Blk.new w1 [.float .f64 f] 26, HF1.out.size⟩
        refine hK _ _ ?_
        clear hK K HF1
        generalize w1.alloc (.cells #[.float .f64 f] 26) = w2 at *
        generalize w1.heap.size = vb at *
        try simp only [Act.put, List.setIfInBounds_toArray, List.set_cons_zero, List.set_cons_succ]
        refine wpAny_ready (rs := [10]) (by kernel_rfl) (by simp) ?_
        refine AllReady.cons rfl (fun K hK => ?_) AllReady.nil
        go_simp
        refine (HI.out _ vb HF2.out HV.out.1 HV.out.2).mono ?_
        rintro e w9 ⟨v', rfl, hrow, hf9, hg9⟩
        obtain ⟨q9, c9, rfl⟩ := ownsRow_shape hrow.1
        have HX := Lib.hid (HE.out w2 w9 _ HF2.out hrow hf9 hg9)
        clear hrow hf9 hg9
        dsimp only
        refine hK _ _ ?_
        clear hK K
        try simp only [Act.put, List.setIfInBounds_toArray, List.set_cons_zero, List.set_cons_succ]
        refine wpAny_ready (rs := [11]) (by kernel_rfl) (by simp) ?_
        refine AllReady.cons rfl (fun K hK => ?_) AllReady.nil
        go_simp
        refine hK _ _ ?_
        clear hK K
        try simp only [Act.put, List.setIfInBounds_toArray, List.set_cons_zero, List.set_cons_succ]
        refine wpAny_ready (rs := [12]) (by kernel_rfl) (by simp) ?_
        refine AllReady.cons rfl (fun K hK => ?_) AllReady.nil
        go_simp
        refine hK _ _ ?_
        clear hK K
        try simp only [Act.put, List.setIfInBounds_toArray, List.set_cons_zero, List.set_cons_succ]
        have kb := HX.out.1.cell 0 rfl
        have kf := HX.out.1.free 0
        refine wpAny_ready (rs := [13]) (by kernel_rfl) (by simp) ?_
        refine AllReady.cons rfl (fun K hK => ?_) AllReady.nil
        go_simp
        refine hK _ _ ?_
        clear hK K
        try simp only [Act.put]
        refine wpAny_done (by kernel_rfl) ?_ _
        go_wp2
        go_end0
        exact HX.out.2
    · go_simp
      have HF2 : Hid (Fr (fun _ => False) w (w1.alloc (.cells #[.float .f64 f] 26))) := HF1.out.alloc _
      have HV : Hid (Blk (w1.alloc (.cells #[.float .f64 f] 26)) w1.heap.size [.float .f64 f] 26 ∧ w.heap.size ≤ w1.heap.size) := ⟨Blk.new w1 [.float .f64 f] 26, HF1.out.size⟩
      refine hK _ _ ?_
      clear hK K HF1
      generalize w1.alloc (.cells #[.float .f64 f] 26) = w2 at *
      generalize w1.heap.size = vb at *
      try simp only [Act.put, List.setIfInBounds_toArray, List.set_cons_zero, List.set_cons_succ]
      refine wpAny_ready (rs := [4]) (by kernel_rfl) (by simp) ?_
      refine AllReady.cons rfl (fun K hK => ?_) AllReady.nil
      · have kc := HC.out _ HF2.out
        go_simp
        refine hK _ _ ?_
        clear hK K kc
        try simp only [Act.put, List.setIfInBounds_toArray, List.set_cons_zero, List.set_cons_succ]
        refine wpAny_ready (rs := [10]) (by kernel_rfl) (by simp) ?_
        refine AllReady.cons rfl (fun K hK => ?_) AllReady.nil
        go_simp
        refine (HI.out _ vb HF2.out HV.out.1 HV.out.2).mono ?_
        rintro e w9 ⟨v', rfl, hrow, hf9, hg9⟩
        obtain ⟨q9, c9, rfl⟩ := ownsRow_shape hrow.1
        have HX := Lib.hid (HE.out w2 w9 _ HF2.out hrow hf9 hg9)
        clear hrow hf9 hg9
        dsimp only
        refine hK _ _ ?_
        clear hK K
        try simp only [Act.put, List.setIfInBounds_toArray, List.set_cons_zero, List.set_cons_succ]
        refine wpAny_ready (rs := [11]) (by kernel_rfl) (by simp) ?_
        refine AllReady.cons rfl (fun K hK => ?_) AllReady.nil
        go_simp
        refine hK _ _ ?_
        clear hK K
        try simp only [Act.put, List.setIfInBounds_toArray, List.set_cons_zero, List.set_cons_succ]
        refine wpAny_ready (rs := [12]) (by kernel_rfl) (by simp) ?_
        refine AllReady.cons rfl (fun K hK => ?_) AllReady.nil
        go_simp
        refine hK _ _ ?_
        clear hK K
        try simp only [Act.put, List.setIfInBounds_toArray, List.set_cons_zero, List.set_cons_succ]
        have kb := HX.out.1.cell 0 rfl
        have kf := HX.out.1.free 0
        refine wpAny_ready (rs := [13]) (by kernel_rfl) (by simp) ?_
        refine AllReady.cons rfl (fun K hK => ?_) AllReady.nil
        go_simp
        refine hK _ _ ?_
        clear hK K
        try simp only [Act.put]
        refine wpAny_done (by kernel_rfl) ?_ _
        go_wp2
        go_end0
        exact HX.out.2
  · go_simp
    have HF1 : Hid (Fr (fun _ => False) w (w0.alloc (.cells #[.float .f64 f] 26))) := HF0.out.alloc _
    have HV : Hid (Blk (w0.alloc (.cells #[.float .f64 f] 26)) w0.heap.size [.float .f64 f] 26 ∧ w.heap.size ≤ w0.heap.size) := ⟨Blk.new w0 [.float .f64 f] 26, HF0.out.size⟩
    refine hK _ _ ?_
    clear hK K HF0
    generalize w0.alloc (.cells #[.float .f64 f] 26) = w1 at *
    generalize w0.heap.size = vb at *
    try simp only [Act.put, List.setIfInBounds_toArray, List.set_cons_zero, List.set_cons_succ]
    refine wpAny_ready (rs := [4, 7]) (by kernel_rfl) (by simp) ?_
    refine AllReady.cons rfl (fun K hK => ?_) (AllReady.cons rfl (fun K hK => ?_) AllReady.nil)
    · have kc := HC.out _ HF1.out
      go_simp
      refine hK _ _ ?_
      clear hK K kc
      try simp only [Act.put, List.setIfInBounds_toArray, List.set_cons_zero, List.set_cons_succ]
      refine wpAny_ready (rs := [7]) (by kernel_rfl) (by simp) ?_
      refine AllReady.cons rfl (fun K hK => ?_) AllReady.nil
      · go_simp
        refine (HU.out _ HF1.out).mono ?_
        rintro e w2 ⟨rfl, hf'⟩
        have HF2 := Lib.hid (HF1.out.trans hf' (fun _ h => h.elim))
        have HV' := Lib.hid (And.intro (HV.out.1.frame hf' (fun h => h)) HV.out.2)
        clear HV
        have HV := HV'
        clear HV'
        clear hf'
        dsimp only
        refine hK _ _ ?_
        clear hK K HF1
        try simp only [Act.put, List.setIfInBounds_toArray, List.set_cons_zero, List.set_cons_succ]
        refine wpAny_ready (rs := [10]) (by kernel_rfl) (by simp) ?_
        refine AllReady.cons rfl (fun K hK => ?_) AllReady.nil
        go_simp
        refine (HI.out _ vb HF2.out HV.out.1 HV.out.2).mono ?_
        rintro e w9 ⟨v', rfl, hrow, hf9, hg9⟩
        obtain ⟨q9, c9, rfl⟩ := ownsRow_shape hrow.1
        have HX := Lib.hid (HE.out w2 w9 _ HF2.out hrow hf9 hg9)
        clear hrow hf9 hg9
        dsimp only
        refine hK _ _ ?_
        clear hK K
        try simp only [Act.put, List.setIfInBounds_toArray, List.set_cons_zero, List.set_cons_succ]
        refine wpAny_ready (rs := [11]) (by kernel_rfl) (by simp) ?_
        refine AllReady.cons rfl (fun K hK => ?_) AllReady.nil
        go_simp
        refine hK _ _ ?_
        clear hK K
        try simp only [Act.put, List.setIfInBounds_toArray, List.set_cons_zero, List.set_cons_succ]
        refine wpAny_ready (rs := [12]) (by kernel_rfl) (by simp) ?_
        refine AllReady.cons rfl (fun K hK => ?_) AllReady.nil
        go_simp
        refine hK _ _ ?_
        clear hK K
        try simp only [Act.put, List.setIfInBounds_toArray, List.set_cons_zero, List.set_cons_succ]
        have kb := HX.out.1.cell 0 rfl
        have kf := HX.out.1.free 0
        refine wpAny_ready (rs := [13]) (by kernel_rfl) (by simp) ?_
        refine AllReady.cons rfl (fun K hK => ?_) AllReady.nil
        go_simp
        refine hK _ _ ?_
        clear hK K
        try simp only [Act.put]
        refine wpAny_done (by kernel_rfl) ?_ _
        go_wp2
        go_end0
        exact HX.out.2
    · go_simp
      refine (HU.out _ HF1.out).mono ?_
      rintro e w2 ⟨rfl, hf'⟩
      have HF2 := Lib.hid (HF1.out.trans hf' (fun _ h => h.elim))
      have HV' := Lib.hid (And.intro (HV.out.1.frame hf' (fun h => h)) HV.out.2)
      clear HV
      have HV := HV'
      clear HV'
      clear hf'
      dsimp only
      refine hK _ _ ?_
      clear hK K HF1
      try simp only [Act.put, List.setIfInBounds_toArray, List.set_cons_zero, List.set_cons_succ]
      refine wpAny_ready (rs := [4]) (by kernel_rfl) (by simp) ?_
      refine AllReady.cons rfl (fun K hK => ?_) AllReady.nil
      · have kc := HC.out _ HF2.out
        go_simp
        refine hK _ _ ?_
        clear hK K kc
        try simp only [Act.put, List.setIfInBounds_toArray, List.set_cons_zero, List.set_cons_succ]
        refine wpAny_ready (rs := [10]) (by kernel_rfl) (by simp) ?_
        refine AllReady.cons rfl (fun K hK => ?_) AllReady.nil
        go_simp
        refine (HI.out _ vb HF2.out HV.out.1 HV.out.2).mono ?_
        rintro e w9 ⟨v', rfl, hrow, hf9, hg9⟩
        obtain ⟨q9, c9, rfl⟩ := ownsRow_shape hrow.1
        have HX := Lib.hid (HE.out w2 w9 _ HF2.out hrow hf9 hg9)
        clear hrow hf9 hg9
        dsimp only
        refine hK _ _ ?_
        clear hK K
        try simp only [Act.put, List.setIfInBounds_toArray, List.set_cons_zero, List.set_cons_succ]
        refine wpAny_ready (rs := [11]) (by kernel_rfl) (by simp) ?_
        refine AllReady.cons rfl (fun K hK => ?_) AllReady.nil
        go_simp
        refine hK _ _ ?_
        clear hK K
        try simp only [Act.put, List.setIfInBounds_toArray, List.set_cons_zero, List.set_cons_succ]
        refine wpAny_ready (rs := [12]) (by kernel_rfl) (by simp) ?_
        refine AllReady.cons rfl (fun K hK => ?_) AllReady.nil
        go_simp
        refine hK _ _ ?_
        clear hK K
        try simp only [Act.put, List.setIfInBounds_toArray, List.set_cons_zero, List.set_cons_succ]
        have kb := HX.out.1.cell 0 rfl
        have kf := HX.out.1.free 0
        refine wpAny_ready (rs := [13]) (by kernel_rfl) (by simp) ?_
        refine AllReady.cons rfl (fun K hK => ?_) AllReady.nil
        go_simp
        refine hK _ _ ?_
        clear hK K
        try simp only [Act.put]
        refine wpAny_done (by kernel_rfl) ?_ _
        go_wp2
        go_end0
        exact HX.out.2
end Go.Proofs.Ytmllbdiljjimmaa

