/- The walks of package stats: what stands ahead of a float in a row. -/
import Derived.Test.YtmllbdiljjimmaaStatsRef
import Derived.Test.YtmllbdiljjimmaaInsert
import Derived.Test.YtmllbdiljjimmaaMerges
namespace Go.Proofs.Ytmllbdiljjimmaa
open Go.RowKit

/-- A row of floats, in block b. -/
def RowB (W w : World) (b : Nat) (v : Value) (fs : List Nat) : Prop :=
  Blk w b [v] 115 ∧ FRow W v fs w ∧ v.ownBlock ≠ some b ∧ W.heap.size ≤ b
theorem RowB.frame {S : Nat → Prop} {W w w' : World} {b : Nat} {v : Value} {fs : List Nat} (h : RowB W w b v fs) (hf : Fr S w w') (hb : ¬ S b) (hv : ∀ i, v.ownBlock = some i → ¬ S i) (hs : ∀ i, S i → W.heap.size ≤ i) : RowB W w' b v fs :=
  ⟨h.1.frame hf hb, h.2.1.frame hf hv hs, h.2.2⟩
theorem RowB.keep {W w w' : World} {b : Nat} {v : Value} {fs : List Nat} (h : RowB W w b v fs) (hf : Fr (fun _ => False) w w') : RowB W w' b v fs :=
  h.frame hf (fun h => h) (fun _ _ h => h) (fun _ h => h.elim)
theorem RowB.row {W w : World} {b : Nat} {v : Value} {fs : List Nat} (h : RowB W w b v fs) : ∃ q qc, v = .slice q fs.length qc := ownsRow_shape h.2.1.1
/-- One of its floats. -/
theorem RowB.at {W w : World} {b : Nat} {v : Value} {fs : List Nat} (h : RowB W w b v fs) {k : Nat} (hk : k < fs.length) : ∃ g qc, v = .slice (some ⟨g, 0, none⟩) fs.length qc ∧ w.cell? ⟨g, k, none⟩ = some (.float .f64 fs[k]) ∧ fs[k] < 18446744073709551616 := by
  obtain ⟨p, cap, rfl, hfl, hw⟩ := flts_of_row h.2.1
  obtain ⟨pb, off, f, hp, hx, hl, hc⟩ := hfl.2 k hk
  rw [List.getElem?_eq_getElem hk] at hx
  obtain rfl := Option.some.inj hx
  rcases hw with hw | ⟨g, hw, _⟩
  · rw [hw] at hp; cases hp
  · rw [hw] at hp
    cases hp
    exact ⟨pb, cap, by rw [hw], by rw [Nat.zero_add] at hc; exact hc, hl⟩

/-- In order. -/
def SortF (fs : List Nat) : Prop := fs.Pairwise fun a b => keyN a ≤ keyN b
theorem sort_at {fs : List Nat} (h : SortF fs) {i j : Nat} (hj : j < fs.length) (hij : i ≤ j) : keyN (fs[i]'(by omega)) ≤ keyN fs[j] := by
  rcases Nat.eq_or_lt_of_le hij with rfl | hlt
  · exact Nat.le_refl _
  · exact List.pairwise_iff_getElem.1 h i j (by omega) hj hlt
theorem cnt_split {q : Nat → Bool} {fs : List Nat} {k : Nat} (hk : k ≤ fs.length) (h1 : ∀ i (h : i < fs.length), i < k → q fs[i] = true) (h2 : ∀ i (h : i < fs.length), k ≤ i → q fs[i] = false) : cnt q fs = k := by
  have e : fs.filter q = fs.take k := by
    rw [← List.take_append_drop k fs, List.filter_append]
    have e1 : (fs.take k).filter q = fs.take k := List.filter_eq_self.2 (fun x hx => by
      obtain ⟨i, hi, rfl⟩ := List.getElem_of_mem hx
      rw [List.getElem_take]
      rw [List.length_take] at hi
      exact h1 i (by omega) (by omega))
    have e2 : (fs.drop k).filter q = [] := List.filter_eq_nil_iff.2 (fun x hx => by
      obtain ⟨i, hi, rfl⟩ := List.getElem_of_mem hx
      rw [List.getElem_drop]
      rw [List.length_drop] at hi
      rw [h2 (k + i) (by omega) (by omega)]
      exact Bool.false_ne_true)
    rw [e1, e2, List.take_append_drop k fs, List.append_nil]
  unfold cnt
  rw [e, List.length_take]; omega
def rankA (fs : List Nat) (f : Nat) : Nat := cnt (fun x => aheadF x f) fs
def rankU (fs : List Nat) (f : Nat) : Nat := cnt (fun x => !aheadF f x) fs

set_option maxRecDepth 100000 in
set_option maxHeartbeats 1600000 in
theorem upcl_any {W w : World} {b : Nat} {v : Value} {fs : List Nat} (h : RowB W w b v fs) (fb rb f : Nat) (hf : f < 18446744073709551616) (hfb : Blk w fb [.float .f64 f] 26) (hrb : Blk w rb [.pointer (some ⟨b, 0, none⟩)] 67) (i : Nat) (hi : i < fs.length) (hl : fs.length ≤ 100000) :
    Calls Try.prog 99 #[.int .i64 (i : Int), .pointer (some ⟨fb, 0, none⟩), .pointer (some ⟨rb, 0, none⟩)] w (BPost w (aheadF f fs[i])) := by
  obtain ⟨g, qc, rfl, hc, hxl⟩ := h.at hi
  have hcap : fs.length ≤ qc := by
    rcases h.2.1.1.2 with ⟨h0, _⟩ | ⟨g', cap', cur, hv, _, _, hn, _⟩
    · cases h0
    · cases hv; exact hn
  have HB := Lib.hid (before_any f fs[i] hf hxl)
  generalize fs[i] = x at *
  have k1 : w.drew.cell? ⟨fb, 0, none⟩ = some (.float .f64 f) := hfb.drew.cell 0 rfl
  have k2 : w.drew.cell? ⟨rb, 0, none⟩ = some (.pointer (some ⟨b, 0, none⟩)) := hrb.drew.cell 0 rfl
  have k3 : w.drew.cell? ⟨b, 0, none⟩ = some (.slice (some ⟨g, 0, none⟩) fs.length qc) := h.1.drew.cell 0 rfl
  have k4 : w.drew.cell? ⟨g, i, none⟩ = some (.float .f64 x) := hc
  have hi1 : (i : Int) < fs.length := by omega
  have hi2 : (fs.length : Int) ≤ 100000 := by omega
  have HF := Lib.hid ((Fr.refl (fun _ => False) w).drew)
  generalize fs.length = n at *
  clear h hc hfb hrb hcap
  go_enter Try.func99, Try.ntmps99
  go_wp2
  refine region_class_all (fun w' => w' = w.drew) (by kernel_rfl) (by kernel_rfl) rfl ?_
  refine quiet_run (.float .f64 f) rfl (fun w hw => by subst hw; go_simp) ?_
  simp only [Act.put, List.setIfInBounds_toArray, List.set_cons_zero, List.set_cons_succ]
  refine quiet_run (.pointer (some ⟨b, 0, none⟩)) rfl (fun w hw => by subst hw; go_simp) ?_
  simp only [Act.put, List.setIfInBounds_toArray, List.set_cons_zero, List.set_cons_succ]
  refine quiet_run (.pointer (some ⟨b, 0, none⟩)) rfl (fun w hw => by go_simp) ?_
  simp only [Act.put, List.setIfInBounds_toArray, List.set_cons_zero, List.set_cons_succ]
  refine quiet_run (.pointer (some ⟨b, 0, none⟩)) rfl (fun w hw => by go_simp) ?_
  simp only [Act.put, List.setIfInBounds_toArray, List.set_cons_zero, List.set_cons_succ]
  refine quiet_run (.slice (some ⟨g, 0, none⟩) n qc) rfl (fun w hw => by subst hw; go_simp) ?_
  simp only [Act.put, List.setIfInBounds_toArray, List.set_cons_zero, List.set_cons_succ]
  refine quiet_run (.int .i64 (i : Int)) rfl (fun w hw => by go_simp) ?_
  simp only [Act.put, List.setIfInBounds_toArray, List.set_cons_zero, List.set_cons_succ]
  refine quiet_run (.pointer (some ⟨g, i, none⟩)) rfl (fun w hw => by go_simp) ?_
  simp only [Act.put, List.setIfInBounds_toArray, List.set_cons_zero, List.set_cons_succ]
  refine quiet_run (.float .f64 x) rfl (fun w hw => by subst hw; go_simp) ?_
  simp only [Act.put, List.setIfInBounds_toArray, List.set_cons_zero, List.set_cons_succ]
  refine quiet_call (.bool (aheadF f x)) 43 #[.float .f64 f, .float .f64 x] rfl (fun w => by go_simp) (fun w hw => (HB.out w).mono fun e w' h => ⟨h.1, h.2 ▸ hw⟩) ?_
  simp only [Act.put, List.setIfInBounds_toArray, List.set_cons_zero, List.set_cons_succ]
  refine quiet_run (.bool (aheadF f x)) rfl (fun w hw => by go_simp) ?_
  simp only [Act.put, List.setIfInBounds_toArray, List.set_cons_zero, List.set_cons_succ]
  refine wpQuiet_nil ?_
  rintro w2 rfl
  go_wp2
  go_ret
  exact ⟨rfl, HF.out⟩

set_option maxRecDepth 100000 in
set_option maxHeartbeats 1600000 in
theorem ahcl_any {W w : World} {b : Nat} {v : Value} {fs : List Nat} (h : RowB W w b v fs) (fb rb f : Nat) (hf : f < 18446744073709551616) (hfb : Blk w fb [.float .f64 f] 26) (hrb : Blk w rb [.pointer (some ⟨b, 0, none⟩)] 67) (i : Nat) (hi : i < fs.length) (hl : fs.length ≤ 100000) :
    Calls Try.prog 98 #[.int .i64 (i : Int), .pointer (some ⟨rb, 0, none⟩), .pointer (some ⟨fb, 0, none⟩)] w (BPost w (!aheadF fs[i] f)) := by
  obtain ⟨g, qc, rfl, hc, hxl⟩ := h.at hi
  have hcap : fs.length ≤ qc := by
    rcases h.2.1.1.2 with ⟨h0, _⟩ | ⟨g', cap', cur, hv, _, _, hn, _⟩
    · cases h0
    · cases hv; exact hn
  have HB := Lib.hid (before_any fs[i] f hxl hf)
  generalize fs[i] = x at *
  have k1 : w.drew.cell? ⟨fb, 0, none⟩ = some (.float .f64 f) := hfb.drew.cell 0 rfl
  have k2 : w.drew.cell? ⟨rb, 0, none⟩ = some (.pointer (some ⟨b, 0, none⟩)) := hrb.drew.cell 0 rfl
  have k3 : w.drew.cell? ⟨b, 0, none⟩ = some (.slice (some ⟨g, 0, none⟩) fs.length qc) := h.1.drew.cell 0 rfl
  have k4 : w.drew.cell? ⟨g, i, none⟩ = some (.float .f64 x) := hc
  have hi1 : (i : Int) < fs.length := by omega
  have hi2 : (fs.length : Int) ≤ 100000 := by omega
  have HF := Lib.hid ((Fr.refl (fun _ => False) w).drew)
  generalize fs.length = n at *
  clear h hc hfb hrb hcap
  go_enter Try.func98, Try.ntmps98
  go_wp2
  refine region_class_all (fun w' => w' = w.drew) (by kernel_rfl) (by kernel_rfl) rfl ?_
  refine quiet_run (.pointer (some ⟨b, 0, none⟩)) rfl (fun w hw => by subst hw; go_simp) ?_
  simp only [Act.put, List.setIfInBounds_toArray, List.set_cons_zero, List.set_cons_succ]
  refine quiet_run (.pointer (some ⟨b, 0, none⟩)) rfl (fun w hw => by go_simp) ?_
  simp only [Act.put, List.setIfInBounds_toArray, List.set_cons_zero, List.set_cons_succ]
  refine quiet_run (.pointer (some ⟨b, 0, none⟩)) rfl (fun w hw => by go_simp) ?_
  simp only [Act.put, List.setIfInBounds_toArray, List.set_cons_zero, List.set_cons_succ]
  refine quiet_run (.slice (some ⟨g, 0, none⟩) n qc) rfl (fun w hw => by subst hw; go_simp) ?_
  simp only [Act.put, List.setIfInBounds_toArray, List.set_cons_zero, List.set_cons_succ]
  refine quiet_run (.int .i64 (i : Int)) rfl (fun w hw => by go_simp) ?_
  simp only [Act.put, List.setIfInBounds_toArray, List.set_cons_zero, List.set_cons_succ]
  refine quiet_run (.pointer (some ⟨g, i, none⟩)) rfl (fun w hw => by go_simp) ?_
  simp only [Act.put, List.setIfInBounds_toArray, List.set_cons_zero, List.set_cons_succ]
  refine quiet_run (.float .f64 x) rfl (fun w hw => by subst hw; go_simp) ?_
  simp only [Act.put, List.setIfInBounds_toArray, List.set_cons_zero, List.set_cons_succ]
  refine quiet_run (.float .f64 f) rfl (fun w hw => by subst hw; go_simp) ?_
  simp only [Act.put, List.setIfInBounds_toArray, List.set_cons_zero, List.set_cons_succ]
  refine quiet_call (.bool (aheadF x f)) 43 #[.float .f64 x, .float .f64 f] rfl (fun w => by go_simp) (fun w hw => (HB.out w).mono fun e w' h => ⟨h.1, h.2 ▸ hw⟩) ?_
  simp only [Act.put, List.setIfInBounds_toArray, List.set_cons_zero, List.set_cons_succ]
  refine quiet_run (.bool (!aheadF x f)) rfl (fun w hw => by go_simp) ?_
  simp only [Act.put, List.setIfInBounds_toArray, List.set_cons_zero, List.set_cons_succ]
  refine quiet_run (.bool (!aheadF x f)) rfl (fun w hw => by go_simp) ?_
  simp only [Act.put, List.setIfInBounds_toArray, List.set_cons_zero, List.set_cons_succ]
  refine wpQuiet_nil ?_
  rintro w2 rfl
  go_wp2
  go_ret
  exact ⟨rfl, HF.out⟩

/-- What a search finds. -/
def SrPost (w : World) (n : Nat) (p : Nat → Bool) (e : Ending) (w' : World) : Prop := ∃ k : Nat, e = .returned (.int .i64 (k : Int)) ∧ k ≤ n ∧ (∀ a, a < k → p a = false) ∧ (∀ a, k ≤ a → a < n → p a = true) ∧ Fr (fun _ => False) w w'

set_option maxRecDepth 100000 in
set_option maxHeartbeats 1600000 in
theorem search_up (n : Nat) (hn : n ≤ 100000) (c1 c2 : Nat) (p : Nat → Bool) (hm : ∀ i j, i ≤ j → j < n → p i = true → p j = true) (w : World) (hcall : ∀ i, i < n → ∀ w', Fr (fun _ => False) w w' → Calls Try.prog 99 #[.int .i64 (i : Int), .pointer (some ⟨c1, 0, none⟩), .pointer (some ⟨c2, 0, none⟩)] w' (BPost w' (p i))) :
    Calls Try.prog 97 #[.int .i64 (n : Int), .func (.func 99) #[] #[.pointer (some ⟨c1, 0, none⟩), .pointer (some ⟨c2, 0, none⟩)]] w (SrPost w n p) := by
  have HM := Lib.hid hm
  have HC := Lib.hid hcall
  have hni : (n : Int) ≤ 100000 := by omega
  clear hm hcall
  go_enter Try.func97, Try.ntmps97
  go_wp2
  go_loopw [5, 6] (fun a b wr => ∃ i j : Nat, i ≤ j ∧ j ≤ n ∧ a = .int .i64 (i : Int) ∧ b = .int .i64 (j : Int) ∧ Hid (Fr (fun _ => False) w wr ∧ (∀ a, a < i → p a = false) ∧ ∀ a, j ≤ a → a < n → p a = true)) (fun a b _ => (intOf b - intOf a).toNat)
  case atStart => exact ⟨0, n, by omega, by omega, rfl, rfl, ⟨Fr.refl _ w, fun a h => absurd h (by omega), fun a h1 h2 => absurd h2 (by omega)⟩⟩
  case round =>
    obtain ⟨i, j, hij, hjn, rfl, rfl, hr⟩ := hrel
    by_cases hlt : i < j
    · obtain ⟨m, hm⟩ : ∃ m, m = (i + j) / 2 := ⟨_, rfl⟩
      have him : i ≤ m := by omega
      have hmj : m < j := by omega
      have hdv : ((i : Int) + (j : Int)) / 2 = (m : Int) := by omega
      have hii : (i : Int) ≤ 100000 := by omega
      have hji : (j : Int) ≤ 100000 := by omega
      have hc := HC.out m (by omega) _ hr.out.1
      clear hm
      cases hp : p m with
      | true =>
        rw [hp] at hc
        have HCM := Lib.hid hc
        have HNEW : Hid (∀ w', Fr (fun _ => False) wr w' → Fr (fun _ => False) w w' ∧ (∀ a, a < i → p a = false) ∧ ∀ a, m ≤ a → a < n → p a = true) := fun w' hf => ⟨hr.out.1.trans hf (fun _ h => h.elim), hr.out.2.1, fun a h1 h2 => HM.out m a h1 h2 hp⟩
        clear hc hr hp
        go_wp2_with fail
        refine (HCM.out).mono ?_
        rintro e w2 ⟨rfl, hf2⟩
        have HN2 := Lib.hid (HNEW.out w2 hf2)
        clear hf2 HNEW
        go_wp2
        go_roundw
        case rel => exact ⟨i, m, him, by omega, rfl, rfl, HN2⟩
        case measure => simp [intOf]; omega
      | false =>
        rw [hp] at hc
        have HCM := Lib.hid hc
        have HNEW : Hid (∀ w', Fr (fun _ => False) wr w' → Fr (fun _ => False) w w' ∧ (∀ a, a < m + 1 → p a = false) ∧ ∀ a, j ≤ a → a < n → p a = true) := fun w' hf => ⟨hr.out.1.trans hf (fun _ h => h.elim), (fun a h1 => by
          cases ha : p a with
          | false => rfl
          | true => (rw [HM.out a m (by omega) (by omega) ha] at hp; cases hp)), hr.out.2.2⟩
        clear hc hr hp
        go_wp2_with fail
        refine (HCM.out).mono ?_
        rintro e w2 ⟨rfl, hf2⟩
        have HN2 := Lib.hid (HNEW.out w2 hf2)
        clear hf2 HNEW
        go_wp2
        go_roundw
        case rel => exact ⟨m + 1, j, by omega, hjn, by go_num, rfl, HN2⟩
        case measure => simp [intOf]; omega
    · obtain rfl : i = j := by omega
      have HEND : Hid (SrPost w n p (.returned (.int .i64 (i : Int))) wr) := ⟨i, rfl, hjn, hr.out.2.1, hr.out.2.2, hr.out.1⟩
      clear hr
      go_wp2
      go_ret
      exact HEND.out

set_option maxRecDepth 100000 in
set_option maxHeartbeats 1600000 in
theorem search_ah (n : Nat) (hn : n ≤ 100000) (c1 c2 : Nat) (p : Nat → Bool) (hm : ∀ i j, i ≤ j → j < n → p i = true → p j = true) (w : World) (hcall : ∀ i, i < n → ∀ w', Fr (fun _ => False) w w' → Calls Try.prog 98 #[.int .i64 (i : Int), .pointer (some ⟨c1, 0, none⟩), .pointer (some ⟨c2, 0, none⟩)] w' (BPost w' (p i))) :
    Calls Try.prog 97 #[.int .i64 (n : Int), .func (.func 98) #[] #[.pointer (some ⟨c1, 0, none⟩), .pointer (some ⟨c2, 0, none⟩)]] w (SrPost w n p) := by
  have HM := Lib.hid hm
  have HC := Lib.hid hcall
  have hni : (n : Int) ≤ 100000 := by omega
  clear hm hcall
  go_enter Try.func97, Try.ntmps97
  go_wp2
  go_loopw [5, 6] (fun a b wr => ∃ i j : Nat, i ≤ j ∧ j ≤ n ∧ a = .int .i64 (i : Int) ∧ b = .int .i64 (j : Int) ∧ Hid (Fr (fun _ => False) w wr ∧ (∀ a, a < i → p a = false) ∧ ∀ a, j ≤ a → a < n → p a = true)) (fun a b _ => (intOf b - intOf a).toNat)
  case atStart => exact ⟨0, n, by omega, by omega, rfl, rfl, ⟨Fr.refl _ w, fun a h => absurd h (by omega), fun a h1 h2 => absurd h2 (by omega)⟩⟩
  case round =>
    obtain ⟨i, j, hij, hjn, rfl, rfl, hr⟩ := hrel
    by_cases hlt : i < j
    · obtain ⟨m, hm⟩ : ∃ m, m = (i + j) / 2 := ⟨_, rfl⟩
      have him : i ≤ m := by omega
      have hmj : m < j := by omega
      have hdv : ((i : Int) + (j : Int)) / 2 = (m : Int) := by omega
      have hii : (i : Int) ≤ 100000 := by omega
      have hji : (j : Int) ≤ 100000 := by omega
      have hc := HC.out m (by omega) _ hr.out.1
      clear hm
      cases hp : p m with
      | true =>
        rw [hp] at hc
        have HCM := Lib.hid hc
        have HNEW : Hid (∀ w', Fr (fun _ => False) wr w' → Fr (fun _ => False) w w' ∧ (∀ a, a < i → p a = false) ∧ ∀ a, m ≤ a → a < n → p a = true) := fun w' hf => ⟨hr.out.1.trans hf (fun _ h => h.elim), hr.out.2.1, fun a h1 h2 => HM.out m a h1 h2 hp⟩
        clear hc hr hp
        go_wp2_with fail
        refine (HCM.out).mono ?_
        rintro e w2 ⟨rfl, hf2⟩
        have HN2 := Lib.hid (HNEW.out w2 hf2)
        clear hf2 HNEW
        go_wp2
        go_roundw
        case rel => exact ⟨i, m, him, by omega, rfl, rfl, HN2⟩
        case measure => simp [intOf]; omega
      | false =>
        rw [hp] at hc
        have HCM := Lib.hid hc
        have HNEW : Hid (∀ w', Fr (fun _ => False) wr w' → Fr (fun _ => False) w w' ∧ (∀ a, a < m + 1 → p a = false) ∧ ∀ a, j ≤ a → a < n → p a = true) := fun w' hf => ⟨hr.out.1.trans hf (fun _ h => h.elim), (fun a h1 => by
          cases ha : p a with
          | false => rfl
          | true => (rw [HM.out a m (by omega) (by omega) ha] at hp; cases hp)), hr.out.2.2⟩
        clear hc hr hp
        go_wp2_with fail
        refine (HCM.out).mono ?_
        rintro e w2 ⟨rfl, hf2⟩
        have HN2 := Lib.hid (HNEW.out w2 hf2)
        clear hf2 HNEW
        go_wp2
        go_roundw
        case rel => exact ⟨m + 1, j, by omega, hjn, by go_num, rfl, HN2⟩
        case measure => simp [intOf]; omega
    · obtain rfl : i = j := by omega
      have HEND : Hid (SrPost w n p (.returned (.int .i64 (i : Int))) wr) := ⟨i, rfl, hjn, hr.out.2.1, hr.out.2.2, hr.out.1⟩
      clear hr
      go_wp2
      go_ret
      exact HEND.out
end Go.Proofs.Ytmllbdiljjimmaa

