/- The walk of the law PacerPlays. -/
import Derived.Test.YtmllbdiljjimmaaPlays
import Derived.Test.YtmllbdiljjimmaaFlat
import Derived.Test.YtmllbdiljjimmaaRegion5
import Derived.Test.YtmllbdiljjimmaaMerges
namespace Go.Proofs.Ytmllbdiljjimmaa
open Go.RowKit

/-- Words as cells. -/
def wvals (hs : List Nat) : List Value := hs.map fun h : Nat => Value.int .u64 (h : Int)
/-- An own row of words. -/
def URow (w0 : World) (v : Value) (hs : List Nat) (w : World) : Prop :=
  w.ownsRow 0 35 1 v hs.length (wvals hs) ∧ (∀ i, v.ownBlock = some i → w0.heap.size ≤ i) ∧ (∀ h ∈ hs, h < 18446744073709551616) ∧ Fr (fun _ => False) w0 w
theorem URow.frame {S : Nat → Prop} {w0 w w' : World} {v : Value} {hs : List Nat} (h : URow w0 v hs w) (hf : Fr S w w') (hv : ∀ i, v.ownBlock = some i → ¬ S i) (hS : ∀ i, S i → w0.heap.size ≤ i) : URow w0 v hs w' :=
  ⟨ownsRow_frame h.1 hf hv, h.2.1, h.2.2.1, h.2.2.2.trans hf (fun i hi => .inr (hS i hi))⟩
theorem URow.lt {W w : World} {v : Value} {fs : List Nat} (h : URow W v fs w) : ∀ i, v.ownBlock = some i → i < w.heap.size := by
  intro i hi
  rcases h.1.2 with ⟨rfl, _⟩ | ⟨g, cap, cur, rfl, _, hg, _⟩
  · simp [Value.ownBlock] at hi
  · simp only [Value.ownBlock, Option.some.injEq] at hi
    subst hi
    exact (Array.getElem?_eq_some_iff.1 hg).1
theorem URow.shape {W w : World} {v : Value} {hs : List Nat} (h : URow W v hs w) : (hs = [] ∧ v = .slice none 0 0) ∨ ∃ g cap, v = .slice (some ⟨g, 0, none⟩) hs.length cap ∧ hs.length ≤ cap ∧ cap ≤ maxLen ∧ ∀ d, d ≤ hs.length → Words w (some ⟨g, d, none⟩) (hs.length - d) (hs.drop d) := by
  obtain ⟨ho, hb, hl, _⟩ := h
  have hc := ho
  rcases ho.2 with ⟨rfl, h0⟩ | ⟨g, cap, cur, rfl, _, hg, hn, hm, _⟩
  · exact .inl ⟨List.eq_nil_of_length_eq_zero h0, rfl⟩
  · refine .inr ⟨g, cap, rfl, hn, hm, fun d hd => ⟨⟨by simp, fun i hi => ?_⟩, fun f hf => hl f (List.mem_of_mem_drop hf)⟩⟩
    have hlt : d + i < hs.length := by omega
    refine ⟨g, d, Int.ofNat (hs[d + i]), rfl, ?_, ?_⟩
    · rw [List.getElem?_map, List.getElem?_drop, List.getElem?_eq_getElem hlt]; rfl
    · have := hc.cells (g := g) rfl (d + i) (Value.int .u64 (hs[d + i] : Int)) (by unfold wvals; rw [List.getElem?_map, List.getElem?_eq_getElem hlt]; rfl)
      rwa [show (⟨g, 0, none⟩ : Addr).add (d + i) = ⟨g, d + i, none⟩ by unfold Addr.add; split <;> simp_all] at this

theorem note_last (hs : List Nat) (r : Nat) : noteL (hs.drop (hs.length - 8)) r = (hs ++ [r]).drop ((hs ++ [r]).length - 8) := by
  unfold noteL
  rw [List.length_drop, List.length_append, List.length_singleton]
  by_cases h : 8 ≤ hs.length
  · rw [if_pos (by omega), List.drop_drop, List.drop_append_of_le_length (by omega)]
    congr 2
    omega
  · rw [if_neg (by omega), show hs.length - 8 = 0 by omega, show hs.length + 1 - 8 = 0 by omega]
    rfl

/-- Between two rounds. -/
def PlaysRel (W : World) (g l m a : Nat) (hs : List Nat) (v u : Value) (w : World) : Prop :=
  PacB W w a g l m v (hs.drop (hs.length - 8)) ∧ URow W u hs w ∧ u.ownBlock ≠ some a ∧ (∀ k, v.ownBlock = some k → u.ownBlock ≠ some k)
theorem PlaysRel.frame {W w w' : World} {g l m a : Nat} {hs : List Nat} {v u : Value} (h : PlaysRel W g l m a hs v u w) (hf : Fr (fun _ => False) w w') : PlaysRel W g l m a hs v u w' :=
  ⟨h.1.frame hf (fun h => h) (fun _ _ h => h) (fun _ h => h.elim), h.2.1.frame hf (fun _ _ h => h) (fun _ h => h.elim), h.2.2⟩
theorem PlaysRel.fr {W w : World} {g l m a : Nat} {hs : List Nat} {v u : Value} (h : PlaysRel W g l m a hs v u w) : Fr (fun _ => False) W w := h.1.2.1.2.2.2
/-- Behind a note: the pacer has one more, the row has not yet. -/
def MidRel (W : World) (g l m a : Nat) (hs : List Nat) (r : Nat) (v u : Value) (w : World) : Prop :=
  PacB W w a g l m v ((hs ++ [r]).drop ((hs ++ [r]).length - 8)) ∧ URow W u hs w ∧ u.ownBlock ≠ some a ∧ (∀ k, v.ownBlock = some k → u.ownBlock ≠ some k)
theorem PlaysRel.note {W w w' : World} {g l m a : Nat} {hs : List Nat} {v u : Value} {r : Nat} {e : Ending} (h : PlaysRel W g l m a hs v u w) (hn : NotePost W w a g l m v (noteL (hs.drop (hs.length - 8)) r) e w') :
    e = .returned (.int .i64 0) ∧ ∃ v', MidRel W g l m a hs r v' u w' := by
  obtain ⟨he, v', hp, hf, hv⟩ := hn
  obtain ⟨h1, h2, h3, h4⟩ := h
  rw [note_last] at hp
  refine ⟨he, v', hp, h2.frame hf ?_ ?_, h3, ?_⟩
  · rintro i hi (e | e)
    · exact h3 (by rw [hi, e])
    · exact h4 i e hi
  · rintro i (e | e)
    · rw [e]; exact h1.2.2.2
    · exact h1.2.1.2.1 i e
  · intro k hk hu
    rcases hv k hk with j | j
    · exact h4 k j hu
    · have := h2.lt k hu; omega
theorem MidRel.frame {W w w' : World} {g l m a r : Nat} {hs : List Nat} {v u : Value} (h : MidRel W g l m a hs r v u w) (hf : Fr (fun _ => False) w w') : MidRel W g l m a hs r v u w' :=
  ⟨h.1.frame hf (fun h => h) (fun _ _ h => h) (fun _ h => h.elim), h.2.1.frame hf (fun _ _ h => h) (fun _ h => h.elim), h.2.2⟩
theorem MidRel.fr {W w : World} {g l m a r : Nat} {hs : List Nat} {v u : Value} (h : MidRel W g l m a hs r v u w) : Fr (fun _ => False) W w := h.1.2.1.2.2.2
theorem MidRel.push {W w w' : World} {g l m a r n c g1 : Nat} {hs : List Nat} {v u : Value} (h : MidRel W g l m a hs r v u w) (hr : r < 18446744073709551616) (hn : n = hs.length) (ho : w'.ownsRow 0 35 1 (.slice (some ⟨g1, 0, none⟩) (n + 1) c) (n + 1) (wvals hs ++ [.int .u64 (r : Int)])) (hf : Fr (fun k => u.ownBlock = some k) w w') (hg : u.ownBlock = some g1 ∨ w.heap.size ≤ g1) :
    PlaysRel W g l m a (hs ++ [r]) v (.slice (some ⟨g1, 0, none⟩) (n + 1) c) w' := by
  obtain ⟨h1, h2, h3, h4⟩ := h
  subst hn
  refine ⟨h1.frame hf h3 h4 (fun i hi => h2.2.1 i hi), ⟨?_, ?_, ?_, h2.2.2.2.trans hf (fun i hi => .inr (h2.2.1 i hi))⟩, ?_, ?_⟩
  · rw [List.length_append, List.length_singleton, show wvals (hs ++ [r]) = wvals hs ++ [.int .u64 (r : Int)] by unfold wvals; simp]
    exact ho
  · intro i hi
    simp only [Value.ownBlock, Option.some.injEq] at hi
    subst hi
    rcases hg with j | j
    · exact h2.2.1 _ j
    · exact Nat.le_trans h2.2.2.2.size j
  · intro x hx
    rcases List.mem_append.1 hx with j | j
    · exact h2.2.2.1 x j
    · rw [List.mem_singleton] at j; rw [j]; exact hr
  · intro e
    simp only [Value.ownBlock, Option.some.injEq] at e
    subst e
    rcases hg with j | j
    · exact h3 j
    · have := h1.1.lt; omega
  · intro k hk e
    simp only [Value.ownBlock, Option.some.injEq] at e
    subst e
    rcases hg with j | j
    · exact h4 _ hk j
    · have := h1.2.1.lt _ hk; omega

theorem two_cells {cs : List Value} (h : AllOk [.int .i64, .int .i64] cs) : ∃ x y, cs = [.int .i64 x, .int .i64 y] := by
  have hl := h.length
  obtain ⟨a, ha, x, hx, _⟩ := h.get 0 _ rfl
  obtain ⟨b, hb, y, hy, _⟩ := h.get 1 _ rfl
  refine ⟨x, y, ?_⟩
  apply List.ext_getElem? 
  intro i
  match i with
  | 0 => rw [ha, hx]; rfl
  | 1 => rw [hb, hy]; rfl
  | i + 2 => rw [List.getElem?_eq_none (by simp at hl; omega)]; rfl
theorem info_word2 : (Try.prog.info? 35).map (fun i => (i.zero, i.size, i.bytes)) = some (some (.int .u64 0), 1, 8) := by kernel_rfl
theorem news_one {w : World} {a : Addr} {u : Value} (h : w.cell? a = some u) : ∀ j x, [u][j]? = some x → w.cell? (a.add j) = some x := by
  intro j x hj
  match j, hj with
  | 0, hj => simp at hj; subst hj; rwa [show a.add 0 = a by cases a; simp [Addr.add]]
/-- A pair of numbers in a row of pairs. -/
theorem pair_at {w : World} {p : Option Addr} {len k : Nat} (h : RowsOf [.int .i64, .int .i64] w p len) (hk : k < len) : ∃ b off x y, p = some ⟨b, off, none⟩ ∧ ∀ w', Fr (fun _ => False) w w' → w'.cell? ⟨b, off + k * 2, none⟩ = some (.int .i64 x) ∧ w'.cell? ⟨b, off + k * 2 + 1, none⟩ = some (.int .i64 y) := by
  obtain ⟨b, off, cs, hp, hok, hc⟩ := h k hk
  · obtain ⟨x, y, rfl⟩ := two_cells hok
    refine ⟨b, off, x, y, hp, fun w' hf => ⟨?_, ?_⟩⟩
    · have h0 : w.cell? ⟨b, off + k * 2, none⟩ = some (.int .i64 x) := by simpa using hc 0 (.int .i64 x) rfl
      exact (World.cell?_of_block (w := w) (hf.block b (cell_lt h0) (fun h => h))).trans h0
    · have h0 : w.cell? ⟨b, off + k * 2 + 1, none⟩ = some (.int .i64 y) := by simpa using hc 1 (.int .i64 y) rfl
      exact (World.cell?_of_block (w := w) (hf.block b (cell_lt h0) (fun h => h))).trans h0

set_option maxRecDepth 100000 in
set_option maxHeartbeats 6400000 in
theorem PacerPlays_any (g l m : Nat) (hg : g < 18446744073709551616) (hl : l < 18446744073709551616) (hm : m < 18446744073709551616) (p : Option Addr) (len cap : Nat) (q0 q1 : Int) (W : World) (hrow : RowsOf [.int .i64, .int .i64] W p len) :
    Calls Try.prog 9 #[.agg #[.int .u64 (g : Int), .int .u64 (l : Int), .int .u64 (m : Int)], .slice p len cap, .agg #[.int .i64 q0, .int .i64 q1]] W (LawPost W) := by
  have HLIVE := Lib.hid lives34_any
  by_cases h60 : 60 < len
  · have hi60 : (60 : Int) < len := by omega
    clear hrow h60
    go_enter Try.func9, Try.ntmps9
    have HF0 : Hid (Fr (fun _ => False) W ((W.alloc (.cells #[.int .u64 (g : Int), .int .u64 (l : Int), .int .u64 (m : Int)] 49)).alloc (.cells #[.int .i64 q0, .int .i64 q1] 51))) := ((Fr.refl _ W).alloc _).alloc _
    go_wp2_with fail
    refine (HLIVE.out _).mono ?_
    rintro e w1 ⟨rfl, hf⟩
    have HF := Lib.hid (HF0.out.then hf)
    clear hf HF0
    go_wp2
    go_ret
    exact ⟨rfl, HF.out⟩
  have hi60 : (len : Int) ≤ 60 := by omega
  have HOG := Lib.hid (of_any g)
  have HOL := Lib.hid (of_any l)
  have HOM := Lib.hid (of_any m)
  have HNEW := Lib.hid (new_any g l m hg hl hm)
  have HMAY := Lib.hid (may2_any g l m hg hl hm)
  have HBL := Lib.hid (And.intro hg (And.intro hl hm))
  have HROW := Lib.hid hrow
  clear hg hl hm hrow h60
  go_enter Try.func9, Try.ntmps9
  go_upto_region 3 with fail
  have hb0 : Blk ((W.alloc (.cells #[.int .u64 (g : Int), .int .u64 (l : Int), .int .u64 (m : Int)] 49)).alloc (.cells #[.int .i64 q0, .int .i64 q1] 51)) W.heap.size [.int .u64 (g : Int), .int .u64 (l : Int), .int .u64 (m : Int)] 49 :=
    (Blk.new W [.int .u64 (g : Int), .int .u64 (l : Int), .int .u64 (m : Int)] 49).alloc _
  have hb1 : Blk ((W.alloc (.cells #[.int .u64 (g : Int), .int .u64 (l : Int), .int .u64 (m : Int)] 49)).alloc (.cells #[.int .i64 q0, .int .i64 q1] 51)) (W.heap.size + 1) [.int .i64 q0, .int .i64 q1] 51 := by
    simpa using Blk.new (W.alloc (.cells #[.int .u64 (g : Int), .int .u64 (l : Int), .int .u64 (m : Int)] 49)) [.int .i64 q0, .int .i64 q1] 51
  have hfw : Fr (fun _ => False) W ((W.alloc (.cells #[.int .u64 (g : Int), .int .u64 (l : Int), .int .u64 (m : Int)] 49)).alloc (.cells #[.int .i64 q0, .int .i64 q1] 51)) := ((Fr.refl _ W).alloc _).alloc _
  generalize (W.alloc (.cells #[.int .u64 (g : Int), .int .u64 (l : Int), .int .u64 (m : Int)] 49)).alloc (.cells #[.int .i64 q0, .int .i64 q1] 51) = w0 at *
  have HF0 := Lib.hid hfw
  have HB0 := Lib.hid hb0
  have HB1 := Lib.hid hb1
  clear hb0 hb1 hfw
  generalize hB0 : W.heap.size = B0 at *
  have k0 := HB0.out.drew.cell 0 rfl
  have k1 := HB0.out.drew.cell 1 rfl
  have k2 := HB0.out.drew.cell 2 rfl
  refine region_classT (fun w' => w' = w0.drew) 9 (by kernel_rfl) (by kernel_rfl) rfl ?_
  simp only [List.take_succ_cons, List.take_zero]
  refine quiet_run (.pointer (some ⟨B0, 0, none⟩)) rfl (fun w hw => by go_simp) ?_
  refine quiet_run (.int .u64 (g : Int)) rfl (fun w hw => by subst hw; go_simp) ?_
  refine quiet_call (.float .f64 g) 26 #[.int .u64 (g : Int)] rfl (fun w => by go_simp) (fun w hw => (HOG.out w).mono fun e w' h => ⟨h.1, h.2 ▸ hw⟩) ?_
  refine quiet_run (.pointer (some ⟨B0, 1, none⟩)) rfl (fun w hw => by go_simp) ?_
  refine quiet_run (.int .u64 (l : Int)) rfl (fun w hw => by subst hw; go_simp) ?_
  refine quiet_call (.float .f64 l) 26 #[.int .u64 (l : Int)] rfl (fun w => by go_simp) (fun w hw => (HOL.out w).mono fun e w' h => ⟨h.1, h.2 ▸ hw⟩) ?_
  refine quiet_run (.pointer (some ⟨B0, 2, none⟩)) rfl (fun w hw => by go_simp) ?_
  refine quiet_run (.int .u64 (m : Int)) rfl (fun w hw => by subst hw; go_simp) ?_
  refine quiet_call (.float .f64 m) 26 #[.int .u64 (m : Int)] rfl (fun w => by go_simp) (fun w hw => (HOM.out w).mono fun e w' h => ⟨h.1, h.2 ▸ hw⟩) ?_
  refine wpQuiet_nil ?_
  rintro w1 rfl
  change wpAny _ _ _ _ 6 _ _ _
  simp only [Act.put, List.setIfInBounds_toArray, List.set_cons_zero, List.set_cons_succ]
  clear k0 k1 k2
  refine wpAny_ready (rs := [9]) (by kernel_rfl) (by simp) ?_
  refine AllReady.cons rfl (fun K hK => ?_) AllReady.nil
  go_simp
  have HW1 : Hid (Blk w0.drew B0 [.int .u64 (g : Int), .int .u64 (l : Int), .int .u64 (m : Int)] 49 ∧ Blk w0.drew (B0 + 1) [.int .i64 q0, .int .i64 q1] 51 ∧ Fr (fun _ => False) W w0.drew) := ⟨HB0.out.drew, HB1.out.drew, HF0.out.drew⟩
  clear HB0 HB1 HF0
  generalize w0.drew = w1 at *
  refine (HNEW.out _).mono ?_
  rintro e w2 ⟨hn1, hn2⟩
  cases hmay : mayF g l m with
  | false =>
    rw [hmay] at HMAY
    obtain ⟨rfl, rfl⟩ := hn2 hmay
    clear hn1 hn2 HNEW
    dsimp only
    refine hK _ _ ?_
    clear hK K
    try simp only [Act.put]
    refine wpAny_ready (rs := [10]) (by kernel_rfl) (by simp) ?_
    refine AllReady.cons rfl (fun K hK => ?_) AllReady.nil
    go_simp
    refine hK _ _ ?_
    clear hK K
    try simp only [Act.put]
    refine wpAny_take (i := 11) (v := .pointer none) rfl (by kernel_rfl) (by kernel_rfl) (by kernel_rfl) (fun _ _ _ h => h) (Or.inl ⟨by rfl, fun w => by go_simp⟩) ?_
    refine wpAny_take (i := 12) (v := .int .i64 5) rfl (by kernel_rfl) (by kernel_rfl) (by kernel_rfl) (fun _ _ _ h => h) (Or.inl ⟨by rfl, fun w => by go_simp⟩) ?_
    simp only [Act.put]
    refine wpAny_ready (rs := [13]) (by kernel_rfl) (by simp) ?_
    refine AllReady.cons rfl (fun K hK => ?_) AllReady.nil
    go_simp
    refine hK _ _ ?_
    clear hK K
    try simp only [Act.put]
    refine wpAny_ready (rs := [14]) (by kernel_rfl) (by simp) ?_
    refine AllReady.cons rfl (fun K hK => ?_) AllReady.nil
    go_simp
    refine hK _ _ ?_
    clear hK K
    try simp only [Act.put]
    refine wpAny_done (by kernel_rfl) ?_ _
    have k0 := HW1.out.1.cell 0 rfl
    have k1 := HW1.out.1.cell 1 rfl
    have k2 := HW1.out.1.cell 2 rfl
    go_wp2_with fail
    refine (HMAY.out _).mono ?_
    rintro e w3 ⟨rfl, rfl⟩
    go_wp2_with fail
    refine (HLIVE.out _).mono ?_
    rintro e w4 ⟨rfl, hf4⟩
    have HF4 := Lib.hid (HW1.out.2.2.then hf4)
    clear hf4
    go_wp2
    go_ret
    exact ⟨rfl, HF4.out⟩
  | true =>
    rw [hmay] at HMAY
    obtain ⟨rfl, hb2, hf2, hl2⟩ := hn1 hmay
    have HP2 := Lib.hid (PacB.of_new hb2 hf2)
    have HB2 := Lib.hid (And.intro (HW1.out.1.frame hf2 (fun h => h)) (HW1.out.2.1.frame hf2 (fun h => h)))
    have HRW : Hid (∀ w', Fr (fun _ => False) w1 w' → RowsOf [.int .i64, .int .i64] w' p len) := fun w' hf => HROW.out.frame (HW1.out.2.2.then hf)
    clear hn1 hn2 hb2 hl2 hf2 HNEW HROW
    generalize hbA : w1.heap.size = bA at *
    have HBA := Lib.hid hbA
    clear hbA
    dsimp only
    refine hK _ _ ?_
    clear hK K
    try simp only [Act.put]
    refine wpAny_ready (rs := [10]) (by kernel_rfl) (by simp) ?_
    refine AllReady.cons rfl (fun K hK => ?_) AllReady.nil
    go_simp
    refine hK _ _ ?_
    clear hK K
    try simp only [Act.put]
    refine wpAny_take (i := 11) (v := .pointer (some ⟨bA, 0, none⟩)) rfl (by kernel_rfl) (by kernel_rfl) (by kernel_rfl) (fun _ _ _ h => h) (Or.inl ⟨by rfl, fun w => by go_simp⟩) ?_
    refine wpAny_take (i := 12) (v := .int .i64 0) rfl (by kernel_rfl) (by kernel_rfl) (by kernel_rfl) (fun _ _ _ h => h) (Or.inl ⟨by rfl, fun w => by go_simp⟩) ?_
    simp only [Act.put]
    refine wpAny_ready (rs := [13]) (by kernel_rfl) (by simp) ?_
    refine AllReady.cons rfl (fun K hK => ?_) AllReady.nil
    go_simp
    refine hK _ _ ?_
    clear hK K
    try simp only [Act.put]
    refine wpAny_ready (rs := [14]) (by kernel_rfl) (by simp) ?_
    refine AllReady.cons rfl (fun K hK => ?_) AllReady.nil
    go_simp
    refine hK _ _ ?_
    clear hK K
    try simp only [Act.put]
    refine wpAny_done (by kernel_rfl) ?_ _
    have k0 := HB2.out.1.cell 0 rfl
    have k1 := HB2.out.1.cell 1 rfl
    have k2 := HB2.out.1.cell 2 rfl
    go_wp2_with fail
    refine (HMAY.out _).mono ?_
    rintro e w3 ⟨rfl, rfl⟩
    clear k0 k1 k2 HB2 HMAY
    have HREL : Hid (PlaysRel w1 g l m bA [] (.slice none 0 0) (.slice none 0 0) w2) := ⟨HP2.out, ⟨World.ownsRow_nil _ _ _ _, by simp [Value.ownBlock], by simp, HP2.out.2.1.2.2.2⟩, by simp [Value.ownBlock], by simp [Value.ownBlock]⟩
    clear HP2
    go_wp2_with fail
    go_loopw [10, 11] (fun u i wr => ∃ (n : Int) (hs : List Nat) (v : Value), (-1 ≤ n ∧ n ≤ len) ∧ i = .int .i64 n ∧ Hid (PlaysRel w1 g l m bA hs v u wr ∧ (hs.length : Int) ≤ n + 1)) (fun _ i _ => ((len : Int) + 1 - intOf i).toNat)
    case atStart => exact ⟨-1, [], _, by omega, rfl, ⟨HREL.out, by simp⟩⟩
    case round =>
      clear HREL
      obtain ⟨n, hs, v, ⟨hn1, hn2⟩, rfl, hr⟩ := hrel
      by_cases hlt : n < len
      · go_upto_if 68 with fail
        go_cut [10] (fun u' wx => ∃ (hs' : List Nat) (v' : Value), Hid (PlaysRel w1 g l m bA hs' v' u' wx ∧ (hs'.length : Int) ≤ n + 2))
        case first =>
          by_cases h0 : 0 ≤ n
          · obtain ⟨k, rfl⟩ : ∃ k : Nat, n = (k : Int) := ⟨n.toNat, by omega⟩
            obtain ⟨bL, oL, x, y, rfl, hxy⟩ := pair_at (HRW.out w1 (Fr.refl _ w1)) (show k < len by omega)
            have HXY := Lib.hid hxy
            clear hxy

            have hfd : Fr (fun _ => False) wr wr.drew := (Fr.refl _ wr).drew
            obtain ⟨kx, ky⟩ := HXY.out wr.drew hr.out.1.fr.drew
            have HR1 : Hid (PlaysRel w1 g l m bA hs v u10 wr.drew ∧ (hs.length : Int) ≤ (k : Int) + 1) := ⟨hr.out.1.frame hfd, hr.out.2⟩
            have HFIT := Lib.hid (fits2_any x y)
            have hk60 : (k : Int) < 60 := by omega
            clear hfd
            go_wp2
            obtain ⟨F, hF⟩ : ∃ F, fitsI x y = F := ⟨_, rfl⟩
            rw [hF] at HFIT
            have HFF := Lib.hid hF
            clear hF
            refine region_class_all (fun w' => w' = wr.drew) (by kernel_rfl) (by kernel_rfl) rfl ?_
            refine quiet_run (.slice (some ⟨bL, oL, none⟩) len cap) rfl (fun w hw => by go_simp) ?_
            refine quiet_run (.int .i64 (k : Int)) rfl (fun w hw => by go_simp) ?_
            refine quiet_run (.pointer (some ⟨bL, oL + k * 2, none⟩)) rfl (fun w hw => by go_simp) ?_
            refine quiet_run (.pointer (some ⟨bL, oL + k * 2, none⟩)) rfl (fun w hw => by go_simp) ?_
            refine quiet_run (.int .i64 x) rfl (fun w hw => by subst hw; go_simp) ?_
            refine quiet_run (.slice (some ⟨bL, oL, none⟩) len cap) rfl (fun w hw => by go_simp) ?_
            refine quiet_run (.int .i64 (k : Int)) rfl (fun w hw => by go_simp) ?_
            refine quiet_run (.pointer (some ⟨bL, oL + k * 2, none⟩)) rfl (fun w hw => by go_simp) ?_
            refine quiet_run (.pointer (some ⟨bL, oL + k * 2 + 1, none⟩)) rfl (fun w hw => by go_simp) ?_
            refine quiet_run (.int .i64 y) rfl (fun w hw => by subst hw; go_simp) ?_
            refine quiet_call (.bool F) 35 #[.int .i64 x, .int .i64 y] rfl (fun w => by go_simp) (fun w hw => (HFIT.out w).mono fun e w' h => ⟨h.1, h.2 ▸ hw⟩) ?_
            refine quiet_run (.bool F) rfl (fun w hw => by go_simp) ?_
            refine wpQuiet_nil ?_
            rintro w3 rfl
            simp only [Act.put, List.setIfInBounds_toArray, List.set_cons_zero, List.set_cons_succ]
            clear kx ky hr HFIT
            generalize wr.drew = w3 at *
            cases F with
            | false =>
              have hfd : Fr (fun _ => False) w3 w3.drew := (Fr.refl _ w3).drew
              obtain ⟨kx, ky⟩ := HXY.out w3.drew HR1.out.1.fr.drew
              have hp3 := HR1.out.1.frame hfd
              have HNO := Lib.hid (note_no hp3.1 x y HFF.out)
              have HR2 : Hid (PlaysRel w1 g l m bA hs v u10 w3.drew ∧ (hs.length : Int) ≤ (k : Int) + 2) := ⟨hp3, by have := HR1.out.2; omega⟩
              clear hp3 hfd HR1
              go_upto_region 15 with fail
              refine region_class_all (fun w' => w' = w3.drew) (by kernel_rfl) (by kernel_rfl) rfl ?_
              refine quiet_run (.pointer (some ⟨bA, 0, none⟩)) rfl (fun w hw => by go_simp) ?_
              refine quiet_run (.slice (some ⟨bL, oL, none⟩) len cap) rfl (fun w hw => by go_simp) ?_
              refine quiet_run (.int .i64 (k : Int)) rfl (fun w hw => by go_simp) ?_
              refine quiet_run (.pointer (some ⟨bL, oL + k * 2, none⟩)) rfl (fun w hw => by go_simp) ?_
              refine quiet_run (.pointer (some ⟨bL, oL + k * 2, none⟩)) rfl (fun w hw => by go_simp) ?_
              refine quiet_run (.int .i64 x) rfl (fun w hw => by subst hw; go_simp) ?_
              refine quiet_run (.slice (some ⟨bL, oL, none⟩) len cap) rfl (fun w hw => by go_simp) ?_
              refine quiet_run (.int .i64 (k : Int)) rfl (fun w hw => by go_simp) ?_
              refine quiet_run (.pointer (some ⟨bL, oL + k * 2, none⟩)) rfl (fun w hw => by go_simp) ?_
              refine quiet_run (.pointer (some ⟨bL, oL + k * 2 + 1, none⟩)) rfl (fun w hw => by go_simp) ?_
              refine quiet_run (.int .i64 y) rfl (fun w hw => by subst hw; go_simp) ?_
              refine quiet_call (.int .i64 5) 36 #[.pointer (some ⟨bA, 0, none⟩), .int .i64 x, .int .i64 y] rfl (fun w => by go_simp) (fun w hw => by subst hw; exact (HNO.out).mono fun e w' h => ⟨h.1, h.2.symm⟩) ?_
              refine quiet_run (.int .i64 5) rfl (fun w hw => by go_simp) ?_
              refine wpQuiet_nil ?_
              rintro w4 rfl
              simp only [Act.put, List.setIfInBounds_toArray, List.set_cons_zero, List.set_cons_succ]
              clear kx ky HNO
              generalize w3.drew = w4 at *
              go_wp2
              go_meet
              exact ⟨_, _, HR2⟩
            | true =>
              have hfd : Fr (fun _ => False) w3 w3.drew := (Fr.refl _ w3).drew
              obtain ⟨kx, ky⟩ := HXY.out w3.drew HR1.out.1.fr.drew
              have hp3 := HR1.out.1.frame hfd
              have HNO := Lib.hid (note_yes hp3.1 (by rw [List.length_drop]; omega) x y HFF.out)
              have HR2 : Hid (PlaysRel w1 g l m bA hs v u10 w3.drew ∧ (hs.length : Int) ≤ (k : Int) + 1) := ⟨hp3, by have := HR1.out.2; omega⟩
              clear hp3 hfd HR1
              go_upto_region 15 with fail
              refine region_classT (fun w' => w' = w3.drew) 11 (by kernel_rfl) (by kernel_rfl) rfl ?_
              simp only [List.take_succ_cons, List.take_zero]
              refine quiet_run (.pointer (some ⟨bA, 0, none⟩)) rfl (fun w hw => by go_simp) ?_
              refine quiet_run (.slice (some ⟨bL, oL, none⟩) len cap) rfl (fun w hw => by go_simp) ?_
              refine quiet_run (.int .i64 (k : Int)) rfl (fun w hw => by go_simp) ?_
              refine quiet_run (.pointer (some ⟨bL, oL + k * 2, none⟩)) rfl (fun w hw => by go_simp) ?_
              refine quiet_run (.pointer (some ⟨bL, oL + k * 2, none⟩)) rfl (fun w hw => by go_simp) ?_
              refine quiet_run (.int .i64 x) rfl (fun w hw => by subst hw; go_simp) ?_
              refine quiet_run (.slice (some ⟨bL, oL, none⟩) len cap) rfl (fun w hw => by go_simp) ?_
              refine quiet_run (.int .i64 (k : Int)) rfl (fun w hw => by go_simp) ?_
              refine quiet_run (.pointer (some ⟨bL, oL + k * 2, none⟩)) rfl (fun w hw => by go_simp) ?_
              refine quiet_run (.pointer (some ⟨bL, oL + k * 2 + 1, none⟩)) rfl (fun w hw => by go_simp) ?_
              refine quiet_run (.int .i64 y) rfl (fun w hw => by subst hw; go_simp) ?_
              refine wpQuiet_nil ?_
              rintro w4 rfl
              change wpAny _ _ _ _ 2 _ _ _
              simp only [Act.put, List.setIfInBounds_toArray, List.set_cons_zero, List.set_cons_succ]
              clear kx ky
              refine wpAny_ready (rs := [11]) (by kernel_rfl) (by simp) ?_
              refine AllReady.cons rfl (fun K hK => ?_) AllReady.nil
              go_simp
              generalize w3.drew = w4 at *
              refine (HNO.out).mono ?_
              rintro e w5 hn
              obtain ⟨rfl, v', hmid⟩ := HR2.out.1.note hn
              dsimp only
              refine hK _ _ ?_
              clear hK K
              try simp only [Act.put]
              refine wpAny_ready (rs := [12]) (by kernel_rfl) (by simp) ?_
              refine AllReady.cons rfl (fun K hK => ?_) AllReady.nil
              go_simp
              refine hK _ _ ?_
              clear hK K
              try simp only [Act.put]
              refine wpAny_done (by kernel_rfl) ?_ _
              have hR := (ratio_run x.toNat y.toNat (by have := HFF.out; unfold fitsI at this; rw [decide_eq_true_eq] at this; omega) (by have := HFF.out; unfold fitsI at this; rw [decide_eq_true_eq] at this; omega) (by have := HFF.out; unfold fitsI at this; rw [decide_eq_true_eq] at this; omega)).2
              have HRAT := Lib.hid (ratio2_any x y HFF.out)
              generalize ratioF x.toNat y.toNat = R at *
              have HMID := Lib.hid (And.intro hmid HR2.out.2)
              have HRR := Lib.hid hR
              clear hmid hn HNO HR2 hR
              go_upto_region 19 with fail
              obtain ⟨kx, ky⟩ := HXY.out w5.drew HMID.out.1.fr.drew
              refine region_take1 (fun w' => w' = w5.drew) 12 (d := 105) u10 (by kernel_rfl) rfl rfl (by kernel_rfl) (fun _ _ _ h => h) (Or.inl ⟨by rfl, fun w => BigFrame.run_move (.tmp 10) rfl w⟩) rfl ?_
              simp only [List.take_succ_cons, List.take_zero, List.drop_succ_cons, List.drop_zero]
              refine quiet_run (.slice (some ⟨bL, oL, none⟩) len cap) rfl (fun w hw => by go_simp) ?_
              refine quiet_run (.int .i64 (k : Int)) rfl (fun w hw => by go_simp) ?_
              refine quiet_run (.pointer (some ⟨bL, oL + k * 2, none⟩)) rfl (fun w hw => by go_simp) ?_
              refine quiet_run (.pointer (some ⟨bL, oL + k * 2, none⟩)) rfl (fun w hw => by go_simp) ?_
              refine quiet_run (.int .i64 x) rfl (fun w hw => by subst hw; go_simp) ?_
              refine quiet_run (.slice (some ⟨bL, oL, none⟩) len cap) rfl (fun w hw => by go_simp) ?_
              refine quiet_run (.int .i64 (k : Int)) rfl (fun w hw => by go_simp) ?_
              refine quiet_run (.pointer (some ⟨bL, oL + k * 2, none⟩)) rfl (fun w hw => by go_simp) ?_
              refine quiet_run (.pointer (some ⟨bL, oL + k * 2 + 1, none⟩)) rfl (fun w hw => by go_simp) ?_
              refine quiet_run (.int .i64 y) rfl (fun w hw => by subst hw; go_simp) ?_
              refine quiet_call (.int .u64 (R : Int)) 37 #[.int .i64 x, .int .i64 y] rfl (fun w => by go_simp) (fun w hw => (HRAT.out w).mono fun e w' h => ⟨h.1, h.2 ▸ hw⟩) ?_
              refine wpQuiet_nil ?_
              rintro w6 rfl
              change wpAny _ _ _ _ 3 _ _ _
              simp only [Act.put, List.setIfInBounds_toArray, List.set_cons_zero, List.set_cons_succ]
              have HMID6 : Hid (MidRel w1 g l m bA hs R v' u10 w5.drew ∧ (hs.length : Int) ≤ (k : Int) + 1) := ⟨HMID.out.1.frame (Fr.refl _ w5).drew, HMID.out.2⟩
              clear kx ky HMID HRAT
              generalize w5.drew = w6 at *
              refine wpAny_ready (rs := [12]) (by kernel_rfl) (by simp) ?_
              refine AllReady.cons rfl (fun K hK => ?_) AllReady.nil
              go_simp
              refine hK _ _ ?_
              clear hK K
              try simp only [Act.put]
              have hm7 : MidRel w1 g l m bA hs R v' u10 (w6.alloc (.cells #[.int .u64 (R : Int)] 35)) := HMID6.out.1.frame ((Fr.refl _ w6).alloc _)
              have hs61 : hs.length ≤ 61 := by have := HMID6.out.2; omega
              obtain ⟨i0, hi, hz0, hz1, hz2⟩ := info_parts info_word2
              refine wpAny_ready (rs := [13]) (by kernel_rfl) (by simp) ?_
              refine AllReady.cons rfl (fun K hK => ?_) AllReady.nil
              refine step_append_some rfl (.tmp 105) (.tmp 117) 22 rfl 35 i0 (.int .u64 0) 8 Try.underlying22 hi hz0 hz1 hz2 rfl u10 hs.length (wvals hs) rfl hm7.2.1.1 ⟨w6.heap.size, 0, none⟩ 1 1 [.int .u64 (R : Int)] rfl rfl (news_one ((Blk.new w6 [.int .u64 (R : Int)] 35).cell 0 rfl)) (fun y hy => by rw [List.mem_singleton] at hy; rw [hy]; rfl) (.inl (by omega)) (by unfold maxLen; omega) (by omega) ?_
              intro g1 c1 w9 ho9 hf9 hg9
              refine hK _ _ ?_
              clear hK K
              have HEND : Hid (PlaysRel w1 g l m bA (hs ++ [R]) v' (.slice (some ⟨g1, 0, none⟩) (hs.length + 1) c1) w9 ∧ ((hs ++ [R]).length : Int) ≤ (k : Int) + 2) := ⟨hm7.push HRR.out rfl ho9 hf9 hg9, by rw [List.length_append, List.length_singleton]; have := HMID6.out.2; omega⟩
              clear hm7 ho9 hf9 hg9 HMID6 hi hz0 hz1 hz2
              simp only [Act.put]
              refine wpAny_ready (rs := [14]) (by kernel_rfl) (by simp) ?_
              refine AllReady.cons rfl (fun K hK => ?_) AllReady.nil
              go_simp
              refine hK _ _ ?_
              clear hK K
              try simp only [Act.put]
              refine wpAny_done (by kernel_rfl) ?_ _
              go_wp2
              go_meet
              exact ⟨_, _, HEND⟩
          · go_wp2
            go_meet
            exact ⟨_, _, ⟨hr.out.1, by have := hr.out.2; omega⟩⟩
        case rest =>
          obtain ⟨hs', v', hc⟩ := hcut
          clear hr HRW
          have hn61 : hs'.length ≤ 61 := by have := hc.out.2; omega
          obtain ⟨L, hL⟩ : ∃ L, L = hs'.drop (hs'.length - 8) := ⟨_, rfl⟩
          have hLl : L.length = hs'.length - (hs'.length - 8) := by rw [hL, List.length_drop]
          have hL8 : L.length ≤ 8 := by omega
          have HL := Lib.hid hL
          have HSH := Lib.hid hc.out.1.2.1.shape
          have HLL := Lib.hid hLl
          clear hL hLl
          go_upto_region 20 with fail
          go_cut [14] (fun v14 wx => ∃ (p14 : Option Addr) (c14 : Nat), v14 = .slice p14 L.length c14 ∧ Hid (Words wx p14 L.length L) ∧ wx = wc)
          case first =>
            rcases HSH.out with ⟨rfl, rfl⟩ | ⟨gU, cU, rfl, hle, hcm, hwd⟩
            · obtain rfl : L = [] := HL.out
              clear HSH HLL HL hc
              go_wp2
              go_meet
              exact ⟨none, 0, rfl, ⟨⟨rfl, fun i hi => absurd hi (by simp)⟩, by simp⟩, rfl⟩
            · have HWD := Lib.hid hwd
              generalize hs'.length = N at *
              unfold maxLen at hcm
              clear hwd HSH
              by_cases h8 : N ≤ 8
              · have hm8 : max ((N : Int) - 8) 0 = 0 := by omega
                have hw0 := HWD.out (N - 8) (by omega)
                rw [← HL.out, ← HLL.out, show N - 8 = 0 by omega] at hw0
                have HW0 := Lib.hid hw0
                have hLN : L.length = N := by have := HLL.out; omega
                have HLN := Lib.hid hLN
                clear hw0 hLN HWD hc HL
                go_wp2
                go_meet
                exact ⟨some ⟨gU, 0, none⟩, cU, by rw [HLN.out], HW0, rfl⟩
              · have hm8 : max ((N : Int) - 8) 0 = ((N - 8 : Nat) : Int) := by omega
                have hw0 := HWD.out (N - 8) (by omega)
                rw [← HL.out, ← HLL.out] at hw0
                have HW0 := Lib.hid hw0
                clear hw0 HWD hc HL
                go_wp2
                go_meet
                exact ⟨some ⟨gU, N - 8, none⟩, cU - (N - 8), by rw [HLL.out], HW0, rfl⟩
          case rest =>
            obtain ⟨p14, c14, rfl, hwd, rfl⟩ := hcut
            clear HSH
            have HT2 := Lib.hid (trig2_any g l m HBL.out.2.1 HBL.out.2.2 p14 L.length c14 L _ hwd.out (by omega))
            obtain ⟨T, hT⟩ : ∃ T, trigF g l m L = T := ⟨_, rfl⟩
            rw [hT] at HT2
            have hB := HW1.out.1.frame hc.out.1.fr (fun h => h)
            have k0 := hB.cell 0 rfl
            have k1 := hB.cell 1 rfl
            have k2 := hB.cell 2 rfl
            have hpb := hc.out.1.1
            rw [← HL.out] at hpb
            have HPB := Lib.hid hpb
            have HTT := Lib.hid hT
            clear hT hB hwd hpb
            go_wp2_with fail
            refine (HT2.out).mono ?_
            rintro e w20 ⟨rfl, hf20⟩
            have HPL : Hid (PlaysRel w1 g l m bA hs' v' u10 w20 ∧ (hs'.length : Int) ≤ n + 2) := ⟨hc.out.1.frame hf20, hc.out.2⟩
            have HPB2 : Hid (PacB w1 w20 bA g l m v' L) := HPB.out.frame hf20 (fun h => h) (fun _ _ h => h) (fun _ h => h.elim)
            clear hc HPB hf20 HT2 k0 k1 k2
            have HPW : Hid (∀ w', Fr (fun _ => False) w20 w' → PacB w1 w' bA g l m v' L) := fun w' hf => HPB2.out.frame hf (fun h => h) (fun _ _ h => h) (fun _ h => h.elim)
            have HNW : Hid (∀ w', Fr (fun _ => False) w20 w' → Calls Try.prog 39 #[.pointer (some ⟨bA, 0, none⟩)] w' (OneInt w' L.length)) := fun w' hf => noted_any (HPW.out w' hf)
            have HTW : Hid (∀ w', Fr (fun _ => False) w20 w' → Calls Try.prog 40 #[.pointer (some ⟨bA, 0, none⟩)] w' (FPost w' T)) := fun w' hf => HTT.out ▸ trig_any (HPW.out w' hf) hL8 HBL.out.2.1 HBL.out.2.2
            have HDW : Hid (∀ w', Fr (fun _ => False) w20 w' → Calls Try.prog 41 #[.pointer (some ⟨bA, 0, none⟩), .int .i64 q0, .int .i64 q1] w' (BPost w' (dueF T q0 q1))) := fun w' hf => HTT.out ▸ due_any (HPW.out w' hf) hL8 HBL.out.2.1 HBL.out.2.2 q0 q1
            have HD2 := Lib.hid (due2_any T q0 q1)
            have HBT := Lib.hid (bits_any T)
            have HQ0 : Hid (∀ w', Fr (fun _ => False) w20 w' → w'.cell? ⟨B0 + 1, 0, none⟩ = some (.int .i64 q0)) := fun w' hf => (HW1.out.2.1.frame (HPW.out w' hf).2.1.2.2.2 (fun h => h)).cell 0 rfl
            have HQ1 : Hid (∀ w', Fr (fun _ => False) w20 w' → w'.cell? ⟨B0 + 1, 1, none⟩ = some (.int .i64 q1)) := fun w' hf => (HW1.out.2.1.frame (HPW.out w' hf).2.1.2.2.2 (fun h => h)).cell 1 rfl
            have hk61 : (L.length : Int) ≤ 8 := by omega
            clear HTT HPB2 HPW hL8
            generalize dueF T q0 q1 = D at *
            have hDD : (D != D) = false := by simp
            go_upto_region 22 with fail
            refine region_class_all (fun w' => Fr (fun _ => False) w20 w') (by kernel_rfl) (by kernel_rfl) (Fr.refl _ w20).drew ?_
            refine quiet_run (.pointer (some ⟨bA, 0, none⟩)) rfl (fun w hw => by go_simp) ?_
            simp only [Act.put, List.setIfInBounds_toArray, List.set_cons_zero, List.set_cons_succ]
            refine quiet_call (.int .i64 (L.length : Int)) 39 #[.pointer (some ⟨bA, 0, none⟩)] rfl (fun w => by go_simp) (fun w hw => (HNW.out w hw).mono fun e w' h => ⟨h.1, h.2 ▸ hw⟩) ?_
            simp only [Act.put, List.setIfInBounds_toArray, List.set_cons_zero, List.set_cons_succ]
            refine quiet_run (.slice p14 L.length c14) rfl (fun w hw => by go_simp) ?_
            simp only [Act.put, List.setIfInBounds_toArray, List.set_cons_zero, List.set_cons_succ]
            refine quiet_run (.int .i64 (L.length : Int)) rfl (fun w hw => by go_simp) ?_
            simp only [Act.put, List.setIfInBounds_toArray, List.set_cons_zero, List.set_cons_succ]
            refine quiet_run (.bool false) rfl (fun w hw => by go_simp) ?_
            simp only [Act.put, List.setIfInBounds_toArray, List.set_cons_zero, List.set_cons_succ]
            refine quiet_run (.bool false) rfl (fun w hw => by go_simp) ?_
            simp only [Act.put, List.setIfInBounds_toArray, List.set_cons_zero, List.set_cons_succ]
            refine quiet_runG (.pointer (some ⟨bA, 0, none⟩)) (by rfl) (fun w hw => by go_simp) ?_
            simp only [Act.put, List.setIfInBounds_toArray, List.set_cons_zero, List.set_cons_succ]
            refine quiet_callG (.float .f64 T) 40 #[.pointer (some ⟨bA, 0, none⟩)] (by rfl) (fun w => by go_simp) (fun w hw => (HTW.out w hw).mono fun e w' h => ⟨h.1, hw.then h.2⟩) ?_
            simp only [Act.put, List.setIfInBounds_toArray, List.set_cons_zero, List.set_cons_succ]
            refine quiet_callG (.int .u64 (T : Int)) 24 #[.float .f64 T] (by rfl) (fun w => by go_simp) (fun w hw => (HBT.out w).mono fun e w' h => ⟨h.1, h.2 ▸ hw⟩) ?_
            simp only [Act.put, List.setIfInBounds_toArray, List.set_cons_zero, List.set_cons_succ]
            refine quiet_runG (.int .u64 (T : Int)) (by rfl) (fun w hw => by go_simp) ?_
            simp only [Act.put, List.setIfInBounds_toArray, List.set_cons_zero, List.set_cons_succ]
            refine quiet_runG (.bool false) (by rfl) (fun w hw => by go_simp) ?_
            simp only [Act.put, List.setIfInBounds_toArray, List.set_cons_zero, List.set_cons_succ]
            refine quiet_run (.bool false) rfl (fun w hw => by go_simp) ?_
            simp only [Act.put, List.setIfInBounds_toArray, List.set_cons_zero, List.set_cons_succ]
            refine quiet_run (.bool false) rfl (fun w hw => by go_simp) ?_
            simp only [Act.put, List.setIfInBounds_toArray, List.set_cons_zero, List.set_cons_succ]
            refine quiet_runG (.pointer (some ⟨bA, 0, none⟩)) (by rfl) (fun w hw => by go_simp) ?_
            simp only [Act.put, List.setIfInBounds_toArray, List.set_cons_zero, List.set_cons_succ]
            refine quiet_runG (.pointer (some ⟨B0 + 1, 0, none⟩)) (by rfl) (fun w hw => by go_simp) ?_
            simp only [Act.put, List.setIfInBounds_toArray, List.set_cons_zero, List.set_cons_succ]
            refine quiet_runG (.int .i64 q0) (by rfl) (fun w hw => by have hq := HQ0.out w hw; clear hw; go_simp) ?_
            simp only [Act.put, List.setIfInBounds_toArray, List.set_cons_zero, List.set_cons_succ]
            refine quiet_runG (.pointer (some ⟨B0 + 1, 1, none⟩)) (by rfl) (fun w hw => by go_simp) ?_
            simp only [Act.put, List.setIfInBounds_toArray, List.set_cons_zero, List.set_cons_succ]
            refine quiet_runG (.int .i64 q1) (by rfl) (fun w hw => by have hq := HQ1.out w hw; clear hw; go_simp) ?_
            simp only [Act.put, List.setIfInBounds_toArray, List.set_cons_zero, List.set_cons_succ]
            refine quiet_callG (.bool D) 41 #[.pointer (some ⟨bA, 0, none⟩), .int .i64 q0, .int .i64 q1] (by rfl) (fun w => by go_simp) (fun w hw => (HDW.out w hw).mono fun e w' h => ⟨h.1, hw.then h.2⟩) ?_
            simp only [Act.put, List.setIfInBounds_toArray, List.set_cons_zero, List.set_cons_succ]
            refine quiet_runG (.int .u64 (T : Int)) (by rfl) (fun w hw => by go_simp) ?_
            simp only [Act.put, List.setIfInBounds_toArray, List.set_cons_zero, List.set_cons_succ]
            refine quiet_runG (.pointer (some ⟨B0 + 1, 0, none⟩)) (by rfl) (fun w hw => by go_simp) ?_
            simp only [Act.put, List.setIfInBounds_toArray, List.set_cons_zero, List.set_cons_succ]
            refine quiet_runG (.int .i64 q0) (by rfl) (fun w hw => by have hq := HQ0.out w hw; clear hw; go_simp) ?_
            simp only [Act.put, List.setIfInBounds_toArray, List.set_cons_zero, List.set_cons_succ]
            refine quiet_runG (.pointer (some ⟨B0 + 1, 1, none⟩)) (by rfl) (fun w hw => by go_simp) ?_
            simp only [Act.put, List.setIfInBounds_toArray, List.set_cons_zero, List.set_cons_succ]
            refine quiet_runG (.int .i64 q1) (by rfl) (fun w hw => by have hq := HQ1.out w hw; clear hw; go_simp) ?_
            simp only [Act.put, List.setIfInBounds_toArray, List.set_cons_zero, List.set_cons_succ]
            refine quiet_callG (.bool D) 42 #[.int .u64 (T : Int), .int .i64 q0, .int .i64 q1] (by rfl) (fun w => by go_simp) (fun w hw => (HD2.out w).mono fun e w' h => ⟨h.1, hw.then h.2⟩) ?_
            simp only [Act.put, List.setIfInBounds_toArray, List.set_cons_zero, List.set_cons_succ]
            refine quiet_runG (.bool false) (by rfl) (fun w hw => by go_simp) ?_
            simp only [Act.put, List.setIfInBounds_toArray, List.set_cons_zero, List.set_cons_succ]
            refine quiet_run (.bool false) rfl (fun w hw => by go_simp) ?_
            simp only [Act.put, List.setIfInBounds_toArray, List.set_cons_zero, List.set_cons_succ]
            refine wpQuiet_nil ?_
            intro w21 hw21
            have HEND : Hid (PlaysRel w1 g l m bA hs' v' u10 w21 ∧ (hs'.length : Int) ≤ n + 2) := ⟨HPL.out.1.frame hw21, HPL.out.2⟩
            clear hw21 HPL HNW HTW HDW HD2 HBT HQ0 HQ1
            go_wp2
            go_roundw
            case rel => exact ⟨n + 1, hs', v', by omega, by go_num, ⟨HEND.out.1, by have := HEND.out.2; omega⟩⟩
            case measure => simp [intOf]; omega
      · obtain rfl : n = len := by omega
        have HFW := Lib.hid (HW1.out.2.2.then hr.out.1.fr)
        clear hr
        go_wp2_with fail
        refine (HLIVE.out _).mono ?_
        rintro e w7 ⟨rfl, hf7⟩
        have HF7 : Hid (Fr (fun _ => False) W w7) := HFW.out.then hf7
        clear hf7
        go_wp2
        go_ret
        exact ⟨rfl, HF7.out⟩

theorem PacerPlays_of {c0 c2 : List Value} {p : Option Addr} {len cap : Nat} {W : World} (h0 : AllOk [.int .u64, .int .u64, .int .u64] c0) (h1 : RowsOf [.int .i64, .int .i64] W p len) (h2 : AllOk [.int .i64, .int .i64] c2) :
    Calls Try.prog 9 #[.agg c0.toArray, .slice p len cap, .agg c2.toArray] W (LawPost W) := by
  obtain ⟨q0, q1, rfl⟩ := two_cells h2
  match c0, h0 with
  | [_, _, _], ⟨⟨g, rfl, hg⟩, ⟨l, rfl, hl⟩, ⟨m, rfl, hm⟩, _⟩ =>
    obtain ⟨g, rfl, hg2⟩ := u64_nat hg
    obtain ⟨l, rfl, hl2⟩ := u64_nat hl
    obtain ⟨m, rfl, hm2⟩ := u64_nat hm
    exact PacerPlays_any g l m hg2 hl2 hm2 p len cap q0 q1 W h1
end Go.Proofs.Ytmllbdiljjimmaa
