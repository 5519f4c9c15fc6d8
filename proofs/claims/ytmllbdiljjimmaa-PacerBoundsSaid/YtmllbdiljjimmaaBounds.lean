/- The walk of the law PacerBounds. -/
import Derived.Test.YtmllbdiljjimmaaPacer4
import Derived.Test.YtmllbdiljjimmaaFlat
import Derived.Test.YtmllbdiljjimmaaRegion4
import Derived.Test.YtmllbdiljjimmaaRegion3
import Derived.Deep.MidRow
import Derived.OrdersHeld
namespace Go.Proofs.Ytmllbdiljjimmaa
open Go.RowKit

theorem ahead_self (a : Nat) : aheadF a a = false := by unfold aheadF; simp
theorem trig_bounds {g l m : Nat} (h : mayF g l m = true) (rs : List Nat) : (kindF (trigF g l m rs) == 4) = false ∧ aheadF (trigF g l m rs) l = false ∧ aheadF m (trigF g l m rs) = false := by
  unfold mayF at h
  simp only [Bool.and_eq_true, Bool.not_eq_true'] at h
  obtain ⟨h1, h2, h3, h4⟩ := h
  unfold trigF
  by_cases h0 : rs = []
  · rw [if_pos h0]; exact ⟨h3, h4, ahead_self m⟩
  · rw [if_neg h0]
    generalize opF (floatBits .add .f64 (meanF rs) (opF (floatBits .mul .f64 g (meanF rs)))) = T
    by_cases c1 : kindF T = 4 ∨ aheadF m T = true
    · rw [if_pos c1]; exact ⟨h3, h4, ahead_self m⟩
    · rw [if_neg c1]
      rw [not_or] at c1
      by_cases c2 : aheadF T l = true
      · rw [if_pos c2]; exact ⟨h2, ahead_self l, h4⟩
      · rw [if_neg c2]
        exact ⟨beq_eq_false_iff_ne.2 c1.1, Bool.not_eq_true _ ▸ c2, Bool.not_eq_true _ ▸ c1.2⟩
theorem trig_lt {g l m : Nat} (hl : l < 18446744073709551616) (hm : m < 18446744073709551616) (rs : List Nat) : trigF g l m rs < 18446744073709551616 := by
  unfold trigF
  by_cases h0 : rs = []
  · rw [if_pos h0]; exact hm
  · rw [if_neg h0]
    have h := opF_lt .add (meanF rs) (opF (floatBits .mul .f64 g (meanF rs)))
    generalize opF (floatBits .add .f64 (meanF rs) (opF (floatBits .mul .f64 g (meanF rs)))) = T at *
    by_cases c1 : kindF T = 4 ∨ aheadF m T = true
    · rw [if_pos c1]; exact hm
    · rw [if_neg c1]
      by_cases c2 : aheadF T l = true
      · rw [if_pos c2]; exact hl
      · rw [if_neg c2]; exact h
theorem trig_perm {g l m : Nat} {rs rs' : List Nat} (h : rs.Perm rs') : trigF g l m rs = trigF g l m rs' := by
  have hm : meanF rs = meanF rs' := by unfold meanF; rw [got_perm h, h.length_eq]
  unfold trigF
  rw [hm]
  by_cases h0 : rs = []
  · subst h0
    rw [List.nil_perm.1 h]
  · have h1 : ¬ rs' = [] := fun e => h0 (by rw [e] at h; exact List.perm_nil.1 h)
    rw [if_neg h0, if_neg h1]

theorem PacB.rebase {W0 W w : World} {b g l m : Nat} {v : Value} {rs : List Nat} (h : PacB W w b g l m v rs) (hf : Fr (fun _ => False) W0 W) : PacB W0 w b g l m v rs :=
  ⟨h.1, ⟨h.2.1.1, fun i hi => Nat.le_trans hf.size (h.2.1.2.1 i hi), h.2.1.2.2.1, hf.then h.2.1.2.2.2⟩, h.2.2.1, Nat.le_trans hf.size h.2.2.2⟩

/-- Two pacers that share nothing. -/
def Pair (W w : World) (g l m : Nat) (a : Nat) (v : Value) (rs : List Nat) (b : Nat) (u : Value) (ss : List Nat) : Prop :=
  PacB W w a g l m v rs ∧ PacB W w b g l m u ss ∧ a ≠ b ∧ v.ownBlock ≠ some b ∧ u.ownBlock ≠ some a ∧ ∀ k, v.ownBlock = some k → u.ownBlock ≠ some k
theorem Pair.symm {W w : World} {g l m a : Nat} {v : Value} {rs : List Nat} {b : Nat} {u : Value} {ss : List Nat} (h : Pair W w g l m a v rs b u ss) : Pair W w g l m b u ss a v rs :=
  ⟨h.2.1, h.1, h.2.2.1.symm, h.2.2.2.2.1, h.2.2.2.1, fun k hk hv => h.2.2.2.2.2 k hv hk⟩
theorem Pair.frame {W w w' : World} {g l m a : Nat} {v : Value} {rs : List Nat} {b : Nat} {u : Value} {ss : List Nat} (h : Pair W w g l m a v rs b u ss) (hf : Fr (fun _ => False) w w') : Pair W w' g l m a v rs b u ss :=
  ⟨h.1.frame hf (fun h => h) (fun _ _ h => h) (fun _ h => h.elim), h.2.1.frame hf (fun h => h) (fun _ _ h => h) (fun _ h => h.elim), h.2.2⟩
theorem Pair.note {W w w' : World} {g l m a : Nat} {v : Value} {rs rs' : List Nat} {b : Nat} {u : Value} {ss : List Nat} {e : Ending} (h : Pair W w g l m a v rs b u ss) (hn : NotePost W w a g l m v rs' e w') : e = .returned (.int .i64 0) ∧ ∃ v', Pair W w' g l m a v' rs' b u ss := by
  obtain ⟨he, v', hp, hf, hv⟩ := hn
  obtain ⟨h1, h2, h3, h4, h5, h6⟩ := h
  have hlt := h2.2.1.lt
  have hb := h2.1.lt
  refine ⟨he, v', hp, h2.frame hf ?_ ?_ ?_, h3, ?_, h5, ?_⟩
  · rintro (e | e)
    · exact h3 e.symm
    · exact h4 e
  · rintro i hi (e | e)
    · exact h5 (by rw [hi, e])
    · exact h6 i e hi
  · rintro i (e | e)
    · rw [e]; exact h1.2.2.2
    · exact h1.2.1.2.1 i e
  · intro e
    rcases hv b e with k | k
    · exact h4 k
    · omega
  · intro k hk hu
    rcases hv k hk with j | j
    · exact h6 k j hu
    · have := hlt k hu; omega

theorem NotePost.fr {W w w' : World} {g l m b : Nat} {v : Value} {rs : List Nat} {e : Ending} (h : NotePost W w b g l m v rs e w') : Fr (fun k => k = b ∨ v.ownBlock = some k) w w' := by
  obtain ⟨_, _, _, h, _⟩ := h
  exact h
theorem noteL_room {rs : List Nat} (h : rs.length < 8) (r : Nat) : noteL rs r = rs ++ [r] := by unfold noteL; rw [if_neg (by omega)]
theorem take_note {rs : List Nat} {i r : Nat} (h : rs[i]? = some r) (h8 : rs.length = 8) : noteL (rs.take i) r = rs.take (i + 1) := by
  have hi := (List.getElem?_eq_some_iff.1 h).1
  rw [noteL_room (by rw [List.length_take]; omega), List.take_add_one, h]; rfl
/-- A row, turned. -/
def rotL (l : List Nat) (s : Nat) : List Nat := l.drop s ++ l.take s
theorem rot_get {l : List Nat} {s i : Nat} (h : l.length = 8) (hs : s < 8) (hi : i < 8) : (rotL l s)[i]? = l[(i + s) % 8]? := by
  unfold rotL
  by_cases h1 : i < 8 - s
  · rw [List.getElem?_append_left (by rw [List.length_drop]; omega), List.getElem?_drop, Nat.mod_eq_of_lt (by omega), Nat.add_comm]
  · rw [List.getElem?_append_right (by rw [List.length_drop]; omega), List.length_drop, List.getElem?_take, if_pos (by omega)]
    congr 1
    omega
theorem rot_perm (l : List Nat) (s : Nat) : (rotL l s).Perm l := by
  have h1 : (l.drop s ++ l.take s).Perm (l.take s ++ l.drop s) := List.perm_append_comm
  rwa [List.take_append_drop] at h1

/-- The law's numbers, as words of a row. -/
def u16s (xs : List Nat) : List Value := xs.map (fun n : Nat => Value.int .u16 (n : Int))

theorem takeH {P : Program} {ops : Array Oper} {md : Region.Mode} {Q : Exit → Act → World → Prop} {S : World → Prop} {i : Nat} {d : Tmp} {oi : Oper} {v : Value} {fuel : Nat} {listed : Array Bool} {a : Act} {w : World} (hi : ops[i]? = some oi) (hd : oi.dst = some d)
    (hs : Region.noSelect ops = true) (hf : Region.free md ops listed i = true) (hr : (Region.ready md ops listed).contains i = true)
    (hQ : ∀ c a w, Q (.panic c) (a.put (some d) v) w → Q (.panic c) a w) (hy : YieldsIf P ops S oi v a) (hS : S w)
    (h : wpAnyH P md ops Q S fuel (listed.setIfInBounds i true) (a.put (some d) v) w) : wpAnyH P md ops Q S (fuel + 1) listed a w :=
  wpAnyH_take hi hs hf hr (by rw [hd]; exact hQ) hy hS (by rw [hd]; exact h)
theorem wpOp_value {P : Program} {ops : Array Oper} {Q : Exit → Act → World → Prop} {i : Nat} {o : Oper} {K : Act → World → Prop} {a : Act} {w w' : World} {v : Value} {d : Tmp} (hi : ops[i]? = some o) (hd : o.dst = some d) (hg : o.guard = none) (hr : (execOp a.eval o).run P w = .ok (.value v) w') (h : K (a.put (some d) v) w') : wpOp P ops Q i K a w := by
  rw [← hd] at h
  unfold wpOp
  simp only [hi]
  rw [if_pos (by unfold Region.wanted; rw [hg])]
  refine .inl ?_
  unfold Oper.wp
  rw [hr]
  exact h
theorem wpOp_skip {P : Program} {ops : Array Oper} {Q : Exit → Act → World → Prop} {i : Nat} {o : Oper} {K : Act → World → Prop} {a : Act} {w w' : World} (hi : ops[i]? = some o) (hd : o.dst = none) (hg : o.guard = none) (hr : (execOp a.eval o).run P w = .ok .skip w') (h : K (a.put none undef) w') : wpOp P ops Q i K a w := by
  rw [← hd] at h
  unfold wpOp
  simp only [hi]
  rw [if_pos (by unfold Region.wanted; rw [hg])]
  refine .inl ?_
  unfold Oper.wp
  rw [hr]
  exact h
theorem getD_lt {xs : List Nat} (h : ∀ x ∈ xs, x < 65536) (i : Nat) : xs.getD i 0 < 65536 := by
  rw [List.getD_eq_getElem?_getD]
  cases hx : xs[i]? with
  | none => exact (by decide : 0 < 65536)
  | some x => exact h x (List.mem_of_getElem? hx)

/-- The shares that the law notes. -/
def ratiosOf (xs : List Nat) : List Nat := (List.range 8).map (fun i => ratioF (xs.getD (2 * i) 0) (xs.getD (2 * i + 1) 0 + 1))
theorem ratios_len (xs : List Nat) : (ratiosOf xs).length = 8 := by unfold ratiosOf; simp
theorem ratios_get (xs : List Nat) {i : Nat} (h : i < 8) : (ratiosOf xs)[i]? = some (ratioF (xs.getD (2 * i) 0) (xs.getD (2 * i + 1) 0 + 1)) := by
  unfold ratiosOf
  rw [List.getElem?_map, List.getElem?_range h]; rfl
def BndRel (W : World) (g l m a b : Nat) (xs : List Nat) (s k : Nat) (w : World) : Prop :=
  ∃ v u, Pair W w g l m a v ((ratiosOf xs).take k) b u ((rotL (ratiosOf xs) s).take k)
theorem range_u16 {w : World} {b : Nat} {xs : List Nat} {t : TypeId} (h : Blk w b (u16s xs) t) (hx : xs.length = 16) {k : Nat} (hk : k < 8) : w.rangeAt b (k * 2) [.int .u16 ((xs.getD (2 * k) 0 : Nat) : Int), .int .u16 ((xs.getD (2 * k + 1) 0 : Nat) : Int)] := by
  have key : ∀ j, j < 16 → w.cell? ⟨b, j, none⟩ = some (.int .u16 ((xs.getD j 0 : Nat) : Int)) := fun j hj => by
    refine h.cell j ?_
    unfold u16s
    rw [List.getElem?_map, List.getElem?_eq_getElem (by omega), List.getD_eq_getElem?_getD, List.getElem?_eq_getElem (by omega)]
    rfl
  intro j v hv
  match j, hv with
  | 0, hv => simp at hv; subst hv; rw [Nat.add_zero, Nat.mul_comm]; exact key _ (by omega)
  | 1, hv => simp at hv; subst hv; rw [Nat.mul_comm]; exact key _ (by omega)

set_option maxRecDepth 100000 in
set_option maxHeartbeats 3200000 in
theorem PacerBounds_any (g l m : Nat) (hg : g < 18446744073709551616) (hl : l < 18446744073709551616) (hm : m < 18446744073709551616) (xs : List Nat) (hx : xs.length = 16) (hxl : ∀ x ∈ xs, x < 65536) (turn : Nat) (hturn : turn < 256) (W : World) :
    Calls Try.prog 11 #[.agg #[.int .u64 (g : Int), .int .u64 (l : Int), .int .u64 (m : Int)], .agg (u16s xs).toArray, .int .u8 (turn : Int)] W (LawPost W) := by
  have HLIVE := Lib.hid lives34_any
  have HOG := Lib.hid (of_any g)
  have HOL := Lib.hid (of_any l)
  have HOM := Lib.hid (of_any m)
  have HNEW := Lib.hid (new_any g l m hg hl hm)
  obtain ⟨X, hX⟩ : ∃ X, X = (u16s xs).toArray := ⟨_, rfl⟩
  rw [← hX]
  have HX := Lib.hid hX
  have HXS := Lib.hid hx
  have HXL := Lib.hid hxl
  have HBL := Lib.hid (And.intro hg (And.intro hl hm))
  clear hX hx hxl hg hl hm
  go_enter Try.func11, Try.ntmps11
  go_upto_region 1 with fail
  have hb0 : Blk ((W.alloc (.cells #[.int .u64 (g : Int), .int .u64 (l : Int), .int .u64 (m : Int)] 49)).alloc (.cells X 65)) W.heap.size [.int .u64 (g : Int), .int .u64 (l : Int), .int .u64 (m : Int)] 49 :=
    (Blk.new W [.int .u64 (g : Int), .int .u64 (l : Int), .int .u64 (m : Int)] 49).alloc _
  have hb1 : Blk ((W.alloc (.cells #[.int .u64 (g : Int), .int .u64 (l : Int), .int .u64 (m : Int)] 49)).alloc (.cells X 65)) (W.heap.size + 1) (u16s xs) 65 := by
    have h := Blk.new (W.alloc (.cells #[.int .u64 (g : Int), .int .u64 (l : Int), .int .u64 (m : Int)] 49)) (u16s xs) 65
    rw [← HX.out] at h
    simpa using h
  have hfw : Fr (fun _ => False) W ((W.alloc (.cells #[.int .u64 (g : Int), .int .u64 (l : Int), .int .u64 (m : Int)] 49)).alloc (.cells X 65)) := ((Fr.refl _ W).alloc _).alloc _
  generalize (W.alloc (.cells #[.int .u64 (g : Int), .int .u64 (l : Int), .int .u64 (m : Int)] 49)).alloc (.cells X 65) = w0 at *
  have HF0 := Lib.hid hfw
  have HB0 := Lib.hid hb0
  have HB1 := Lib.hid hb1
  clear hb0 hb1 hfw
  generalize hB0 : W.heap.size = B0 at *
  have k0 := HB0.out.drew.cell 0 rfl
  have k1 := HB0.out.drew.cell 1 rfl
  have k2 := HB0.out.drew.cell 2 rfl
  refine region_classT (fun w' => w' = w0.drew) 9 (by kernel_rfl) (by kernel_rfl) rfl ?_
  simp only [List.take_succ_cons, List.take_zero]
  refine quiet_run (.pointer (some ⟨B0, 0, none⟩)) rfl (fun w hw => by go_simp) ?_
  refine quiet_run (.int .u64 (g : Int)) rfl (fun w hw => by subst hw; go_simp) ?_
  refine quiet_call (.float .f64 g) 26 #[.int .u64 (g : Int)] rfl (fun w => by go_simp) (fun w hw => (HOG.out w).mono fun e w' h => ⟨h.1, h.2 ▸ hw⟩) ?_
  refine quiet_run (.pointer (some ⟨B0, 1, none⟩)) rfl (fun w hw => by go_simp) ?_
  refine quiet_run (.int .u64 (l : Int)) rfl (fun w hw => by subst hw; go_simp) ?_
  refine quiet_call (.float .f64 l) 26 #[.int .u64 (l : Int)] rfl (fun w => by go_simp) (fun w hw => (HOL.out w).mono fun e w' h => ⟨h.1, h.2 ▸ hw⟩) ?_
  refine quiet_run (.pointer (some ⟨B0, 2, none⟩)) rfl (fun w hw => by go_simp) ?_
  refine quiet_run (.int .u64 (m : Int)) rfl (fun w hw => by subst hw; go_simp) ?_
  refine quiet_call (.float .f64 m) 26 #[.int .u64 (m : Int)] rfl (fun w => by go_simp) (fun w hw => (HOM.out w).mono fun e w' h => ⟨h.1, h.2 ▸ hw⟩) ?_
  refine wpQuiet_nil ?_
  rintro w1 rfl
  change wpAny _ _ _ _ 6 _ _ _
  simp only [Act.put, List.setIfInBounds_toArray, List.set_cons_zero, List.set_cons_succ]
  clear k0 k1 k2
  refine wpAny_ready (rs := [9]) (by kernel_rfl) (by simp) ?_
  refine AllReady.cons rfl (fun K hK => ?_) AllReady.nil
  go_simp
  have HW1 : Hid (Blk w0.drew B0 [.int .u64 (g : Int), .int .u64 (l : Int), .int .u64 (m : Int)] 49 ∧ Blk w0.drew (B0 + 1) (u16s xs) 65 ∧ Fr (fun _ => False) W w0.drew) := ⟨HB0.out.drew, HB1.out.drew, HF0.out.drew⟩
  clear HB0 HB1 HF0
  generalize w0.drew = w1 at *
  refine (HNEW.out _).mono ?_
  rintro e w2 ⟨hn1, hn2⟩
  cases hmay : mayF g l m with
  | false =>
    obtain ⟨rfl, rfl⟩ := hn2 hmay
    have HNEW2 : Hid (∀ w, Calls Try.prog 33 #[.float .f64 g, .float .f64 l, .float .f64 m] w fun e w' => e = .returned (.tuple #[.pointer none, .int .i64 5]) ∧ w = w') := fun w => (HNEW.out w).mono fun e w' h => h.2 hmay
    clear hn1 hn2 HNEW
    dsimp only
    refine hK _ _ ?_
    clear hK K
    try simp only [Act.put]
    refine wpAny_ready (rs := [10]) (by kernel_rfl) (by simp) ?_
    refine AllReady.cons rfl (fun K hK => ?_) AllReady.nil
    go_simp
    refine hK _ _ ?_
    clear hK K
    try simp only [Act.put]
    refine wpAny_take (i := 11) (v := .pointer none) rfl (by kernel_rfl) (by kernel_rfl) (by kernel_rfl) (fun _ _ _ h => h) (Or.inl ⟨by rfl, fun w => by go_simp⟩) ?_
    refine wpAny_take (i := 12) (v := .int .i64 5) rfl (by kernel_rfl) (by kernel_rfl) (by kernel_rfl) (fun _ _ _ h => h) (Or.inl ⟨by rfl, fun w => by go_simp⟩) ?_
    simp only [Act.put]
    refine wpAny_ready (rs := [13]) (by kernel_rfl) (by simp) ?_
    refine AllReady.cons rfl (fun K hK => ?_) AllReady.nil
    go_simp
    refine hK _ _ ?_
    clear hK K
    try simp only [Act.put]
    refine wpAny_ready (rs := [14]) (by kernel_rfl) (by simp) ?_
    refine AllReady.cons rfl (fun K hK => ?_) AllReady.nil
    go_simp
    refine hK _ _ ?_
    clear hK K
    try simp only [Act.put]
    refine wpAny_done (by kernel_rfl) ?_ _
    go_upto_region 2 with fail
    have k0 := HW1.out.1.drew.cell 0 rfl
    have k1 := HW1.out.1.drew.cell 1 rfl
    have k2 := HW1.out.1.drew.cell 2 rfl
    refine region_classT (fun w' => w' = w1.drew) 9 (by kernel_rfl) (by kernel_rfl) rfl ?_
    simp only [List.take_succ_cons, List.take_zero]
    refine quiet_run (.pointer (some ⟨B0, 0, none⟩)) rfl (fun w hw => by go_simp) ?_
    refine quiet_run (.int .u64 (g : Int)) rfl (fun w hw => by subst hw; go_simp) ?_
    refine quiet_call (.float .f64 g) 26 #[.int .u64 (g : Int)] rfl (fun w => by go_simp) (fun w hw => (HOG.out w).mono fun e w' h => ⟨h.1, h.2 ▸ hw⟩) ?_
    refine quiet_run (.pointer (some ⟨B0, 1, none⟩)) rfl (fun w hw => by go_simp) ?_
    refine quiet_run (.int .u64 (l : Int)) rfl (fun w hw => by subst hw; go_simp) ?_
    refine quiet_call (.float .f64 l) 26 #[.int .u64 (l : Int)] rfl (fun w => by go_simp) (fun w hw => (HOL.out w).mono fun e w' h => ⟨h.1, h.2 ▸ hw⟩) ?_
    refine quiet_run (.pointer (some ⟨B0, 2, none⟩)) rfl (fun w hw => by go_simp) ?_
    refine quiet_run (.int .u64 (m : Int)) rfl (fun w hw => by subst hw; go_simp) ?_
    refine quiet_call (.float .f64 m) 26 #[.int .u64 (m : Int)] rfl (fun w => by go_simp) (fun w hw => (HOM.out w).mono fun e w' h => ⟨h.1, h.2 ▸ hw⟩) ?_
    refine wpQuiet_nil ?_
    rintro w2 rfl
    change wpAny _ _ _ _ 6 _ _ _
    simp only [Act.put, List.setIfInBounds_toArray, List.set_cons_zero, List.set_cons_succ]
    clear k0 k1 k2
    have HF2 : Hid (Fr (fun _ => False) W w1.drew) := HW1.out.2.2.drew
    clear HW1
    generalize w1.drew = w2 at *
    refine wpAny_ready (rs := [9]) (by kernel_rfl) (by simp) ?_
    refine AllReady.cons rfl (fun K hK => ?_) AllReady.nil
    go_simp
    refine (HNEW2.out _).mono ?_
    rintro e w3 ⟨rfl, rfl⟩
    dsimp only
    refine hK _ _ ?_
    clear hK K
    try simp only [Act.put]
    refine wpAny_ready (rs := [10]) (by kernel_rfl) (by simp) ?_
    refine AllReady.cons rfl (fun K hK => ?_) AllReady.nil
    go_simp
    refine hK _ _ ?_
    clear hK K
    try simp only [Act.put]
    refine wpAny_take (i := 11) (v := .pointer none) rfl (by kernel_rfl) (by kernel_rfl) (by kernel_rfl) (fun _ _ _ h => h) (Or.inl ⟨by rfl, fun w => by go_simp⟩) ?_
    refine wpAny_take (i := 12) (v := .int .i64 5) rfl (by kernel_rfl) (by kernel_rfl) (by kernel_rfl) (fun _ _ _ h => h) (Or.inl ⟨by rfl, fun w => by go_simp⟩) ?_
    simp only [Act.put]
    refine wpAny_ready (rs := [13]) (by kernel_rfl) (by simp) ?_
    refine AllReady.cons rfl (fun K hK => ?_) AllReady.nil
    go_simp
    refine hK _ _ ?_
    clear hK K
    try simp only [Act.put]
    refine wpAny_ready (rs := [14]) (by kernel_rfl) (by simp) ?_
    refine AllReady.cons rfl (fun K hK => ?_) AllReady.nil
    go_simp
    refine hK _ _ ?_
    clear hK K
    try simp only [Act.put]
    refine wpAny_done (by kernel_rfl) ?_ _
    go_wp2_with fail
    refine (HLIVE.out _).mono ?_
    rintro e w4 ⟨rfl, hf4⟩
    have HF4 := Lib.hid (HF2.out.then hf4)
    clear hf4
    go_wp2
    go_ret
    exact ⟨rfl, HF4.out⟩
  | true =>
    obtain ⟨rfl, hb2, hf2, hl2⟩ := hn1 hmay
    have HP2 := Lib.hid (PacB.of_new hb2 hf2)
    have HL2 := Lib.hid hl2
    clear hn1 hn2 hb2 hl2
    have HW2 : Hid (Blk w2 B0 [.int .u64 (g : Int), .int .u64 (l : Int), .int .u64 (m : Int)] 49 ∧ Blk w2 (B0 + 1) (u16s xs) 65) := ⟨HW1.out.1.frame hf2 (fun h => h), HW1.out.2.1.frame hf2 (fun h => h)⟩
    have HBLT : Hid (B0 + 1 < w1.heap.size) := HW1.out.2.1.lt
    generalize hbA : w1.heap.size = bA at *
    have HBA := Lib.hid hbA
    clear hf2 hbA
    dsimp only
    refine hK _ _ ?_
    clear hK K
    try simp only [Act.put]
    refine wpAny_ready (rs := [10]) (by kernel_rfl) (by simp) ?_
    refine AllReady.cons rfl (fun K hK => ?_) AllReady.nil
    go_simp
    refine hK _ _ ?_
    clear hK K
    try simp only [Act.put]
    refine wpAny_take (i := 11) (v := .pointer (some ⟨bA, 0, none⟩)) rfl (by kernel_rfl) (by kernel_rfl) (by kernel_rfl) (fun _ _ _ h => h) (Or.inl ⟨by rfl, fun w => by go_simp⟩) ?_
    refine wpAny_take (i := 12) (v := .int .i64 0) rfl (by kernel_rfl) (by kernel_rfl) (by kernel_rfl) (fun _ _ _ h => h) (Or.inl ⟨by rfl, fun w => by go_simp⟩) ?_
    simp only [Act.put]
    refine wpAny_ready (rs := [13]) (by kernel_rfl) (by simp) ?_
    refine AllReady.cons rfl (fun K hK => ?_) AllReady.nil
    go_simp
    refine hK _ _ ?_
    clear hK K
    try simp only [Act.put]
    refine wpAny_ready (rs := [14]) (by kernel_rfl) (by simp) ?_
    refine AllReady.cons rfl (fun K hK => ?_) AllReady.nil
    go_simp
    refine hK _ _ ?_
    clear hK K
    try simp only [Act.put]
    refine wpAny_done (by kernel_rfl) ?_ _
    go_upto_region 2 with fail
    have k0 := HW2.out.1.drew.cell 0 rfl
    have k1 := HW2.out.1.drew.cell 1 rfl
    have k2 := HW2.out.1.drew.cell 2 rfl
    refine region_classT (fun w' => w' = w2.drew) 9 (by kernel_rfl) (by kernel_rfl) rfl ?_
    simp only [List.take_succ_cons, List.take_zero]
    refine quiet_run (.pointer (some ⟨B0, 0, none⟩)) rfl (fun w hw => by go_simp) ?_
    refine quiet_run (.int .u64 (g : Int)) rfl (fun w hw => by subst hw; go_simp) ?_
    refine quiet_call (.float .f64 g) 26 #[.int .u64 (g : Int)] rfl (fun w => by go_simp) (fun w hw => (HOG.out w).mono fun e w' h => ⟨h.1, h.2 ▸ hw⟩) ?_
    refine quiet_run (.pointer (some ⟨B0, 1, none⟩)) rfl (fun w hw => by go_simp) ?_
    refine quiet_run (.int .u64 (l : Int)) rfl (fun w hw => by subst hw; go_simp) ?_
    refine quiet_call (.float .f64 l) 26 #[.int .u64 (l : Int)] rfl (fun w => by go_simp) (fun w hw => (HOL.out w).mono fun e w' h => ⟨h.1, h.2 ▸ hw⟩) ?_
    refine quiet_run (.pointer (some ⟨B0, 2, none⟩)) rfl (fun w hw => by go_simp) ?_
    refine quiet_run (.int .u64 (m : Int)) rfl (fun w hw => by subst hw; go_simp) ?_
    refine quiet_call (.float .f64 m) 26 #[.int .u64 (m : Int)] rfl (fun w => by go_simp) (fun w hw => (HOM.out w).mono fun e w' h => ⟨h.1, h.2 ▸ hw⟩) ?_
    refine wpQuiet_nil ?_
    rintro w3 rfl
    change wpAny _ _ _ _ 6 _ _ _
    simp only [Act.put, List.setIfInBounds_toArray, List.set_cons_zero, List.set_cons_succ]
    clear k0 k1 k2
    have hfr : Fr (fun _ => False) w2 w2.drew := (Fr.refl _ w2).drew
    have HP3 := Lib.hid (HP2.out.frame hfr (fun h => h) (fun _ _ h => h) (fun _ h => h.elim))
    have HL3 : Hid (bA < w2.drew.heap.size) := HL2.out
    clear HP2 HL2 HW2 hfr
    generalize w2.drew = w3 at *
    refine wpAny_ready (rs := [9]) (by kernel_rfl) (by simp) ?_
    refine AllReady.cons rfl (fun K hK => ?_) AllReady.nil
    go_simp
    refine (HNEW.out _).mono ?_
    rintro e w4 ⟨hn1, hn2⟩
    obtain ⟨rfl, hb4, hf4, hl4⟩ := hn1 hmay
    generalize hbB : w3.heap.size = bB at *
    have HPAIR : Hid (Pair w1 w4 g l m bA (.slice none 0 0) [] bB (.slice none 0 0) []) := by
      subst hbB
      refine ⟨HP3.out.frame hf4 (fun h => h) (fun _ _ h => h) (fun _ h => h.elim), (PacB.of_new hb4 hf4).rebase HP3.out.2.1.2.2.2, by have := HL3.out; omega, by simp [Value.ownBlock], by simp [Value.ownBlock], by simp [Value.ownBlock]⟩
    clear hn1 hn2 hb4 hf4 hl4 hbB HP3 HL3 HNEW
    dsimp only
    refine hK _ _ ?_
    clear hK K
    try simp only [Act.put]
    refine wpAny_ready (rs := [10]) (by kernel_rfl) (by simp) ?_
    refine AllReady.cons rfl (fun K hK => ?_) AllReady.nil
    go_simp
    refine hK _ _ ?_
    clear hK K
    try simp only [Act.put]
    refine wpAny_take (i := 11) (v := .pointer (some ⟨bB, 0, none⟩)) rfl (by kernel_rfl) (by kernel_rfl) (by kernel_rfl) (fun _ _ _ h => h) (Or.inl ⟨by rfl, fun w => by go_simp⟩) ?_
    refine wpAny_take (i := 12) (v := .int .i64 0) rfl (by kernel_rfl) (by kernel_rfl) (by kernel_rfl) (fun _ _ _ h => h) (Or.inl ⟨by rfl, fun w => by go_simp⟩) ?_
    simp only [Act.put]
    refine wpAny_ready (rs := [13]) (by kernel_rfl) (by simp) ?_
    refine AllReady.cons rfl (fun K hK => ?_) AllReady.nil
    go_simp
    refine hK _ _ ?_
    clear hK K
    try simp only [Act.put]
    refine wpAny_ready (rs := [14]) (by kernel_rfl) (by simp) ?_
    refine AllReady.cons rfl (fun K hK => ?_) AllReady.nil
    go_simp
    refine hK _ _ ?_
    clear hK K
    try simp only [Act.put]
    refine wpAny_done (by kernel_rfl) ?_ _
    clear HX HOG
    go_wp2_with fail
    go_loopw [56] (fun i wr => ∃ k : Nat, k ≤ 8 ∧ i = .int .i64 (k : Int) ∧ Hid (BndRel w1 g l m bA bB xs (turn % 8) k wr)) (fun i _ => 8 - (intOf i).toNat)
    case atStart => exact ⟨0, by omega, rfl, ⟨_, _, HPAIR.out⟩⟩
    case round =>
      clear HPAIR
      obtain ⟨k, hk, rfl, hr⟩ := hrel
      by_cases hlt : k < 8
      · obtain ⟨j, hj⟩ : ∃ j, j = (k + turn) % 8 := ⟨_, rfl⟩
        have hj8 : j < 8 := by omega
        have htm : ((k : Int) + (turn : Int)).tmod 8 = (j : Int) := by rw [Int.tmod_eq_emod_of_nonneg (by omega)]; omega
        have hki : (k : Int) < 8 := by omega
        have hti : (turn : Int) < 256 := by omega
        have hji : (j : Int) < 8 := by omega
        have HJ := Lib.hid hj
        clear hj
        go_upto_region 8 with fail
        obtain ⟨x, y, x2, y2, hx, hy, hx2, hy2⟩ : ∃ x y x2 y2, x = xs.getD (2 * k) 0 ∧ y = xs.getD (2 * k + 1) 0 ∧ x2 = xs.getD (2 * j) 0 ∧ y2 = xs.getD (2 * j + 1) 0 := ⟨_, _, _, _, rfl, rfl, rfl, rfl⟩
        have hrow : Blk wr (B0 + 1) (u16s xs) 65 := by
          obtain ⟨v, u, hp⟩ := hr.out
          exact HW1.out.2.1.frame hp.1.2.1.2.2.2 (fun h => h)
        have HROW : Hid (∀ w', Fr (fun _ => False) wr w' → Blk w' (B0 + 1) (u16s xs) 65) := fun w' hf => hrow.frame hf (fun h => h)
        have HR1 : Hid (∀ w', Blk w' (B0 + 1) (u16s xs) 65 → w'.rangeAt (B0 + 1) (k * 2) [.int .u16 (x : Int), .int .u16 (y : Int)]) := fun w' h => by rw [hx, hy]; exact range_u16 h HXS.out hlt
        have HR2 : Hid (∀ w', Blk w' (B0 + 1) (u16s xs) 65 → w'.rangeAt (B0 + 1) (j * 2) [.int .u16 (x2 : Int), .int .u16 (y2 : Int)]) := fun w' h => by rw [hx2, hy2]; exact range_u16 h HXS.out hj8
        have HXX : Hid (x = xs.getD (2 * k) 0 ∧ y = xs.getD (2 * k + 1) 0 ∧ x2 = xs.getD (2 * j) 0 ∧ y2 = xs.getD (2 * j + 1) 0) := ⟨hx, hy, hx2, hy2⟩
        clear hx hy hx2 hy2 hrow
        go_cut [12, 13] (fun v12 v13 wx => ∃ p q : Nat, v12 = .pointer (some ⟨p, 0, none⟩) ∧ v13 = .pointer (some ⟨q, 0, none⟩) ∧ Hid (Blk wx p [.int .u16 (x : Int), .int .u16 (y : Int)] 64 ∧ Blk wx q [.int .u16 (x2 : Int), .int .u16 (y2 : Int)] 64 ∧ wr.heap.size ≤ p ∧ wr.heap.size ≤ q ∧ Fr (fun _ => False) wr wx))
        case first =>
          refine wp_region_held (S := fun w' => Blk w' (B0 + 1) (u16s xs) 65) (by kernel_rfl) ?_
          change wpAnyH _ _ _ _ _ _ _ _ (World.drew _)
          have hf7 : Fr (fun _ => False) wr wr.drew := (Fr.refl _ wr).drew
          have HS7 := Lib.hid (HROW.out _ hf7)
          have HF7 := Lib.hid hf7
          have HSZ : Hid (wr.heap.size ≤ wr.drew.heap.size) := hf7.size
          clear hf7
          generalize wr.drew = w7 at *
          refine takeH (i := 0) (d := 59) (v := .int .i64 (k : Int)) rfl rfl (by kernel_rfl) (by kernel_rfl) (by kernel_rfl) (fun _ _ _ h => h) (Or.inl ⟨by rfl, fun w hw => BigFrame.run_move (.tmp 11) rfl w⟩) HS7.out ?_
          simp only [Act.put, List.setIfInBounds_toArray, List.set_cons_zero, List.set_cons_succ]
          refine takeH (i := 1) (d := 60) (v := .pointer (some ⟨B0 + 1, k * 2, none⟩)) rfl rfl (by kernel_rfl) (by kernel_rfl) (by kernel_rfl) (fun _ _ _ h => h) (Or.inl ⟨by rfl, fun w hw => by go_simp⟩) HS7.out ?_
          simp only [Act.put, List.setIfInBounds_toArray, List.set_cons_zero, List.set_cons_succ]
          refine takeH (i := 2) (d := 61) (v := .agg #[.int .u16 (x : Int), .int .u16 (y : Int)]) rfl rfl (by kernel_rfl) (by kernel_rfl) (by kernel_rfl) (fun _ _ _ h => h) (yieldsIf_load_mid rfl 64 (.tmp 60) rfl (B0 + 1) (k * 2) rfl [.int .u16 (x : Int), .int .u16 (y : Int)] _ HR1.out Try.underlying64 rfl (by kernel_rfl)) HS7.out ?_
          simp only [Act.put, List.setIfInBounds_toArray, List.set_cons_zero, List.set_cons_succ]
          have hw1 : IntKind.i64.wrap (turn : Int) = (turn : Int) := IntWalk.i64_in _ (by omega)
          have hw2 : IntKind.i64.wrap ((k : Int) + (turn : Int)) = (k : Int) + (turn : Int) := IntWalk.i64_in _ (by omega)
          refine takeH (i := 3) (d := 62) (v := .int .i64 (k : Int)) rfl rfl (by kernel_rfl) (by kernel_rfl) (by kernel_rfl) (fun _ _ _ h => h) (Or.inl ⟨by rfl, fun w hw => BigFrame.run_move (.tmp 11) rfl w⟩) HS7.out ?_
          simp only [Act.put, List.setIfInBounds_toArray, List.set_cons_zero, List.set_cons_succ]
          refine takeH (i := 4) (d := 63) (v := .int .u8 (turn : Int)) rfl rfl (by kernel_rfl) (by kernel_rfl) (by kernel_rfl) (fun _ _ _ h => h) (Or.inl ⟨by rfl, fun w hw => BigFrame.run_move (.tmp 2) rfl w⟩) HS7.out ?_
          simp only [Act.put, List.setIfInBounds_toArray, List.set_cons_zero, List.set_cons_succ]
          refine takeH (i := 5) (d := 64) (v := .int .i64 (turn : Int)) rfl rfl (by kernel_rfl) (by kernel_rfl) (by kernel_rfl) (fun _ _ _ h => h) (Or.inl ⟨by rfl, fun w hw => by go_simp⟩) HS7.out ?_
          simp only [Act.put, List.setIfInBounds_toArray, List.set_cons_zero, List.set_cons_succ]
          refine takeH (i := 6) (d := 65) (v := .int .i64 ((k : Int) + (turn : Int))) rfl rfl (by kernel_rfl) (by kernel_rfl) (by kernel_rfl) (fun _ _ _ h => h) (Or.inl ⟨by rfl, fun w hw => by go_simp⟩) HS7.out ?_
          simp only [Act.put, List.setIfInBounds_toArray, List.set_cons_zero, List.set_cons_succ]
          clear hw1 hw2
          refine takeH (i := 7) (d := 66) (v := .int .i64 (j : Int)) rfl rfl (by kernel_rfl) (by kernel_rfl) (by kernel_rfl) (fun _ _ _ h => h) (Or.inl ⟨by rfl, fun w hw => by go_simp⟩) HS7.out ?_
          simp only [Act.put, List.setIfInBounds_toArray, List.set_cons_zero, List.set_cons_succ]
          refine takeH (i := 8) (d := 67) (v := .pointer (some ⟨B0 + 1, j * 2, none⟩)) rfl rfl (by kernel_rfl) (by kernel_rfl) (by kernel_rfl) (fun _ _ _ h => h) (Or.inl ⟨by rfl, fun w hw => by go_simp⟩) HS7.out ?_
          simp only [Act.put, List.setIfInBounds_toArray, List.set_cons_zero, List.set_cons_succ]
          refine takeH (i := 9) (d := 68) (v := .agg #[.int .u16 (x2 : Int), .int .u16 (y2 : Int)]) rfl rfl (by kernel_rfl) (by kernel_rfl) (by kernel_rfl) (fun _ _ _ h => h) (yieldsIf_load_mid rfl 64 (.tmp 67) rfl (B0 + 1) (j * 2) rfl [.int .u16 (x2 : Int), .int .u16 (y2 : Int)] _ HR2.out Try.underlying64 rfl (by kernel_rfl)) HS7.out ?_
          simp only [Act.put, List.setIfInBounds_toArray, List.set_cons_zero, List.set_cons_succ]
          refine wpAnyH_all (rs := [10, 11]) (by kernel_rfl) (by simp) ?_
          have hfa : ∀ (w : World) (o : Obj), Fr (fun _ => False) w (w.alloc o) := fun w o => (Fr.refl _ w).alloc o
          have HFA := Lib.hid hfa
          clear hfa
          intro i hi
          simp only [List.mem_cons, List.not_mem_nil, or_false] at hi
          rcases hi with rfl | rfl
          · refine wpOp_value (d := 12) (v := .pointer (some ⟨w7.heap.size, 0, none⟩)) (w' := w7.alloc (.cells #[.int .u16 0, .int .u16 0] 64)) rfl rfl rfl (by go_simp) ⟨HROW.out _ (HF7.out.then (HFA.out _ _)), ?_⟩
            refine wpAnyH_all (rs := [11]) (by kernel_rfl) (by simp) ?_
            intro i hi
            obtain rfl := List.mem_singleton.1 hi
            have HF9 : Hid (Fr (fun _ => False) wr ((w7.alloc (.cells #[.int .u16 0, .int .u16 0] 64)).alloc (.cells #[.int .u16 0, .int .u16 0] 64))) := (HF7.out.then (HFA.out _ _)).then (HFA.out _ _)
            refine wpOp_value (d := 13) (v := .pointer (some ⟨(w7.alloc (.cells #[.int .u16 0, .int .u16 0] 64)).heap.size, 0, none⟩)) (w' := (w7.alloc (.cells #[.int .u16 0, .int .u16 0] 64)).alloc (.cells #[.int .u16 0, .int .u16 0] 64)) rfl rfl rfl (by go_simp) ⟨HROW.out _ HF9.out, ?_⟩
            have HP9 : Hid (Blk ((w7.alloc (.cells #[.int .u16 0, .int .u16 0] 64)).alloc (.cells #[.int .u16 0, .int .u16 0] 64)) w7.heap.size [.int .u16 0, .int .u16 0] 64) := (Blk.new w7 [.int .u16 0, .int .u16 0] 64).alloc _
            have HQ9 : Hid (Blk ((w7.alloc (.cells #[.int .u16 0, .int .u16 0] 64)).alloc (.cells #[.int .u16 0, .int .u16 0] 64)) (w7.alloc (.cells #[.int .u16 0, .int .u16 0] 64)).heap.size [.int .u16 0, .int .u16 0] 64) := Blk.new _ [.int .u16 0, .int .u16 0] 64
            have HNE : Hid (wr.heap.size ≤ w7.heap.size ∧ wr.heap.size ≤ (w7.alloc (.cells #[.int .u16 0, .int .u16 0] 64)).heap.size ∧ w7.heap.size ≠ (w7.alloc (.cells #[.int .u16 0, .int .u16 0] 64)).heap.size) := ⟨HSZ.out, Nat.le_trans HSZ.out (HFA.out w7 _).size, by simp⟩
            generalize (w7.alloc (.cells #[.int .u16 0, .int .u16 0] 64)).alloc (.cells #[.int .u16 0, .int .u16 0] 64) = w9 at *
            generalize (w7.alloc (.cells #[.int .u16 0, .int .u16 0] 64)).heap.size = q at *
            generalize w7.heap.size = p at *
            clear HFA HS7 HF7 HSZ
            simp only [Act.put, List.setIfInBounds_toArray, List.set_cons_zero, List.set_cons_succ]
            refine wpAnyH_all (rs := [12]) (by kernel_rfl) (by simp) ?_
            intro i hi
            obtain rfl := List.mem_singleton.1 hi
            have HF10 : Hid (Fr (fun _ => False) wr (w9.setRow p #[.int .u16 (x : Int), .int .u16 (y : Int)])) := HF9.out.setRow _ (.inr HNE.out.1) _
            refine wpOp_skip (w' := w9.setRow p #[.int .u16 (x : Int), .int .u16 (y : Int)]) rfl rfl rfl (run_put_row rfl p #[.int .u16 (x : Int), .int .u16 (y : Int)] rfl rfl 64 #[.int .u16 0, .int .u16 0] HP9.out (by kernel_rfl) rfl (by simp [Value.oneCell'])) ⟨HROW.out _ HF10.out, ?_⟩
            have HP10 := Lib.hid (HP9.out.setRow [.int .u16 (x : Int), .int .u16 (y : Int)])
            have HQ10 := Lib.hid (HQ9.out.setRowOther p #[.int .u16 (x : Int), .int .u16 (y : Int)] (Ne.symm HNE.out.2.2))
            clear HF9 HP9 HQ9
            generalize w9.setRow p #[.int .u16 (x : Int), .int .u16 (y : Int)] = w10 at *
            simp only [Act.put]
            refine wpAnyH_all (rs := [13]) (by kernel_rfl) (by simp) ?_
            intro i hi
            obtain rfl := List.mem_singleton.1 hi
            have HF11 : Hid (Fr (fun _ => False) wr (w10.setRow q #[.int .u16 (x2 : Int), .int .u16 (y2 : Int)])) := HF10.out.setRow _ (.inr HNE.out.2.1) _
            refine wpOp_skip (w' := w10.setRow q #[.int .u16 (x2 : Int), .int .u16 (y2 : Int)]) rfl rfl rfl (run_put_row rfl q #[.int .u16 (x2 : Int), .int .u16 (y2 : Int)] rfl rfl 64 #[.int .u16 0, .int .u16 0] HQ10.out (by kernel_rfl) rfl (by simp [Value.oneCell'])) ⟨HROW.out _ HF11.out, ?_⟩
            have HQ11 := Lib.hid (HQ10.out.setRow [.int .u16 (x2 : Int), .int .u16 (y2 : Int)])
            have HP11 := Lib.hid (HP10.out.setRowOther q #[.int .u16 (x2 : Int), .int .u16 (y2 : Int)] HNE.out.2.2)
            clear HF10 HP10 HQ10
            generalize w10.setRow q #[.int .u16 (x2 : Int), .int .u16 (y2 : Int)] = w11 at *
            simp only [Act.put]
            refine wpAnyH_done (by kernel_rfl) ?_ _
            go_wp2
            go_meet
            exact ⟨p, q, rfl, rfl, ⟨HP11.out, HQ11.out, HNE.out.1, HNE.out.2.1, HF11.out⟩⟩
          · refine wpOp_value (d := 13) (v := .pointer (some ⟨w7.heap.size, 0, none⟩)) (w' := w7.alloc (.cells #[.int .u16 0, .int .u16 0] 64)) rfl rfl rfl (by go_simp) ⟨HROW.out _ (HF7.out.then (HFA.out _ _)), ?_⟩
            refine wpAnyH_all (rs := [10]) (by kernel_rfl) (by simp) ?_
            intro i hi
            obtain rfl := List.mem_singleton.1 hi
            have HF9 : Hid (Fr (fun _ => False) wr ((w7.alloc (.cells #[.int .u16 0, .int .u16 0] 64)).alloc (.cells #[.int .u16 0, .int .u16 0] 64))) := (HF7.out.then (HFA.out _ _)).then (HFA.out _ _)
            refine wpOp_value (d := 12) (v := .pointer (some ⟨(w7.alloc (.cells #[.int .u16 0, .int .u16 0] 64)).heap.size, 0, none⟩)) (w' := (w7.alloc (.cells #[.int .u16 0, .int .u16 0] 64)).alloc (.cells #[.int .u16 0, .int .u16 0] 64)) rfl rfl rfl (by go_simp) ⟨HROW.out _ HF9.out, ?_⟩
            have HQ9 : Hid (Blk ((w7.alloc (.cells #[.int .u16 0, .int .u16 0] 64)).alloc (.cells #[.int .u16 0, .int .u16 0] 64)) w7.heap.size [.int .u16 0, .int .u16 0] 64) := (Blk.new w7 [.int .u16 0, .int .u16 0] 64).alloc _
            have HP9 : Hid (Blk ((w7.alloc (.cells #[.int .u16 0, .int .u16 0] 64)).alloc (.cells #[.int .u16 0, .int .u16 0] 64)) (w7.alloc (.cells #[.int .u16 0, .int .u16 0] 64)).heap.size [.int .u16 0, .int .u16 0] 64) := Blk.new _ [.int .u16 0, .int .u16 0] 64
            have HNE : Hid (wr.heap.size ≤ (w7.alloc (.cells #[.int .u16 0, .int .u16 0] 64)).heap.size ∧ wr.heap.size ≤ w7.heap.size ∧ (w7.alloc (.cells #[.int .u16 0, .int .u16 0] 64)).heap.size ≠ w7.heap.size) := ⟨Nat.le_trans HSZ.out (HFA.out w7 _).size, HSZ.out, by simp⟩
            generalize (w7.alloc (.cells #[.int .u16 0, .int .u16 0] 64)).alloc (.cells #[.int .u16 0, .int .u16 0] 64) = w9 at *
            generalize (w7.alloc (.cells #[.int .u16 0, .int .u16 0] 64)).heap.size = p at *
            generalize w7.heap.size = q at *
            clear HFA HS7 HF7 HSZ
            simp only [Act.put, List.setIfInBounds_toArray, List.set_cons_zero, List.set_cons_succ]
            refine wpAnyH_all (rs := [12]) (by kernel_rfl) (by simp) ?_
            intro i hi
            obtain rfl := List.mem_singleton.1 hi
            have HF10 : Hid (Fr (fun _ => False) wr (w9.setRow p #[.int .u16 (x : Int), .int .u16 (y : Int)])) := HF9.out.setRow _ (.inr HNE.out.1) _
            refine wpOp_skip (w' := w9.setRow p #[.int .u16 (x : Int), .int .u16 (y : Int)]) rfl rfl rfl (run_put_row rfl p #[.int .u16 (x : Int), .int .u16 (y : Int)] rfl rfl 64 #[.int .u16 0, .int .u16 0] HP9.out (by kernel_rfl) rfl (by simp [Value.oneCell'])) ⟨HROW.out _ HF10.out, ?_⟩
            have HP10 := Lib.hid (HP9.out.setRow [.int .u16 (x : Int), .int .u16 (y : Int)])
            have HQ10 := Lib.hid (HQ9.out.setRowOther p #[.int .u16 (x : Int), .int .u16 (y : Int)] (Ne.symm HNE.out.2.2))
            clear HF9 HP9 HQ9
            generalize w9.setRow p #[.int .u16 (x : Int), .int .u16 (y : Int)] = w10 at *
            simp only [Act.put]
            refine wpAnyH_all (rs := [13]) (by kernel_rfl) (by simp) ?_
            intro i hi
            obtain rfl := List.mem_singleton.1 hi
            have HF11 : Hid (Fr (fun _ => False) wr (w10.setRow q #[.int .u16 (x2 : Int), .int .u16 (y2 : Int)])) := HF10.out.setRow _ (.inr HNE.out.2.1) _
            refine wpOp_skip (w' := w10.setRow q #[.int .u16 (x2 : Int), .int .u16 (y2 : Int)]) rfl rfl rfl (run_put_row rfl q #[.int .u16 (x2 : Int), .int .u16 (y2 : Int)] rfl rfl 64 #[.int .u16 0, .int .u16 0] HQ10.out (by kernel_rfl) rfl (by simp [Value.oneCell'])) ⟨HROW.out _ HF11.out, ?_⟩
            have HQ11 := Lib.hid (HQ10.out.setRow [.int .u16 (x2 : Int), .int .u16 (y2 : Int)])
            have HP11 := Lib.hid (HP10.out.setRowOther q #[.int .u16 (x2 : Int), .int .u16 (y2 : Int)] HNE.out.2.2)
            clear HF10 HP10 HQ10
            generalize w10.setRow q #[.int .u16 (x2 : Int), .int .u16 (y2 : Int)] = w11 at *
            simp only [Act.put]
            refine wpAnyH_done (by kernel_rfl) ?_ _
            go_wp2
            go_meet
            exact ⟨p, q, rfl, rfl, ⟨HP11.out, HQ11.out, HNE.out.1, HNE.out.2.1, HF11.out⟩⟩
        case rest =>
          obtain ⟨p, q, rfl, rfl, hc⟩ := hcut
          obtain ⟨v, u, hp⟩ := hr.out
          clear HROW HR1 HR2 hr
          have hpx := hp.frame hc.out.2.2.2.2
          have hxl : x < 65536 := by rw [HXX.out.1]; exact getD_lt HXL.out _
          have hyl : y < 65536 := by rw [HXX.out.2.1]; exact getD_lt HXL.out _
          have hxl2 : x2 < 65536 := by rw [HXX.out.2.2.1]; exact getD_lt HXL.out _
          have hyl2 : y2 < 65536 := by rw [HXX.out.2.2.2]; exact getD_lt HXL.out _
          have hs8 : turn % 8 < 8 := Nat.mod_lt _ (by decide)
          have e1 : noteL ((ratiosOf xs).take k) (ratioF (x : Int).toNat ((y : Int) + 1).toNat) = (ratiosOf xs).take (k + 1) := by
            rw [show (x : Int).toNat = x by omega, show ((y : Int) + 1).toNat = y + 1 by omega]
            exact take_note (by rw [ratios_get xs hlt, HXX.out.1, HXX.out.2.1]) (ratios_len xs)
          have hrl : (rotL (ratiosOf xs) (turn % 8)).length = 8 := by rw [(rot_perm _ _).length_eq, ratios_len]
          have e2 : noteL ((rotL (ratiosOf xs) (turn % 8)).take k) (ratioF (x2 : Int).toNat ((y2 : Int) + 1).toNat) = (rotL (ratiosOf xs) (turn % 8)).take (k + 1) := by
            rw [show (x2 : Int).toNat = x2 by omega, show ((y2 : Int) + 1).toNat = y2 + 1 by omega]
            refine take_note ?_ hrl
            rw [rot_get (ratios_len xs) hs8 hlt, show (k + turn % 8) % 8 = j by rw [HJ.out]; omega, ratios_get xs hj8, HXX.out.2.2.1, HXX.out.2.2.2]
          have hn1 := note_yes hpx.1 (by rw [List.length_take, ratios_len]; omega) (x : Int) ((y : Int) + 1) (by unfold fitsI; rw [decide_eq_true_eq]; omega)
          rw [e1] at hn1
          have HN1 := Lib.hid hn1
          have HE2 := Lib.hid e2
          have HRL := Lib.hid hrl
          have PX := Lib.hid hpx
          have hqa : q ≠ bA := by have := hp.1.1.lt; have := hc.out.2.2.2.1; omega
          have hqv : v.ownBlock ≠ some q := fun e => by have := hp.1.2.1.lt q e; have := hc.out.2.2.2.1; omega
          have HQA : Hid (q ≠ bA ∧ v.ownBlock ≠ some q) := ⟨hqa, hqv⟩
          have c0 := hc.out.1.cell 0 rfl
          have c1 := hc.out.1.cell 1 rfl
          have hxi : (x : Int) < 65536 := by omega
          have hyi : (y : Int) < 65536 := by omega
          have hxi2 : (x2 : Int) < 65536 := by omega
          have hyi2 : (y2 : Int) < 65536 := by omega
          clear hn1 e1 e2 hpx hp hqa hqv hs8 hrl HJ HXX hxl hyl hxl2 hyl2
          go_wp2_with fail
          refine (HN1.out).mono ?_
          rintro e w8 hn
          have hfr := hn.fr
          obtain ⟨rfl, v', hp1⟩ := PX.out.note hn
          have hq8 := hc.out.2.1.frame hfr (fun h => h.elim (fun h => HQA.out.1 h) (fun h => HQA.out.2 h))
          have hn2 := note_yes hp1.2.1 (by rw [List.length_take, HRL.out]; omega) (x2 : Int) ((y2 : Int) + 1) (by unfold fitsI; rw [decide_eq_true_eq]; omega)
          rw [HE2.out] at hn2
          have HN2 := Lib.hid hn2
          have P1 := Lib.hid hp1
          have d0 := hq8.cell 0 rfl
          have d1 := hq8.cell 1 rfl
          clear hfr hp1 hn hn2 hq8 HE2 PX HN1 c0 c1 hc
          go_wp2_with fail
          refine (HN2.out).mono ?_
          rintro e w9 hn
          obtain ⟨rfl, u', hp2⟩ := P1.out.symm.note hn
          have P2 := Lib.hid hp2.symm
          have HT := Lib.hid (trig_any P2.out.1 (by rw [List.length_take, ratios_len]; omega) HBL.out.2.1 HBL.out.2.2)
          have hbd := trig_bounds hmay ((ratiosOf xs).take (k + 1))
          have hTl : trigF g l m ((ratiosOf xs).take (k + 1)) < 18446744073709551616 := trig_lt HBL.out.2.1 HBL.out.2.2 _
          have hB9 := HW1.out.1.frame P2.out.1.2.1.2.2.2 (fun h => h)
          have HB9 := Lib.hid hB9
          clear hn hp2 P1 HN2 d0 d1 hB9
          generalize trigF g l m ((ratiosOf xs).take (k + 1)) = T at *
          have HK := Lib.hid (kind_any T hTl)
          have HB1 := Lib.hid (before_any T l hTl HBL.out.2.1)
          have HB2 := Lib.hid (before_any m T HBL.out.2.2 hTl)
          have hk4 : ((kindF T : Int) == 4) = false := by
            have := hbd.1
            rw [beq_eq_false_iff_ne] at this ⊢; omega
          rw [hbd.2.1] at HB1
          rw [hbd.2.2] at HB2
          generalize kindF T = kT at *
          clear hbd hTl
          go_wp2_with fail
          refine (HT.out).mono ?_
          rintro e w10 ⟨rfl, hf10⟩
          have P3 := Lib.hid (P2.out.frame hf10)
          have b1 := (HB9.out.frame hf10 (fun h => h)).cell 1 rfl
          have b2 := (HB9.out.frame hf10 (fun h => h)).cell 2 rfl
          clear hf10 P2 HT HB9
          go_wp2_with fail
          refine (HK.out _).mono ?_
          rintro e w' ⟨rfl, rfl⟩
          go_wp2_with fail
          refine (HOL.out _).mono ?_
          rintro e w' ⟨rfl, rfl⟩
          go_wp2_with fail
          refine (HB1.out _).mono ?_
          rintro e w' ⟨rfl, rfl⟩
          go_wp2_with fail
          refine (HOM.out _).mono ?_
          rintro e w' ⟨rfl, rfl⟩
          go_wp2_with fail
          refine (HB2.out _).mono ?_
          rintro e w' ⟨rfl, rfl⟩
          go_wp2
          go_roundw
          case rel => exact ⟨k + 1, by omega, by go_num, ⟨_, _, P3.out⟩⟩
          case measure => simp [intOf]; omega
      · obtain rfl : k = 8 := by omega
        obtain ⟨v, u, hp⟩ := hr.out
        have hrl : (rotL (ratiosOf xs) (turn % 8)).length = 8 := by rw [(rot_perm _ _).length_eq, ratios_len]
        rw [List.take_of_length_le (by rw [ratios_len]; omega), List.take_of_length_le (by rw [hrl]; omega)] at hp
        have HT1 := Lib.hid (trig_any hp.1 (by rw [ratios_len]; omega) HBL.out.2.1 HBL.out.2.2)
        have hT2 : trigF g l m (rotL (ratiosOf xs) (turn % 8)) = trigF g l m (ratiosOf xs) := trig_perm (rot_perm _ _)
        have HS := Lib.hid (same_any (trigF g l m (ratiosOf xs)) (trigF g l m (ratiosOf xs)))
        rw [beq_self_eq_true] at HS
        have HT2 : Hid (∀ w, Pair w1 w g l m bA v (ratiosOf xs) bB u (rotL (ratiosOf xs) (turn % 8)) → Calls Try.prog 40 #[.pointer (some ⟨bB, 0, none⟩)] w (FPost w (trigF g l m (ratiosOf xs)))) := fun w h => by
          rw [← hT2]; exact trig_any h.2.1 (by rw [hrl]; omega) HBL.out.2.1 HBL.out.2.2
        have HNO : Hid (∀ w, Pair w1 w g l m bA v (ratiosOf xs) bB u (rotL (ratiosOf xs) (turn % 8)) → Calls Try.prog 39 #[.pointer (some ⟨bA, 0, none⟩)] w (OneInt w 8)) := fun w h => by
          have := noted_any h.1
          rw [ratios_len] at this
          exact this
        have PX := Lib.hid hp
        clear hr hp hrl hT2
        generalize trigF g l m (ratiosOf xs) = T at *
        go_wp2_with fail
        refine (HT1.out).mono ?_
        rintro e w5 ⟨rfl, hf5⟩
        have P5 := Lib.hid (PX.out.frame hf5)
        clear hf5 PX HT1
        go_wp2_with fail
        refine (HT2.out _ P5.out).mono ?_
        rintro e w6 ⟨rfl, hf6⟩
        have P6 := Lib.hid (P5.out.frame hf6)
        clear hf6 P5 HT2
        go_wp2_with fail
        refine (HS.out _).mono ?_
        rintro e w' ⟨rfl, rfl⟩
        go_wp2_with fail
        refine (HNO.out _ P6.out).mono ?_
        rintro e w' ⟨rfl, rfl⟩
        go_wp2_with fail
        refine (HLIVE.out _).mono ?_
        rintro e w7 ⟨rfl, hf7⟩
        have HF7 : Hid (Fr (fun _ => False) W w7) := (HW1.out.2.2.then P6.out.1.2.1.2.2.2).then hf7
        clear hf7 P6 HNO
        go_wp2
        go_ret
        exact ⟨rfl, HF7.out⟩

/-- Cells that are all numbers of one kind. -/
theorem all_ints {k : IntKind} : ∀ (n : Nat) {cs : List Value}, AllOk (List.replicate n (.int k)) cs → ∃ zs : List Int, cs = zs.map (Value.int k) ∧ zs.length = n ∧ ∀ z ∈ zs, (Lit.int k z).wf = true
  | 0, [], _ => ⟨[], rfl, rfl, by simp⟩
  | n + 1, v :: cs, h => by
    obtain ⟨⟨x, rfl, hx⟩, h2⟩ := h
    obtain ⟨zs, rfl, hl, hz⟩ := all_ints n h2
    exact ⟨x :: zs, rfl, by simp [hl], fun z hz' => by rcases List.mem_cons.1 hz' with rfl | hz'; exact hx; exact hz z hz'⟩
theorem u16_nats : ∀ {zs : List Int}, (∀ z ∈ zs, (Lit.int .u16 z).wf = true) → ∃ xs : List Nat, zs.map (Value.int .u16) = u16s xs ∧ xs.length = zs.length ∧ ∀ x ∈ xs, x < 65536
  | [], _ => ⟨[], rfl, rfl, by simp⟩
  | z :: zs, h => by
    obtain ⟨xs, h1, h2, h3⟩ := u16_nats (zs := zs) (fun y hy => h y (by simp [hy]))
    have hz := h z (by simp)
    simp only [Lit.wf, Bool.and_eq_true, decide_eq_true_eq] at hz
    obtain ⟨n, rfl⟩ : ∃ n : Nat, z = (n : Int) := ⟨z.toNat, by have := hz.1; change (0 : Int) ≤ z at this; omega⟩
    have h2' := hz.2
    change (n : Int) ≤ 65535 at h2'
    exact ⟨n :: xs, by unfold u16s at *; simp [h1], by simp [h2], fun x hx => by rcases List.mem_cons.1 hx with rfl | hx; omega; exact h3 x hx⟩
theorem PacerBounds_of {c0 c1 : List Value} {t : Int} (h0 : AllOk [.int .u64, .int .u64, .int .u64] c0) (h1 : AllOk (List.replicate 16 (.int .u16)) c1) (ht : (Lit.int .u8 t).wf = true) (W : World) :
    Calls Try.prog 11 #[.agg c0.toArray, .agg c1.toArray, .int .u8 t] W (LawPost W) := by
  obtain ⟨zs, rfl, hl, hz⟩ := all_ints 16 h1
  obtain ⟨xs, e, hx, hxl⟩ := u16_nats hz
  rw [e]
  match c0, h0 with
  | [_, _, _], ⟨⟨g, rfl, hg⟩, ⟨l, rfl, hl'⟩, ⟨m, rfl, hm⟩, _⟩ =>
    obtain ⟨g, rfl, hg2⟩ := u64_nat hg
    obtain ⟨l, rfl, hl2⟩ := u64_nat hl'
    obtain ⟨m, rfl, hm2⟩ := u64_nat hm
    simp only [Lit.wf, Bool.and_eq_true, decide_eq_true_eq] at ht
    have ht1 := ht.1
    have ht2 := ht.2
    change (0 : Int) ≤ t at ht1
    change t ≤ 255 at ht2
    obtain ⟨n, rfl⟩ : ∃ n : Nat, t = (n : Int) := ⟨t.toNat, by omega⟩
    exact PacerBounds_any g l m hg2 hl2 hm2 xs (by omega) hxl n (by omega) W
end Go.Proofs.Ytmllbdiljjimmaa
