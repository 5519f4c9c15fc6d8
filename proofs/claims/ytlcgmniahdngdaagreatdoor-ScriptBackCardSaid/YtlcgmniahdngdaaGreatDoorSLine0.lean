/- The plain law of a script: what is put is cut into lines and fields, and read again. -/
import Derived.Test.YtlcgmniahdngdaaGreatDoorSOnly
import Derived.Test.YtlcgmniahdngdaaGreatDoorShelf
import Derived.Deep.RegionWith
namespace Go.Proofs.YtlcgmniahdngdaaGreatDoor
open Go.RowKit

/-- A field's text, by its letter; h: how many n have come. -/
def fieldB (o : OpR) (h : Nat) (c : UInt8) : List UInt8 :=
  if c = 97 then itoB o.a else if c = 98 then itoB o.b else if c = 105 then itoB o.i
  else if c = 110 then itoB (if h = 0 then o.p else if h = 1 then o.f else o.g)
  else if c = 120 then digB 16 o.x else if c = 100 then digB 10 o.x else textF o.q
def upH (h : Nat) (c : UInt8) : Nat := if c = 110 then h + 1 else h
def fieldsO (o : OpR) : Nat → List UInt8 → List (List UInt8)
  | _, [] => []
  | h, c :: s => fieldB o h c :: fieldsO o (upH h c) s
theorem fieldsO_snoc (o : OpR) (c : UInt8) : ∀ (s : List UInt8) (h : Nat), fieldsO o h (s ++ [c]) = fieldsO o h s ++ [fieldB o (s.foldl upH h) c]
  | [], h => rfl
  | d :: s, h => by
    show fieldB o h d :: fieldsO o (upH h d) (s ++ [c]) = fieldB o h d :: (fieldsO o (upH h d) s ++ [fieldB o (s.foldl upH (upH h d)) c])
    rw [fieldsO_snoc o c s (upH h d)]
theorem fieldsO_len (o : OpR) : ∀ (s : List UInt8) (h : Nat), (fieldsO o h s).length = s.length
  | [], _ => rfl
  | c :: s, h => by show (fieldsO o (upH h c) s).length + 1 = s.length + 1; rw [fieldsO_len o s]
theorem fieldsO_take (o : OpR) (s : List UInt8) (j : Nat) (hj : j < s.length) : fieldsO o 0 (s.take (j + 1)) = fieldsO o 0 (s.take j) ++ [fieldB o ((s.take j).foldl upH 0) s[j]] := by
  rw [← List.take_append_getElem hj, fieldsO_snoc]
theorem fieldsO_get (o : OpR) : ∀ (s : List UInt8) (h j : Nat) (hj : j < s.length), (fieldsO o h s)[j]? = some (fieldB o ((s.take j).foldl upH h) s[j])
  | c :: s, h, 0, _ => rfl
  | c :: s, h, j + 1, hj => by
    show (fieldsO o (upH h c) s)[j]? = _
    rw [fieldsO_get o s (upH h c) j (by simpa using hj)]
    rfl
/-- What a field reads as goes over by its letter. -/
def setS (o y : OpR) (h : Nat) (c : UInt8) : OpR :=
  if c = 97 then { y with a := o.a } else if c = 98 then { y with b := o.b } else if c = 105 then { y with i := o.i }
  else if c = 110 then (if h = 0 then { y with p := o.p } else if h = 1 then { y with f := o.f } else { y with g := o.g })
  else if c = 120 then { y with x := o.x } else if c = 100 then { y with x := o.x } else { y with q := o.q }
def stepS (o : OpR) (y : OpR × Nat) (c : UInt8) : OpR × Nat := (setS o y.1 y.2 c, upH y.2 c)
def readS (o : OpR) (s : List UInt8) : OpR × Nat := s.foldl (stepS o) (⟨o.k, 0, 0, 0, 0, 0, 0, 0, 0⟩, 0)
theorem readS_snoc (o : OpR) (s : List UInt8) (c : UInt8) : readS o (s ++ [c]) = stepS o (readS o s) c := by unfold readS; rw [List.foldl_append]; rfl
theorem readS_snd (o : OpR) : ∀ (s : List UInt8) (y : OpR × Nat), (s.foldl (stepS o) y).2 = s.foldl upH y.2
  | [], _ => rfl
  | c :: s, y => by show (s.foldl (stepS o) (stepS o y c)).2 = _; rw [readS_snd o s]; rfl
def okS (c : UInt8) : Bool := c = 97 || c = 98 || c = 105 || c = 110 || c = 120 || c = 100 || c = 102
theorem okS_cases {c : UInt8} (h : okS c = true) : c = 97 ∨ c = 98 ∨ c = 105 ∨ c = 110 ∨ c = 120 ∨ c = 100 ∨ c = 102 := by
  unfold okS at h
  simp only [Bool.or_eq_true, decide_eq_true_eq, or_assoc] at h
  exact h
theorem shS_ok (k : Int) (h : isK k = true) : ∀ c ∈ shS k, okS c = true := by
  rcases kind_cases h with rfl | rfl | rfl | rfl | rfl | rfl | rfl | rfl | rfl | rfl | rfl | rfl | rfl | rfl | rfl | rfl | rfl <;> decide
/-- No fourth header. -/
theorem shS_heads (k : Int) (h : isK k = true) : ∀ j, (h : j < (shS k).length) → (shS k)[j] = 110 → ((shS k).take j).foldl upH 0 < 3 := by
  rcases kind_cases h with rfl | rfl | rfl | rfl | rfl | rfl | rfl | rfl | rfl | rfl | rfl | rfl | rfl | rfl | rfl | rfl | rfl <;> decide
theorem shS_len (k : Int) (h : isK k = true) : (shS k).length ≤ 4 := by
  rcases kind_cases h with rfl | rfl | rfl | rfl | rfl | rfl | rfl | rfl | rfl | rfl | rfl | rfl | rfl | rfl | rfl | rfl | rfl <;> decide

/-- Right by the letters: a field that the kind has not is nought. -/
theorem right_fields {s : List UInt8} {o : OpR} (h : rightS s o = true) : (s.contains 97 = false → o.a = 0) ∧ (s.contains 98 = false → o.b = 0) ∧ (s.contains 105 = false → o.i = 0) ∧ (s.contains 119 = false → o.x = 0) ∧ (s.contains 102 = false → o.q = 0) ∧ (s.contains 104 = false → o.p = 0 ∧ o.f = 0 ∧ o.g = 0) := by
  unfold rightS badB at h
  simp only [Bool.and_eq_true, Bool.not_eq_true', Bool.or_eq_false_iff, Bool.or_eq_true, Bool.and_eq_false_iff, Bool.not_eq_false', bne_eq_false_iff_eq, beq_iff_eq] at h
  refine ⟨?_, ?_, ?_, ?_, ?_, ?_⟩ <;> intro hs <;> simp_all
theorem read_right (o : OpR) (hk : isK o.k = true) (h : rightS (shB o.k) o = true) : (readS o (shS o.k)).1 = o := by
  have hf := right_fields h
  clear h
  obtain ⟨k, a, b, i, p, f, g, x, q⟩ := o
  obtain ⟨h1, h2, h3, h4, h5, h6⟩ := hf
  simp only at h1 h2 h3 h4 h5 h6 hk ⊢
  rcases kind_cases hk with rfl | rfl | rfl | rfl | rfl | rfl | rfl | rfl | rfl | rfl | rfl | rfl | rfl | rfl | rfl | rfl | rfl
  all_goals
    first
    | (have e1 := h1 (by decide); subst e1)
    | skip
    first
    | (have e2 := h2 (by decide); subst e2)
    | skip
    first
    | (have e3 := h3 (by decide); subst e3)
    | skip
    first
    | (have e4 := h4 (by decide); subst e4)
    | skip
    first
    | (have e5 := h5 (by decide); subst e5)
    | skip
    first
    | (have e6 := h6 (by decide); obtain ⟨e6, e7, e8⟩ := e6; subst e6 e7 e8)
    | skip
    rfl

/-- Bytes that stand in a field. -/
def fine (c : UInt8) : Bool := decide (33 ≤ c.toNat)
theorem fine_sep {c : UInt8} (h : fine c = true) : ¬ (c = 32 ∨ c = 9) := by
  have := of_decide_eq_true h
  rintro (rfl | rfl) <;> exact absurd this (by decide)
theorem fine_lf {c : UInt8} (h : fine c = true) : c ≠ 10 := by
  have := of_decide_eq_true h
  rintro rfl; exact absurd this (by decide)
/-- A field. -/
def Fld (f : List UInt8) : Prop := f ≠ [] ∧ ∀ c ∈ f, fine c = true
theorem dig_fine {c : UInt8} (h : digV c < 16) : fine c = true := by
  refine decide_eq_true ?_
  unfold digV at h
  split at h
  · omega
  · split at h <;> omega
theorem fld_dig (b : Nat) (hb : 2 ≤ b) (hb2 : b ≤ 16) (u : Nat) : Fld (digB b u) := by
  obtain ⟨h1, _, h3, _⟩ := digB_facts b hb hb2 u
  exact ⟨h3, fun c hc => dig_fine (by have := h1 c hc; omega)⟩
theorem fld_cons {c : UInt8} {l : List UInt8} (hc : fine c = true) (h : ∀ d ∈ l, fine d = true) : Fld (c :: l) := by
  refine ⟨by simp, fun d hd => ?_⟩
  rcases List.mem_cons.1 hd with rfl | h2
  · exact hc
  · exact h d h2
theorem fld_ito (x : Int) : Fld (itoB x) := by
  unfold itoB
  split
  · exact fld_cons (by decide) (fld_dig 10 (by decide) (by decide) _).2
  · exact fld_dig 10 (by decide) (by decide) _
theorem fld_app {l m : List UInt8} (h : Fld l) (k : ∀ c ∈ m, fine c = true) : Fld (l ++ m) := by
  refine ⟨fun e => h.1 (List.append_eq_nil_iff.1 e).1, fun c hc => ?_⟩
  rcases List.mem_append.1 hc with h2 | h2
  · exact h.2 c h2
  · exact k c h2
theorem fld_core (b : Nat) : Fld (coreF b) := by
  unfold coreF
  rw [dec_digB, itoa_itoB]
  exact fld_app (fld_dig 10 (by decide) (by decide) _) (fld_cons (by decide) (fld_ito _).2).2
theorem fld_all {l : List UInt8} (h : (l != [] && l.all fine) = true) : Fld l := by
  rw [Bool.and_eq_true] at h
  exact ⟨by simpa using h.1, fun c hc => List.all_eq_true.1 h.2 c hc⟩
theorem fld_text (b : Nat) : Fld (textF b) := by
  unfold textF
  split
  · exact fld_all (by decide)
  · split
    · split <;> exact fld_all (by decide)
    · split
      · exact fld_cons (by decide) (fld_core b).2
      · exact fld_core b
theorem fld_field (o : OpR) (h : Nat) (c : UInt8) : Fld (fieldB o h c) := by
  unfold fieldB
  (repeat' split) <;> first | exact fld_ito _ | exact fld_dig 16 (by decide) (by decide) _ | exact fld_dig 10 (by decide) (by decide) _ | exact fld_text _
theorem fld_fields (o : OpR) : ∀ (s : List UInt8) (h : Nat), ∀ f ∈ fieldsO o h s, Fld f
  | [], _ => by intro f hf; cases hf
  | c :: s, h => by
    intro f hf
    rcases List.mem_cons.1 hf with rfl | h2
    · exact fld_field _ _ _
    · exact fld_fields o s _ f h2
theorem fld_name (k : Int) (h : isK k = true) : Fld (nmB k) := by
  rcases kind_cases h with rfl | rfl | rfl | rfl | rfl | rfl | rfl | rfl | rfl | rfl | rfl | rfl | rfl | rfl | rfl | rfl | rfl <;> exact fld_all (by decide)
theorem name_first (k : Int) (h : isK k = true) : ∃ c r, nmB k = c :: r ∧ c ≠ 35 := by
  rcases kind_cases h with rfl | rfl | rfl | rfl | rfl | rfl | rfl | rfl | rfl | rfl | rfl | rfl | rfl | rfl | rfl | rfl | rfl <;> exact ⟨_, _, rfl, by decide⟩
/-- An operation's line. -/
def put1 (f : List UInt8) : List UInt8 := 32 :: f
def lineB (o : OpR) : List UInt8 := nmB o.k ++ (fieldsO o 0 (shS o.k)).flatMap put1
theorem join_blank (n : List UInt8) (ls : List (List UInt8)) : Lib.join (n :: ls) [32] = n ++ ls.flatMap put1 := by
  rw [Lib.join_cons]
  unfold Lib.joinTail
  rw [List.flatMap]
  rfl
theorem fieldsR_blank : ∀ (ls : List (List UInt8)), (∀ f ∈ ls, Fld f) → ∀ now, fieldsR now (ls.flatMap put1) = flushR now ++ ls
  | [], _, now => by rw [List.flatMap_nil, fieldsR, List.append_nil]
  | f :: ls, h, now => by
    obtain ⟨h1, h2⟩ := h f List.mem_cons_self
    rw [List.flatMap_cons]
    show fieldsR now (32 :: (f ++ ls.flatMap put1)) = _
    rw [fieldsR, if_pos (.inl rfl), fieldsR_run f [] _ (fun c hc => fine_sep (h2 c hc)), List.nil_append, fieldsR_blank ls (fun g hg => h g (List.mem_cons_of_mem _ hg)) f]
    unfold flushR
    rw [if_neg h1]
    rfl
theorem line_fields (o : OpR) (hk : isK o.k = true) : fieldsR [] (lineB o) = nmB o.k :: fieldsO o 0 (shS o.k) := by
  obtain ⟨h1, h2⟩ := fld_name o.k hk
  unfold lineB
  rw [fieldsR_run _ _ _ (fun c hc => fine_sep (h2 c hc)), List.nil_append, fieldsR_blank _ (fld_fields o _ 0)]
  unfold flushR
  rw [if_neg h1]
  rfl
theorem line_lf (o : OpR) (hk : isK o.k = true) : ∀ c ∈ lineB o, c ≠ 10 := by
  intro c hc
  unfold lineB at hc
  rcases List.mem_append.1 hc with h | h
  · exact fine_lf ((fld_name o.k hk).2 c h)
  · obtain ⟨f, hf, hcf⟩ := List.mem_flatMap.1 h
    rcases List.mem_cons.1 hcf with rfl | h2
    · decide
    · exact fine_lf ((fld_fields o _ 0 f hf).2 c h2)
theorem linesR_cut : ∀ (m now r : List UInt8), (∀ c ∈ m, c ≠ 10) → linesR now (m ++ 10 :: r) = (now ++ m) :: linesR [] r
  | [], now, r, _ => by rw [List.nil_append, linesR, if_pos rfl, List.append_nil]
  | c :: m, now, r, h => by
    rw [List.cons_append, linesR, if_neg (h c List.mem_cons_self), linesR_cut m _ r (fun d hd => h d (List.mem_cons_of_mem _ hd))]
    simp
theorem linesR_all : ∀ (ls : List (List UInt8)), (∀ l ∈ ls, ∀ c ∈ l, c ≠ 10) → ∀ r, linesR [] (ls.flatMap putL ++ r) = ls ++ linesR [] r
  | [], _, r => rfl
  | l :: ls, h, r => by
    rw [List.flatMap_cons, putL, List.append_assoc, List.append_assoc]
    show linesR [] (l ++ 10 :: (ls.flatMap putL ++ r)) = _
    rw [linesR_cut l [] _ (h l List.mem_cons_self), linesR_all ls (fun m hm => h m (List.mem_cons_of_mem _ hm)) r]
    rfl
/-- The whole text of the law: an empty line, a remark, the lines of the operations, and blanks. -/
def allT (rem : List UInt8) (os : List OpR) : List UInt8 := [10, 32, 35] ++ rem ++ [10] ++ (os.map lineB).flatMap putL ++ [9, 32]
theorem all_lines (rem : List UInt8) (hr : ∀ c ∈ rem, c ≠ 10) (os : List OpR) (ho : ∀ o ∈ os, isK o.k = true) : linesR [] (allT rem os) = [] :: (32 :: 35 :: rem) :: (os.map lineB ++ [[9, 32]]) := by
  unfold allT
  rw [List.append_assoc, List.append_assoc, List.append_assoc]
  show linesR [] (10 :: ((32 :: 35 :: rem) ++ 10 :: ((os.map lineB).flatMap putL ++ [9, 32]))) = _
  rw [linesR, if_pos rfl, linesR_cut _ _ _ (by
    intro c hc
    rcases List.mem_cons.1 hc with rfl | hc
    · decide
    rcases List.mem_cons.1 hc with rfl | hc
    · decide
    exact hr c hc), linesR_all _ (by
    intro l hl
    obtain ⟨o, hm, rfl⟩ := List.mem_map.1 hl
    exact line_lf o (ho o hm))]
  rfl
theorem flush_none : fieldsR [] [] = [] := rfl
theorem fields_end : fieldsR [] [9, 32] = [] := by decide
/-- A remark's first field begins with its sign. -/
theorem fields_head : ∀ (l now : List UInt8) (c : UInt8), ∃ r ls, fieldsR (c :: now) l = (c :: r) :: ls
  | [], now, c => ⟨now, [], rfl⟩
  | d :: l, now, c => by
    rw [fieldsR]
    split
    · exact ⟨now, fieldsR [] l, rfl⟩
    · exact fields_head l (now ++ [d]) c
theorem fields_remark (rem : List UInt8) : ∃ r ls, fieldsR [] (32 :: 35 :: rem) = (35 :: r) :: ls := by
  rw [fieldsR, if_pos (.inl rfl), fieldsR, if_neg (by decide)]
  exact fields_head rem [] 35
end Go.Proofs.YtlcgmniahdngdaaGreatDoor

/- The walk of ops.Right. -/
namespace Go.Proofs.YtlcgmniahdngdaaGreatDoor
open Go.RowKit Go.Great

theorem ones9 (y : OpR) : ((#[.int .i64 y.k, .int .i64 y.a, .int .i64 y.b, .int .i64 y.i, .int .i64 y.p, .int .i64 y.f, .int .i64 y.g, .int .u64 (y.x : Int), .float .f64 y.q] : Array Value).all (·.oneCell') = true) :=
  Go.all_oneCell_toArray (cs := y.cells) (fun v hv => by unfold OpR.cells at hv; simp only [List.mem_cons, List.not_mem_nil, or_false] at hv; rcases hv with rfl | rfl | rfl | rfl | rfl | rfl | rfl | rfl | rfl <;> rfl)
theorem only_right (o : OpR) (hk : isK o.k = true) : (o.q == (onlyR o (shB o.k)).q && restB o (onlyR o (shB o.k))) = rightS (shB o.k) o := by
  obtain ⟨k, a, b, i, p, f, g, x, q⟩ := o
  simp only at hk ⊢
  rcases kind_cases hk with rfl | rfl | rfl | rfl | rfl | rfl | rfl | rfl | rfl | rfl | rfl | rfl | rfl | rfl | rfl | rfl | rfl <;> simp [shB, onlyR, setL, restB, rightS, badB] <;> grind
theorem right_whole (o : OpR) (is : Bool) (h : is = isK o.k) : (if is then (o.q == (onlyR o (shB o.k)).q && restB o (onlyR o (shB o.k))) else false) = (isK o.k && rightS (shB o.k) o) := by
  cases hk : isK o.k
  · rw [h, hk]; rfl
  · rw [h, hk, if_pos rfl, only_right o hk, Bool.true_and]
set_option maxRecDepth 100000 in
set_option maxHeartbeats 1600000 in
theorem oright_any (o : OpR) (w : World) : Calls Tryz.prog 25 #[o.val] w (RtPost w (isK o.k && rightS (shB o.k) o)) := by
  have HON := Lib.hid (fun w => only_any o w)
  have hr := right_whole o (isK o.k) rfl
  rw [← hr]
  clear hr
  have HSM := Lib.hid (fun w => osame_any o (onlyR o (shB o.k)) w)
  unfold OnPost at HON
  unfold OpR.val at *
  obtain ⟨c, hc⟩ : ∃ c, (o.q == (onlyR o (shB o.k)).q && restB o (onlyR o (shB o.k))) = c := ⟨_, rfl⟩
  rw [hc] at HSM ⊢
  clear hc
  generalize onlyR o (shB o.k) = y at *
  generalize isK o.k = is at *
  have HT : Hid (is = true → ∀ w', Fr (fun _ => False) w w' → RtPost w (if is then c else false) (.returned (.bool c)) w') := fun h w' hf => ⟨by rw [h]; rfl, hf⟩
  have HN : Hid (is = false → ∀ w', Fr (fun _ => False) w w' → RtPost w (if is then c else false) (.returned (.bool false)) w') := fun h w' hf => ⟨by rw [h]; rfl, hf⟩
  generalize (if is then c else false) = res at *
  go_enter Tryz.func25, Tryz.ntmps25
  go_upto_region 1 with fail
  have hb := Blk.new w [.int .i64 o.k, .int .i64 o.a, .int .i64 o.b, .int .i64 o.i, .int .i64 o.p, .int .i64 o.f, .int .i64 o.g, .int .u64 (o.x : Int), .float .f64 o.q] 32
  have hF := (Fr.refl (fun _ => False) w).alloc (.cells #[.int .i64 o.k, .int .i64 o.a, .int .i64 o.b, .int .i64 o.i, .int .i64 o.p, .int .i64 o.f, .int .i64 o.g, .int .u64 (o.x : Int), .float .f64 o.q] 32)
  generalize w.alloc (.cells #[.int .i64 o.k, .int .i64 o.a, .int .i64 o.b, .int .i64 o.i, .int .i64 o.p, .int .i64 o.f, .int .i64 o.g, .int .u64 (o.x : Int), .float .f64 o.q] 32) = W at *
  obtain ⟨p0, p1, p2, p3, p4, p5, p6, p7, p8⟩ := cells9 hb
  have HB := Lib.hid hb
  have HF := Lib.hid hF
  clear hb hF
  go_wp2_with fail
  refine (HON.out _).mono ?_
  rintro e w1 ⟨rfl, hf1⟩
  have HF1 := Lib.hid hf1
  clear hf1 p0 p1 p2 p3 p4 p5 p6 p7 p8
  have HS9 : Hid ((Tryz.prog.info? 32).map (·.size) = some 9) := by show _ = _; kernel_rfl
  have HONE : Hid ((#[.int .i64 y.k, .int .i64 y.a, .int .i64 y.b, .int .i64 y.i, .int .i64 y.p, .int .i64 y.f, .int .i64 y.g, .int .u64 (y.x : Int), .float .f64 y.q] : Array Value).all (·.oneCell') = true) := ones9 y
  go_upto_region 2 with (refine wpList_store_row rfl 32 _ _ rfl w1.heap.size #[.int .i64 y.k, .int .i64 y.a, .int .i64 y.b, .int .i64 y.i, .int .i64 y.p, .int .i64 y.f, .int .i64 y.g, .int .u64 (y.x : Int), .float .f64 y.q] rfl rfl 32 _ (heap_alloc_new _ _) HS9.out rfl HONE.out ?_)
  generalize hW2 : (World.alloc w1 _).setRow w1.heap.size _ = W2
  have hb2 : Blk W2 w1.heap.size y.cells 32 := by rw [← hW2]; exact setRow_heap _ _ _ _ _ _ (heap_alloc_new w1 _)
  have hf2 : Fr (fun _ => False) w1 W2 := by
    rw [← hW2]
    exact ((Fr.refl _ w1).alloc _).trans (S' := fun i => i = w1.heap.size) ⟨rfl, rfl, rfl, by simp, fun i _ h => setRow_other _ _ _ _ (fun e => h e)⟩ (fun i h => .inr (by omega))
  have hb0 : Blk W2 w.heap.size _ 32 := (HB.out.frame HF1.out (fun h => h)).frame hf2 (fun h => h)
  have HF2 := Lib.hid ((HF.out.then HF1.out).then hf2)
  clear hW2 hf2
  obtain ⟨p0, p1, p2, p3, p4, p5, p6, p7, p8⟩ := cells9 hb0
  obtain ⟨q0, q1, q2, q3, q4, q5, q6, q7, q8⟩ := cells9 hb2
  clear hb0 hb2 HB HF HF1 HONE HS9
  cases is
  · go_wp2
    go_ret
    exact HN.out trivial _ HF2.out
  · go_wp2_with fail
    refine (HSM.out _).mono ?_
    rintro e w3 ⟨rfl, hf3⟩
    have hf4 := HF2.out.then hf3
    clear p0 p1 p2 p3 p4 p5 p6 p7 p8 q0 q1 q2 q3 q4 q5 q6 q7 q8
    go_wp2
    go_ret
    exact HT.out trivial _ hf4
end Go.Proofs.YtlcgmniahdngdaaGreatDoor

/- What script.Line's loop keeps; its closure. -/
namespace Go.Proofs.YtlcgmniahdngdaaGreatDoor
open Go.RowKit Go.Great

/-- What the closure's call leaves: one string more in the row. -/
def AddPost (b : Nat) (v : Value) (n : Nat) (ls : List (List UInt8)) (l : List UInt8) (w : World) (e : Ending) (w' : World) : Prop :=
  e = .returned (.tuple #[]) ∧ ∃ v', Blk w' b [v'] 60 ∧ w'.ownsRow 0 9 1 v' (n + 1) (svals (ls ++ [l])) ∧ (∀ i, v'.ownBlock = some i → v.ownBlock = some i ∨ w.heap.size ≤ i) ∧ v'.ownBlock ≠ some b ∧ Fr (fun i => i = b ∨ v.ownBlock = some i) w w'
set_option maxRecDepth 100000 in
set_option maxHeartbeats 800000 in
theorem add_any (l : List UInt8) (b : Nat) (v : Value) (n : Nat) (ls : List (List UInt8)) (w : World) (hb : Blk w b [v] 60) (ho : w.ownsRow 0 9 1 v n (svals ls)) (hne : v.ownBlock ≠ some b) (hn : n ≤ 100) :
    Calls Tryz.prog 26 #[.string (bytesOf l), .pointer (some ⟨b, 0, none⟩)] w (AddPost b v n ls l w) := by
  obtain ⟨i0, hi, hz0, hz1, hz2⟩ := info_parts info_string
  obtain ⟨q, qc, rfl⟩ := srow_shape ho
  have hc := hb.cell 0 rfl
  have hlt := hb.lt
  have HB := Lib.hid hb
  have HO := Lib.hid ho
  have HNE := Lib.hid hne
  have HN := Lib.hid hn
  have HLT := Lib.hid hlt
  clear hb ho hne hn hlt
  generalize hS : bytesOf l = S at *
  have HS := Lib.hid hS
  clear hS
  go_enter Tryz.func26, Tryz.ntmps26
  go_wp2_with (at_builtin; refine Hid.out ?_)
  unfold Hid
  have hf0 : Fr (fun _ => False) w (w.alloc (.cells #[.string S] 9)) := (Fr.refl (fun _ => False) w).alloc _
  have hmax : n + 1 ≤ maxLen := by have := HN.out; unfold maxLen; omega
  have hbts : (n + 1) * 16 ≤ 140737488355328 := by have := HN.out; omega
  refine wpList_append_one rfl _ _ 60 rfl 9 i0 (.string ⟨#[]⟩) 16 Tryz.underlying60 hi hz0 hz1 hz2 rfl (.slice q n qc) n (svals ls) rfl (ownsRow_frame HO.out hf0 (fun _ _ h => h)) ⟨w.heap.size, 0, none⟩ _ (.string S) rfl ((Blk.new w [.string S] 9).cell 0 rfl) rfl hmax hbts ?_
  intro g cap' w1 ho1 hf1 hg1
  have hb1 := (HB.out.frame hf0 (fun h => h)).frame hf1 HNE.out
  have d0 := hb1.cell 0 rfl
  have e0 := hb1.free 0
  have hgb : g ≠ b := by
    rcases hg1 with h | h
    · intro e; exact HNE.out (by rw [h, e])
    · intro e; have := HLT.out; simp at h; omega
  have hfr : Fr (fun i => i = b ∨ (Value.slice q n qc).ownBlock = some i) w (w1.setCell ⟨b, 0, none⟩ (.slice (some ⟨g, 0, none⟩) (n + 1) cap')) :=
    ((hf0.mono (fun _ h => h.elim)).trans hf1 (fun i hi => .inl (.inr hi))).setCell ⟨b, 0, none⟩ (.inl (.inl rfl)) _
  have HEND : Hid (AddPost b (.slice q n qc) n ls l w (.returned (.tuple #[])) (w1.setCell ⟨b, 0, none⟩ (.slice (some ⟨g, 0, none⟩) (n + 1) cap'))) := by
    refine ⟨rfl, _, hb1.set 0 _, ?_, ?_, ?_, hfr⟩
    · have hx : svals (ls ++ [l]) = svals ls ++ [.string S] := by unfold svals; simp [HS.out]
      rw [hx]
      exact ownsRow_frame ho1 (((Fr.refl (fun i => i = b) w1).setCell ⟨b, 0, none⟩ (.inl rfl) _)) (fun k hk e => hgb (by simp [Value.ownBlock] at hk; omega))
    · intro i hi
      simp only [Value.ownBlock, Option.some.injEq] at hi
      subst hi
      rcases hg1 with h | h
      · exact .inl h
      · simp at h; exact .inr (by omega)
    · intro h; simp [Value.ownBlock] at h; exact hgb h
  clear hfr hb1 ho1 hf1 hg1 hgb
  go_wp2
  exact bodyPost_ret (results_none rfl _ _ _) rfl HEND.out

theorem step_store_mid {P : Program} {ops : Array Oper} {o : Oper} {a : Act} {w : World} {K : Act → World → Prop} {Q : Exit → Act → World → Prop} {E : Prop} (hgd : o.guard = none) (ty : TypeId) (x y : Operand) (ho : o.op = .store ty x y)
    (b off : Nat) (cells : Array Value) (hx : a.eval x = .pointer (some ⟨b, off, none⟩)) (hy : a.eval y = .agg cells)
    (ht : w.there b off cells.size) (hi : (P.info? ty).map (·.size) = some cells.size) (h1 : cells.all (·.oneCell') = true)
    (h : K (a.put o.dst undef) (w.setCells b off cells.toList)) : if Region.wanted o (yielded ops a.tmps) = true then Oper.wp P o a w K Q else E := by
  have hw : Region.wanted o (yielded ops a.tmps) = true := by simp [Region.wanted, hgd]
  rw [if_pos hw]
  exact wp_store_mid ty x y ho b off cells hx hy ht hi h1 h
theorem newOf {S : Nat → Prop} {a w : World} (_h : Fr S a w) (c : List Value) (t : TypeId) : Blk (w.alloc (.cells c.toArray t)) w.heap.size c t := Blk.new w c t
theorem Blk.there {w : World} {b : Nat} {c : List Value} {t : TypeId} (h : Blk w b c t) (n : Nat) (hn : n ≤ c.length) : w.there b 0 n := fun i hi => by
  rw [Nat.zero_add]
  exact ⟨by rw [h.cell i (List.getElem?_eq_getElem (by omega))]; rfl, h.free i⟩
theorem Blk.setCells {b : Nat} {t : TypeId} : ∀ (vs : List Value) (pre suf : List Value) {w : World}, Blk w b (pre ++ suf) t → vs.length ≤ suf.length → Blk (w.setCells b pre.length vs) b (pre ++ (vs ++ suf.drop vs.length)) t
  | [], pre, suf, _, h, _ => by simpa [World.setCells] using h
  | v :: r, pre, [], _, _, hl => by simp at hl
  | v :: r, pre, s :: suf, w, h, hl => by
    have h1 : Blk (w.setCell ⟨b, pre.length, none⟩ v) b ((pre ++ [v]) ++ suf) t := by
      have := h.set pre.length v
      rw [show (pre ++ s :: suf).set pre.length v = (pre ++ [v]) ++ suf by simp] at this
      exact this
    have h2 := Blk.setCells r (pre ++ [v]) suf h1 (by simpa using hl)
    rw [show (pre ++ [v]).length = pre.length + 1 by simp] at h2
    have e : pre ++ (v :: r ++ (s :: suf).drop (v :: r).length) = pre ++ [v] ++ (r ++ suf.drop r.length) := by simp
    rw [e]
    exact h2
theorem Blk.over {w : World} {b : Nat} {c vs : List Value} {t : TypeId} (h : Blk w b c t) (hl : vs.length = c.length) : Blk (w.setCells b 0 vs) b vs t := by
  have := Blk.setCells vs [] c h (by omega)
  rw [hl, List.drop_length, List.append_nil] at this
  exact this
/-- What stands behind the range's making: the operation, the headers, the row of strings and the iterator, at their blocks. -/
structure LnI (o : OpR) (nm sh : List UInt8) (w : World) (b1 g NB j : Nat) (v7 : Value) (wr : World) : Prop where
  it : wr.heap[NB + 1]? = some (.stringIter (bytesOf sh) j)
  x : Blk wr b1 o.cells 32
  hd : Blk wr NB [.int .i64 o.p, .int .i64 o.f, .int .i64 o.g] 3
  out : ∃ v, Blk wr (g + 1) [v] 60 ∧ wr.ownsRow 0 9 1 v (1 + j) (svals (nm :: fieldsO o 0 (sh.take j))) ∧ ∀ i, v.ownBlock = some i → i = g ∨ NB + 2 ≤ i
  h7 : ∀ hc, (sh.take j).foldl upH 0 = hc → hc < 3 → v7 = .slice (some ⟨NB, hc, none⟩) (3 - hc : Nat) (3 - hc : Nat)
  fr : Fr (fun _ => False) w wr
theorem lni_step {o : OpR} {nm sh : List UInt8} {w : World} {b1 g NB j : Nat} {v7 : Value} {wr : World} (h : LnI o nm sh w b1 g NB j v7 wr) (hg : NB = g + 2) (hb1 : b1 < g) (hw : w.heap.size ≤ b1) (hj : j < sh.length) (c : UInt8) (hcc : sh[j] = c) :
    ∃ v, Blk (wr.iterAt (NB + 1) (bytesOf sh) (j + 1)) (g + 1) [v] 60 ∧ (wr.iterAt (NB + 1) (bytesOf sh) (j + 1)).ownsRow 0 9 1 v (1 + j) (svals (nm :: fieldsO o 0 (sh.take j))) ∧ v.ownBlock ≠ some (g + 1) ∧
      Blk (wr.iterAt (NB + 1) (bytesOf sh) (j + 1)) b1 o.cells 32 ∧ Blk (wr.iterAt (NB + 1) (bytesOf sh) (j + 1)) NB [.int .i64 o.p, .int .i64 o.f, .int .i64 o.g] 3 ∧ Fr (fun _ => False) w (wr.iterAt (NB + 1) (bytesOf sh) (j + 1)) ∧
      ∀ (w2 w3 : World) (l : List UInt8) (e : Ending) (v7' : Value), Fr (fun _ => False) (wr.iterAt (NB + 1) (bytesOf sh) (j + 1)) w2 → l = fieldB o ((sh.take j).foldl upH 0) c →
        AddPost (g + 1) v (1 + j) (nm :: fieldsO o 0 (sh.take j)) l w2 e w3 → (∀ hc, upH ((sh.take j).foldl upH 0) c = hc → hc < 3 → v7' = .slice (some ⟨NB, hc, none⟩) (3 - hc : Nat) (3 - hc : Nat)) → LnI o nm sh w b1 g NB (j + 1) v7' w3 := by
  subst hcc
  obtain ⟨hit, hx, hhd, ⟨v, hv, hown, hbk⟩, h7, hfr⟩ := h
  have hlt : NB + 1 < wr.heap.size := (Array.getElem?_eq_some_iff.1 hit).1
  have hI : Fr (fun i => i = NB + 1) wr (wr.iterAt (NB + 1) (bytesOf sh) (j + 1)) := ⟨rfl, rfl, rfl, by rw [Lib.iterAt_size]; exact Nat.le_refl _, fun i _ hn => Lib.iterAt_other _ _ _ _ _ hn⟩
  have hown1 := ownsRow_frame hown hI (fun k hk e => by rcases hbk k hk with h | h <;> omega)
  have hv1 := hv.iterAt (k := NB + 1) (by omega) (bytesOf sh) (j + 1)
  have hx1 := hx.iterAt (k := NB + 1) (by omega) (bytesOf sh) (j + 1)
  have hd1 := hhd.iterAt (k := NB + 1) (by omega) (bytesOf sh) (j + 1)
  have hf1 := hfr.iterAt (k := NB + 1) (by omega) (bytesOf sh) (j + 1)
  have hit1 := Lib.iterAt_heap wr (NB + 1) (bytesOf sh) j (j + 1) hit
  have hsz1 : (wr.iterAt (NB + 1) (bytesOf sh) (j + 1)).heap.size = wr.heap.size := Lib.iterAt_size _ _ _ _
  refine ⟨v, hv1, hown1, fun e => by rcases hbk _ e with h | h <;> omega, hx1, hd1, hf1, ?_⟩
  rintro w2 w3 l e v7' hf2 hl ⟨_, v', h5, ho3, hbk3, _, hf3⟩ h7'
  have hnot : ∀ i, i = b1 ∨ i = NB ∨ i = NB + 1 → ¬ (i = g + 1 ∨ v.ownBlock = some i) := by
    intro i hi h
    rcases h with h | h
    · omega
    · rcases hbk _ h with h | h <;> omega
  have hs2 := hf2.size
  rw [hsz1] at hs2
  refine ⟨hf3.heap (hf2.heap hit1 (fun h => h)) (hnot _ (.inr (.inr rfl))), (hx1.frame hf2 (fun h => h)).frame hf3 (hnot _ (.inl rfl)), (hd1.frame hf2 (fun h => h)).frame hf3 (hnot _ (.inr (.inl rfl))), ⟨v', h5, ?_, ?_⟩, ?_, ?_⟩
  · rw [fieldsO_take o sh j hj, ← hl]
    exact ho3
  · intro i hi
    rcases hbk3 i hi with h | h
    · exact hbk i h
    · right; omega
  · intro hc e
    rw [← List.take_append_getElem hj, List.foldl_append] at e
    exact h7' hc e
  · refine (hf1.then hf2).trans hf3 (fun i hi => .inr ?_)
    rcases hi with h | h
    · omega
    · rcases hbk _ h with h | h <;> omega
theorem own_blk {w : World} {g cap n : Nat} {c xs : List Value} {e : TypeId} (h : Blk w g c e) (hc : c.length = cap) (hn : n ≤ cap) (hm : cap ≤ maxLen) (ht : c.take n = xs) : w.ownsRow 0 e 1 (.slice (some ⟨g, 0, none⟩) n cap) n xs := by
  have hl : xs.length = n := by rw [← ht, List.length_take]; omega
  exact ⟨by simp [hl], .inr ⟨g, cap, c.toArray, rfl, Nat.zero_le _, h, hn, hm, by simp [hc], by simpa using ht⟩⟩
theorem join_any (ls : List (List UInt8)) (v : Value) (n : Nat) (w : World) (ho : w.ownsRow 0 9 1 v n (svals ls)) (hne : ls ≠ []) (hl : ls.length ≤ 100) (hb : (Lib.join ls [32]).length ≤ 100000) :
    Calls Tryz.prog 31 #[v, .string ⟨#[32]⟩] w (StrIs w (Lib.join ls [32])) := by
  have hlen : (svals ls).length = n := by have := ho.1; simpa using this
  rw [svals_len] at hlen
  have hc := fun g (h : v.ownBlock = some g) => ho.cells (g := g)
  rcases ho.2 with ⟨rfl, h0⟩ | ⟨g, cap, cur, rfl, _, hg, hnc, hm, _⟩
  · exact absurd (List.eq_nil_of_length_eq_zero (by omega)) hne
  · have hcells : ∀ (j : Nat) x, (ls.map bytesOf)[j]? = some x → w.cell? ⟨g, 0 + j, none⟩ = some (.string x) := by
      intro j x hx
      have h1 := ho.cells (g := g) rfl j (.string x) (by
        unfold svals
        rw [List.getElem?_map] at hx ⊢
        cases hh : ls[j]? with
        | none => rw [hh] at hx; cases hx
        | some l => rw [hh] at hx; cases hx; rfl)
      have ha : (⟨g, 0, none⟩ : Addr).add j = ⟨g, 0 + j, none⟩ := by unfold Addr.add; split <;> simp_all
      rw [ha] at h1
      exact h1
    have hmap : (ls.map bytesOf).map (·.data.toList) = ls := by rw [List.map_map]; exact List.map_id _
    have hxl : (ls.map bytesOf).length = n := by rw [List.length_map]; exact hlen
    have h := Tryz.strings_Join g 0 cap (ls.map bytesOf) ⟨#[32]⟩ w hcells (Array.getElem?_eq_some_iff.1 hg).1 (by rw [hxl]; omega) (by rw [hxl]; omega) (by rw [hmap]; exact Nat.le_trans hb (by decide))
    rw [hxl, hmap] at h
    exact h.mono fun e w' ⟨he, hf⟩ => ⟨he, Fr.of_below hf⟩
theorem text_len (a : Nat) : (textF a).length ≤ 60 := by
  have h1 := digits_le (Nat.lt_trans (odd_lt a) (by decide : (9007199254740992 : Nat) < 18446744073709551616))
  have hx := exp_le a
  have h2 := itoa_le (x := expF a) (by omega)
  have hc : (coreF a).length ≤ 50 := by unfold coreF; rw [List.length_append, List.length_cons]; omega
  unfold textF
  split
  · decide
  · split
    · split <;> decide
    · split
      · rw [List.length_cons]; omega
      · omega
theorem ito_len {x : Int} (h : I64 x) : (itoB x).length ≤ 60 := by
  have := itoa_le (x := x) (by unfold I64 at h; omega)
  rw [itoa_itoB] at this; omega
theorem field_len (o : OpR) (ho : o.Ok) (h : Nat) (c : UInt8) : (fieldB o h c).length ≤ 60 := by
  have hx := hex_len ho.x
  have hd := digits_le ho.x
  rw [dec_digB] at hd
  unfold fieldB
  (repeat' split) <;> first | exact ito_len ho.a | exact ito_len ho.b | exact ito_len ho.i | exact ito_len ho.p | exact ito_len ho.f | exact ito_len ho.g | exact text_len _ | omega
theorem fields_len (o : OpR) (ho : o.Ok) : ∀ (s : List UInt8) (h : Nat), ((fieldsO o h s).flatMap put1).length ≤ 61 * s.length
  | [], _ => by simp [fieldsO]
  | c :: s, h => by
    show ((fieldB o h c :: fieldsO o (upH h c) s).flatMap put1).length ≤ _
    rw [List.flatMap_cons, List.length_append, put1, List.length_cons, List.length_cons]
    have := field_len o ho h c
    have := fields_len o ho s (upH h c)
    omega
theorem name_len (k : Int) (h : isK k = true) : (nmB k).length ≤ 7 := by
  rcases kind_cases h with rfl | rfl | rfl | rfl | rfl | rfl | rfl | rfl | rfl | rfl | rfl | rfl | rfl | rfl | rfl | rfl | rfl <;> decide
theorem line_len (o : OpR) (ho : o.Ok) (hk : isK o.k = true) : (lineB o).length ≤ 300 := by
  unfold lineB
  rw [List.length_append]
  have := name_len o.k hk
  have := fields_len o ho (shS o.k) 0
  have := shS_len o.k hk
  omega

def LnPost (w : World) (o : OpR) (e : Ending) (w' : World) : Prop := e = .returned (.tuple #[.string (bytesOf (lineB o)), .int .i64 0]) ∧ Fr (fun _ => False) w w'
def LnBad (w : World) (e : Ending) (w' : World) : Prop := e = .returned (.tuple #[.string ⟨#[]⟩, .int .i64 5]) ∧ Fr (fun _ => False) w w'
end Go.Proofs.YtlcgmniahdngdaaGreatDoor
