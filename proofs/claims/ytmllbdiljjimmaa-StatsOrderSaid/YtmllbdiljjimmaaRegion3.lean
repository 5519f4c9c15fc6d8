/- Plain laws on regions that draw their order: a head that yields one value each, and a tail in one order whose steps may come between the head's. -/
import Derived.Test.YtmllbdiljjimmaaRegion2
namespace Go.Proofs.Ytmllbdiljjimmaa
open Go.RowKit

section
variable {P : Program} {ops : Array Oper} {md : Region.Mode} {C : Nat → World → Prop}

/-- What an operation comes to: the value v, and a world of the class D. -/
def stepUpon (P : Program) (D : World → Prop) (w : World) (v : Value) : Result Next → Prop
  | .ok (.value u) w' => D w' ∧ u = v
  | .ok .skip w' => D w' ∧ v = undef
  | .ok (.enter f args) w' => w' = w ∧ Calls P f args w (fun e w'' => e = .returned v ∧ D w'')
  | _ => False
def stepAt (P : Program) (o : Oper) (a : Act) (D : World → Prop) (w : World) (v : Value) : Prop := stepUpon P D w v ((execOp a.eval o).run P w)
/-- An operation of the head: one value, and the class stays, whichever it is. -/
def headOp (P : Program) (o : Oper) (a : Act) (C : Nat → World → Prop) (next : Act → Prop) : Prop := ∃ v, (∀ s w, C s w → stepAt P o a (C s) w v) ∧ next (a.put o.dst v)
/-- An operation of the tail: one value, and the next class. -/
def tailOp (P : Program) (o : Oper) (a : Act) (C : Nat → World → Prop) (s : Nat) (next : Act → Prop) : Prop := ∃ v, (∀ w, C s w → stepAt P o a (C (s + 1)) w v) ∧ next (a.put o.dst v)

/-- The lexical walk of the tail. -/
def wpTail (P : Program) (ops : Array Oper) (C : Nat → World → Prop) (Q : Act → Prop) : List Oper → Nat → Act → Prop
  | [], _, a => Q a
  | o :: rest, s, a => Region.wanted o (yielded ops a.tmps) = true ∧ tailOp P o a C s (wpTail P ops C Q rest (s + 1))
/-- The lexical walk of the head. -/
def wpHead (P : Program) (ops : Array Oper) (C : Nat → World → Prop) (Q : Act → Prop) : List Oper → Act → Prop
  | [], a => Q a
  | o :: rest, a => if Region.wanted o (yielded ops a.tmps) then headOp P o a C (wpHead P ops C Q rest) else wpHead P ops C Q rest (a.put o.dst undef)

/-- Operation number i in state s: of the head, or the tail's next. -/
def sOp (P : Program) (ops : Array Oper) (C : Nat → World → Prop) (n i s : Nat) (K : Nat → Act → Prop) (a : Act) : Prop :=
  match ops[i]? with
  | none => False
  | some o => if i < n then (if Region.wanted o (yielded ops a.tmps) then headOp P o a C (K s) else K s (a.put o.dst undef))
    else Region.wanted o (yielded ops a.tmps) = true ∧ tailOp P o a C s (K (s + 1))

theorem sOp_mono {n i s : Nat} {a : Act} {K K' : Nat → Act → Prop} (h : ∀ s a, K s a → K' s a) (hh : sOp P ops C n i s K a) : sOp P ops C n i s K' a := by
  unfold sOp at *
  split
  · rename_i ho; simp only [ho] at hh
  · rename_i o ho
    simp only [ho] at hh
    split
    · rename_i hin
      rw [if_pos hin] at hh
      split
      · rename_i hw
        simp only [hw, if_true] at hh
        obtain ⟨v, h1, h2⟩ := hh
        exact ⟨v, h1, h _ _ h2⟩
      · rename_i hw; simp only [hw] at hh; exact h _ _ hh
    · rename_i hin
      rw [if_neg hin] at hh
      obtain ⟨h0, v, h1, h2⟩ := hh
      exact ⟨h0, v, h1, h _ _ h2⟩

theorem wp_of_step {o : Oper} {a : Act} {D : World → Prop} {K' : Act → World → Prop} {Q' : Exit → Act → World → Prop} {w : World} {v : Value} (h : stepAt P o a D w v) (hk : ∀ w', D w' → K' (a.put o.dst v) w') : o.wp P a w K' Q' := by
  unfold stepAt at h
  unfold Oper.wp
  generalize (execOp a.eval o).run P w = r at *
  cases r with
  | ok n w' =>
    cases n <;> simp only [stepUpon] at h <;> simp only [Oper.upon]
    case value u =>
      obtain ⟨e1, e2⟩ := h
      rw [e2]
      exact hk _ e1
    case skip =>
      obtain ⟨e1, e2⟩ := h
      rw [← e2]
      exact hk _ e1
    case enter f args =>
      obtain ⟨e1, hc⟩ := h
      rw [e1]
      exact hc.mono fun e w'' ⟨he, hw''⟩ => by subst he; exact hk _ hw''
  | halt x w' => simp only [stepUpon] at h

theorem wpOp_of_sOp {n i s : Nat} {a : Act} {K : Nat → Act → Prop} {K' : Act → World → Prop} {Q' : Exit → Act → World → Prop} {w : World} (hC : C s w) (h1 : i < n → ∀ a w', C s w' → K s a → K' a w') (h2 : ¬ i < n → ∀ a w', C (s + 1) w' → K (s + 1) a → K' a w')
    (hh : sOp P ops C n i s K a) : wpOp P ops Q' i K' a w := by
  unfold sOp at hh
  unfold wpOp
  split
  · rename_i ho; simp only [ho] at hh
  · rename_i o ho
    simp only [ho] at hh
    by_cases hin : i < n
    · rw [if_pos hin] at hh
      split
      · rename_i hw
        simp only [hw, if_true] at hh
        obtain ⟨v, g1, g2⟩ := hh
        exact .inl (wp_of_step (g1 s w hC) fun w' hw' => h1 hin _ _ hw' g2)
      · rename_i hw; simp only [hw] at hh; exact h1 hin _ _ hC hh
    · rw [if_neg hin] at hh
      obtain ⟨g0, v, g1, g2⟩ := hh
      rw [if_pos g0]
      exact .inl (wp_of_step (g1 w hC) fun w' hw' => h2 hin _ _ hw' g2)

/-- Whatever order is picked from here on. -/
def anyS (P : Program) (md : Region.Mode) (ops : Array Oper) (C : Nat → World → Prop) (n : Nat) (L : Nat → Act → Prop) : Nat → Nat → Array Bool → Act → Prop
  | 0, s, listed, a => Region.ready md ops listed = [] ∧ L s a
  | f + 1, s, listed, a => Region.ready md ops listed ≠ [] ∧ ∀ i ∈ Region.ready md ops listed, sOp P ops C n i s (fun s' a' => anyS P md ops C n L f s' (listed.setIfInBounds i true) a') a

set_option linter.unusedVariables false in
theorem wpAny_of_anyS {n : Nat} {L : Nat → Act → Prop} {Q' : Exit → Act → World → Prop} (hL : ∀ s a w, C s w → L s a → Q' .normal a w) :
    ∀ (f s : Nat) (listed : Array Bool) (a : Act) (w : World), C s w → anyS P md ops C n L f s listed a → wpAny P md ops Q' f listed a w
  | 0, s, listed, a, w, hw, h => ⟨h.1, hL s a w hw h.2⟩
  | f + 1, s, listed, a, w, hw, h =>
    ⟨fun h0 => absurd h0 h.1, fun i hi => wpOp_of_sOp hw (fun _ a' w' hw' h' => wpAny_of_anyS hL f _ _ a' w' hw' h') (fun _ a' w' hw' h' => wpAny_of_anyS hL f _ _ a' w' hw' h') (h.2 i hi)⟩

def YieldsS (P : Program) (ops : Array Oper) (C : Nat → World → Prop) (o : Oper) (v : Value) (a : Act) : Prop :=
  (Region.wanted o (yielded ops a.tmps) = true ∧ ∀ s w, C s w → stepAt P o a (C s) w v) ∨ (Region.wanted o (yielded ops a.tmps) = false ∧ v = undef)
theorem YieldsS.sOp {n i s : Nat} {o : Oper} {v : Value} {a : Act} (hin : i < n) (hi : ops[i]? = some o) (hy : YieldsS P ops C o v a) {K : Nat → Act → Prop} (h : K s (a.put o.dst v)) : sOp P ops C n i s K a := by
  unfold Go.Proofs.Ytmllbdiljjimmaa.sOp
  simp only [hi]
  rw [if_pos hin]
  rcases hy with ⟨hw, hv⟩ | ⟨hw, rfl⟩
  · simp only [hw, if_true]; exact ⟨v, hv, h⟩
  · simp only [hw, Bool.false_eq_true, if_false]; exact h
theorem YieldsS.of_same {o : Oper} {v : Value} {a a' : Act} (hy : YieldsS P ops C o v a) (he : execOp a'.eval o = execOp a.eval o)
    (hw : Region.wanted o (yielded ops a'.tmps) = Region.wanted o (yielded ops a.tmps)) : YieldsS P ops C o v a' := by
  unfold YieldsS stepAt at *
  rw [he, hw]
  exact hy

theorem sOp_put {n j s : Nat} {oi oj : Oper} {v : Value} (hj : ops[j]? = some oj) (hap : oi.apart ops oj = true)
    (hsi : ∀ cs b, oi.op ≠ .select cs b) (hsj : ∀ cs b, oj.op ≠ .select cs b) {K : Nat → Act → Prop} {a : Act}
    (hy : YieldsS P ops C oi v a) (h : sOp P ops C n j s K (a.put oi.dst v)) :
    sOp P ops C n j s (fun s' a' => YieldsS P ops C oi v a' ∧ K s' (a'.put oi.dst v)) a := by
  obtain ⟨h1, h2, h3⟩ := Oper.apart_spec hap
  have keep : ∀ (a : Act), YieldsS P ops C oi v a → ∀ u, YieldsS P ops C oi v (a.put oj.dst u) := fun a hy u =>
    hy.of_same (execOp_put oi hsi a oj.dst u h3) (wanted_put oi a oj.dst u h3)
  unfold sOp at *
  simp only [hj] at *
  rw [wanted_put oj a oi.dst v h1] at h
  by_cases hin : j < n
  · rw [if_pos hin] at h ⊢
    split
    · rename_i hw
      simp only [hw, if_true] at h
      obtain ⟨u, hu, hn⟩ := h
      refine ⟨u, fun s w hw' => ?_, keep a hy u, by rw [← Act.put_comm a v u h2]; exact hn⟩
      have := hu s w hw'
      unfold stepAt at *
      rwa [execOp_put oj hsj a oi.dst v h1] at this
    · rename_i hw
      simp only [hw] at h
      exact ⟨keep a hy _, by rw [← Act.put_comm a v undef h2]; exact h⟩
  · rw [if_neg hin] at h ⊢
    obtain ⟨h0, u, hu, hn⟩ := h
    refine ⟨h0, u, fun w hw' => ?_, keep a hy u, by rw [← Act.put_comm a v u h2]; exact hn⟩
    have := hu w hw'
    unfold stepAt at *
    rwa [execOp_put oj hsj a oi.dst v h1] at this

theorem anyS_first {n i : Nat} {oi : Oper} {v : Value} {L : Nat → Act → Prop} (hin : i < n) (hi : ops[i]? = some oi) (hsel : ∀ (j : Nat) (o : Oper) cs b, ops[j]? = some o → o.op ≠ .select cs b) :
    ∀ (f s : Nat) (listed : Array Bool) (a : Act),
      (∀ j oj, ops[j]? = some oj → j ≠ i → listed.getD j true = false → (∀ e ∈ oj.after, Region.binds md e = true → e.on ≠ i) → oi.apart ops oj = true) →
      i ∈ Region.ready md ops listed → YieldsS P ops C oi v a →
      anyS P md ops C n L f s (listed.setIfInBounds i true) (a.put oi.dst v) → anyS P md ops C n L (f + 1) s listed a := by
  intro f
  induction f with
  | zero =>
    intro s listed a _ hr hy H
    refine ⟨fun h => (by rw [h] at hr; cases hr), fun j hj => ?_⟩
    by_cases hji : j = i
    · subst hji; exact hy.sOp hin hi H
    · have := ready_mono hj hji
      rw [H.1] at this
      cases this
  | succ f ih =>
    intro s listed a hfree hr hy H
    refine ⟨fun h => (by rw [h] at hr; cases hr), fun j hj => ?_⟩
    by_cases hji : j = i
    · subst hji; exact hy.sOp hin hi H
    · have h1 := H.2 j (ready_mono hj hji)
      obtain ⟨hjun, oj, hoj, hall⟩ := mem_ready.1 hj
      have hun := (mem_ready.1 hr).1
      have hnot : ∀ e ∈ oj.after, Region.binds md e = true → e.on ≠ i := fun e he hb heq => by
        have h1 := hall e he hb
        rw [heq, getD_both hun] at h1
        cases h1
      have h2 := sOp_put hoj (hfree j oj hoj hji hjun hnot) (fun cs b => hsel i oi cs b hi) (fun cs b => hsel j oj cs b hoj) hy h1
      have hfree' : ∀ k ok, ops[k]? = some ok → k ≠ i → (listed.setIfInBounds j true).getD k true = false →
          (∀ e ∈ ok.after, Region.binds md e = true → e.on ≠ i) → oi.apart ops ok = true := fun k ok hk hki hun hno => by
        refine hfree k ok hk hki ?_ hno
        by_cases hjk : j = k
        · subst hjk; exact hjun
        · rw [getD_set_ne true hjk] at hun; exact hun
      refine sOp_mono (fun s' a' h3 => ih s' (listed.setIfInBounds j true) a' hfree' (ready_mono hr (Ne.symm hji)) h3.1 ?_) h2
      rw [Array.setIfInBounds_comm _ _ hji]
      exact h3.2

theorem anyS_tail {n : Nat} {L : Nat → Act → Prop} : ∀ (l : List Oper) (k s : Nat) (listed : Array Bool) (a : Act), n ≤ k → (∀ j, l[j]? = ops[k + j]?) →
    Region.seqB md ops l.length k listed = true → wpTail P ops C (L (s + l.length)) l s a → anyS P md ops C n L l.length s listed a
  | [], k, s, listed, a, _, _, hB, h => ⟨by simpa [Region.seqB] using hB, h⟩
  | o :: l, k, s, listed, a, hk, hl, hB, h => by
    have h0 : ops[k]? = some o := by simpa using (hl 0).symm
    simp only [List.length_cons, Region.seqB, Bool.and_eq_true, decide_eq_true_eq] at hB
    refine ⟨fun h1 => (by rw [hB.1] at h1; cases h1), fun i hi => ?_⟩
    rw [hB.1] at hi
    have hik : i = k := by simpa using hi
    subst hik
    unfold sOp
    simp only [h0]
    rw [if_neg (by omega)]
    obtain ⟨g0, v, g1, g2⟩ := h
    refine ⟨g0, v, g1, ?_⟩
    refine anyS_tail l (i + 1) (s + 1) _ _ (by omega) (fun j => by have := hl (j + 1); simpa [Nat.add_assoc, Nat.add_comm 1 j] using this) hB.2 ?_
    rw [List.length_cons, show s + (l.length + 1) = s + 1 + l.length by omega] at g2
    exact g2

theorem anyS_lex {n g : Nat} {L : Nat → Act → Prop} {Lt : List Oper} (hsel : Region.noSelect ops = true) (hLt : ∀ j, Lt[j]? = ops[n + j]?) (hg : Lt.length = g) :
    ∀ (l : List Oper) (k : Nat) (listed : Array Bool) (a : Act), (∀ j, j < l.length → l[j]? = ops[k + j]?) → k + l.length = n →
    Region.lexHead md ops g l.length k listed = true → wpHead P ops C (fun a' => wpTail P ops C (L g) Lt 0 a') l a →
    anyS P md ops C n L (l.length + g) 0 listed a
  | [], k, listed, a, _, hk, hB, h => by
    have : k = n := by simpa using hk
    subst this
    have h1 := anyS_tail (md := md) (C := C) (P := P) (L := L) Lt k 0 listed a (Nat.le_refl _) hLt (by rw [hg]; simpa [Region.lexHead] using hB) (by rw [hg, Nat.zero_add]; exact h)
    rw [hg] at h1
    rw [List.length_nil, Nat.zero_add]
    exact h1
  | o :: l, k, listed, a, hl, hk, hB, h => by
    have h0 : ops[k]? = some o := by simpa using (hl 0 (by simp)).symm
    rw [List.length_cons, Region.lexHead] at hB
    simp only [Bool.and_eq_true] at hB
    obtain ⟨⟨hr, hf⟩, hB'⟩ := hB
    have hkn : k < n := by simp only [List.length_cons] at hk; omega
    have hr' : k ∈ Region.ready md ops listed := by simpa using hr
    have hst : ∃ v, YieldsS P ops C o v a ∧ wpHead P ops C (fun a' => wpTail P ops C (L g) Lt 0 a') l (a.put o.dst v) := by
      unfold wpHead at h
      by_cases hw : Region.wanted o (yielded ops a.tmps) = true
      · simp only [hw, if_true] at h
        obtain ⟨v, h1, h2⟩ := h
        exact ⟨v, .inl ⟨hw, h1⟩, h2⟩
      · simp only [hw] at h
        exact ⟨undef, .inr ⟨by simpa using hw, rfl⟩, h⟩
    obtain ⟨v, hy, hK⟩ := hst
    have := anyS_first hkn h0 (Region.noSelect_spec hsel) (l.length + g) 0 listed a (Region.free_spec h0 hf) hr' hy
      (anyS_lex hsel hLt hg l (k + 1) _ _ (fun j hj => by have := hl (j + 1) (by simp; omega); simpa [Nat.add_assoc, Nat.add_comm 1 j] using this) (by simp only [List.length_cons] at hk; omega) hB' hK)
    rw [List.length_cons, show l.length + 1 + g = l.length + g + 1 by omega]
    exact this

/-- May the first n operations be taken in the text's order, and do the others then follow one by one? -/
def lexStepsB (ops : Array Oper) (n : Nat) : Bool := Region.noSelect ops && decide (n ≤ ops.size) && Region.lexHead .any ops (ops.size - n) n 0 (Array.replicate ops.size false)

/-- A region that draws its order: the head's n operations yield one value each in whatever class; the tail's operations lead from class to class. -/
theorem region_steps {id : Nat} {Q : Exit → Act → World → Prop} {a : Act} {w : World} {l : List Oper} (C : Nat → World → Prop) (n : Nat) (hm : P.follows .mixedOrders = true) (hB : lexStepsB l.toArray n = true) (hC : C 0 w.drew)
    (h : wpHead P l.toArray C (fun a' => wpTail P l.toArray C (fun a'' => ∀ w', C (l.length - n) w' → Q .normal a'' w') (l.drop n) 0 a') (l.take n) a) : (Code.region id l.toArray true).wp P Q a w := by
  simp only [lexStepsB, Bool.and_eq_true, decide_eq_true_eq] at hB
  obtain ⟨⟨hsel, hn⟩, hlex⟩ := hB
  have hn' : n ≤ l.length := by simpa using hn
  have htl : (l.take n).length = n := by simp; omega
  have hsz : l.toArray.size = l.length := by simp
  have hdl : (l.drop n).length = l.length - n := by simp
  rw [hsz] at hlex
  have H := anyS_lex (md := .any) (P := P) (C := C) (g := l.length - n) (L := fun s a'' => ∀ w', C s w' → Q .normal a'' w') (Lt := l.drop n) (n := n) hsel (fun j => by simp [List.getElem?_drop]) hdl (l.take n) 0 (Array.replicate l.length false) a (fun j hj => by
    have hj' : j < n := by rw [htl] at hj; exact hj
    simp [hj']) (by simpa using htl) (by rw [htl]; exact hlex) h
  refine wp_region_any hm ?_
  rw [hsz]
  have h2 := wpAny_of_anyS (Q' := Q) (md := .any) (L := fun s a'' => ∀ w', C s w' → Q .normal a'' w') (fun s a' w' hw hL => hL w' hw) _ 0 _ a w.drew hC H
  rw [htl, show n + (l.length - n) = l.length by omega] at h2
  exact h2

/-! ### One operation of such a region -/
variable {Q : Act → Prop} {a : Act} {o : Oper} {rest : List Oper} {s : Nat}
/-- A whole array stored. -/
theorem run_put_row {ty : TypeId} {x y : Operand} (ho : o.op = .store ty x y) (g : Nat) (cells : Array Value) (hx : a.eval x = .pointer (some ⟨g, 0, none⟩)) (hy : a.eval y = .agg cells)
    (t : TypeId) (old : Array Value) {w : World} (hg : w.heap[g]? = some (.cells old t (0, 0))) (hi : (P.info? ty).map (·.size) = some cells.size) (hold : old.size = cells.size) (h1 : cells.all (·.oneCell') = true) :
    (execOp a.eval o).run P w = .ok .skip (w.setRow g cells) := by
  unfold execOp
  simp only [ho, hx, hy, Instr.storeAt, Instr.sureAddr, Sem.run_bind, Sem.run_pure, Result.andThen_ok, run_storeVar_row w g t ty old cells hg hi hold h1]
theorem results_cell2_tmp4 {fn : Func} {p q : Tmp} {ty : TypeId} {i j k l : Tmp} (h : fn.results = #[.cell p ty, .cell q ty, .tmp i, .tmp j, .tmp k, .tmp l]) (tmps : Array Value) (w : World) (g1 g2 : Nat) (t1 t2 : TypeId) (c1 c2 : Array Value) (f1 f2 : Nat × Nat) (d : TypeDesc) (v1 v2 v3 v4 : Value)
    (hp : tmps.getD p undef = .pointer (some ⟨g1, 0, none⟩)) (hq : tmps.getD q undef = .pointer (some ⟨g2, 0, none⟩)) (e1 : tmps.getD i undef = v1) (e2 : tmps.getD j undef = v2) (e3 : tmps.getD k undef = v3) (e4 : tmps.getD l undef = v4)
    (hg1 : w.heap[g1]? = some (.cells c1 t1 f1)) (hg2 : w.heap[g2]? = some (.cells c2 t2 f2))
    (hu : P.underlying ty = some d) (hd : (match d with | .struct _ | .array _ _ => true | _ => false) = true) (hi1 : (P.info? ty).map (·.size) = some c1.size) (hi2 : (P.info? ty).map (·.size) = some c2.size) :
    (results fn tmps).run P w = .ok (.tuple #[.agg c1, .agg c2, v1, v2, v3, v4]) w := by
  have hp' : tmps[p]?.getD undef = .pointer (some ⟨g1, 0, none⟩) := by simpa using hp
  have hq' : tmps[q]?.getD undef = .pointer (some ⟨g2, 0, none⟩) := by simpa using hq
  have e1' : tmps[i]?.getD undef = v1 := by simpa using e1
  have e2' : tmps[j]?.getD undef = v2 := by simpa using e2
  have e3' : tmps[k]?.getD undef = v3 := by simpa using e3
  have e4' : tmps[l]?.getD undef = v4 := by simpa using e4
  simp [results, h, hp', hq', e1', e2', e3', e4', asAddr, run_loadVar_row w g1 t1 ty c1 f1 d hg1 hu hd hi1, run_loadVar_row w g2 t2 ty c2 f2 d hg2 hu hd hi2]
theorem step_value {D : World → Prop} {w : World} (v : Value) (hr : (execOp a.eval o).run P w = .ok (.value v) w) (hD : D w) : stepAt P o a D w v := by
  unfold stepAt; rw [hr]; exact ⟨hD, rfl⟩
theorem step_skip {D : World → Prop} {w : World} (w' : World) (hr : (execOp a.eval o).run P w = .ok .skip w') (hD : D w') : stepAt P o a D w undef := by
  unfold stepAt; rw [hr]; exact ⟨hD, rfl⟩
theorem step_call {D : World → Prop} {w : World} (v : Value) (f : FuncId) (args : Array Value) (hr : (execOp a.eval o).run P w = .ok (.enter f args) w) (hc : Calls P f args w fun e w' => e = .returned v ∧ D w') : stepAt P o a D w v := by
  unfold stepAt; rw [hr]; exact ⟨rfl, hc⟩
theorem head_nil (h : Q a) : wpHead P ops C Q [] a := h
theorem tail_nil (h : Q a) : wpTail P ops C Q [] s a := h
theorem head_run (v : Value) (hg : o.guard = none) (hr : ∀ s w, C s w → stepAt P o a (C s) w v) (h : wpHead P ops C Q rest (a.put o.dst v)) : wpHead P ops C Q (o :: rest) a := by
  unfold wpHead
  rw [if_pos (by unfold Region.wanted; rw [hg])]
  exact ⟨v, hr, h⟩
theorem head_runG (v : Value) (hg : Region.wanted o (yielded ops a.tmps) = true) (hr : ∀ s w, C s w → stepAt P o a (C s) w v) (h : wpHead P ops C Q rest (a.put o.dst v)) : wpHead P ops C Q (o :: rest) a := by
  unfold wpHead
  rw [if_pos hg]
  exact ⟨v, hr, h⟩
theorem head_skipG (hg : Region.wanted o (yielded ops a.tmps) = false) (h : wpHead P ops C Q rest (a.put o.dst undef)) : wpHead P ops C Q (o :: rest) a := by
  unfold wpHead
  rw [if_neg (by rw [hg]; exact Bool.false_ne_true)]
  exact h
theorem tail_run (v : Value) (hg : o.guard = none) (hr : ∀ w, C s w → stepAt P o a (C (s + 1)) w v) (h : wpTail P ops C Q rest (s + 1) (a.put o.dst v)) : wpTail P ops C Q (o :: rest) s a :=
  ⟨by unfold Region.wanted; rw [hg], v, hr, h⟩
end
end Go.Proofs.Ytmllbdiljjimmaa
