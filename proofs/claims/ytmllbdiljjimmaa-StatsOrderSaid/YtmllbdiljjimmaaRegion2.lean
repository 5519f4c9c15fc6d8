/- Plain laws on regions that draw their order: a head that yields one value each in classes of worlds, one new block made somewhere among it, and then a tail in one order. -/
import Derived.Test.YtmllbdiljjimmaaRegion
namespace Go.Proofs.Ytmllbdiljjimmaa
open Go.RowKit

section
variable {P : Program} {ops : Array Oper} {md : Region.Mode} {C : Option Nat → World → Prop}

/-- One value, in every world of every class. -/
def quietJ (P : Program) (o : Oper) (a : Act) (C : Option Nat → World → Prop) (next : Act → Prop) : Prop := ∃ v, (∀ s w, C s w → o.quietAt P a (C s) w v) ∧ next (a.put o.dst v)

/-- The lexical walk. -/
def wpJ (P : Program) (ops : Array Oper) (C : Option Nat → World → Prop) (Q : Act → Prop) : List Oper → Act → Prop
  | [], a => Q a
  | o :: rest, a => if Region.wanted o (yielded ops a.tmps) then quietJ P o a C (wpJ P ops C Q rest) else wpJ P ops C Q rest (a.put o.dst undef)

def jOp (P : Program) (ops : Array Oper) (C : Option Nat → World → Prop) (i : Nat) (K : Act → Prop) (a : Act) : Prop :=
  match ops[i]? with
  | none => K a
  | some o => if Region.wanted o (yielded ops a.tmps) then quietJ P o a C K else K (a.put o.dst undef)

theorem jOp_mono {i : Nat} {a : Act} {K K' : Act → Prop} (h : ∀ a, K a → K' a) (hh : jOp P ops C i K a) : jOp P ops C i K' a := by
  unfold jOp at *
  split
  · exact h _ (by simpa [*] using hh)
  · rename_i o ho
    simp only [ho] at hh
    split
    · rename_i hw
      simp only [hw, if_true] at hh
      obtain ⟨v, h1, h2⟩ := hh
      exact ⟨v, h1, h _ h2⟩
    · rename_i hw; simp only [hw] at hh; exact h _ hh

theorem qOp_of_jOp {i : Nat} {a : Act} {K : Act → Prop} (s : Option Nat) (h : jOp P ops C i K a) : qOp P ops (C s) i K a := by
  unfold jOp at h
  unfold qOp
  split
  · rename_i ho; simpa only [ho] using h
  · rename_i o ho
    simp only [ho] at h
    split
    · rename_i hw
      simp only [hw, if_true] at h
      obtain ⟨v, h1, h2⟩ := h
      exact ⟨v, h1 s, h2⟩
    · rename_i hw; simp only [hw] at h; exact h

def YieldsJ (P : Program) (ops : Array Oper) (C : Option Nat → World → Prop) (o : Oper) (v : Value) (a : Act) : Prop :=
  (Region.wanted o (yielded ops a.tmps) = true ∧ ∀ s w, C s w → o.quietAt P a (C s) w v) ∨ (Region.wanted o (yielded ops a.tmps) = false ∧ v = undef)

theorem YieldsJ.jOp {i : Nat} {o : Oper} {v : Value} {a : Act} (hi : ops[i]? = some o) (hy : YieldsJ P ops C o v a) {K : Act → Prop} (h : K (a.put o.dst v)) : jOp P ops C i K a := by
  unfold Go.Proofs.Ytmllbdiljjimmaa.jOp
  simp only [hi]
  rcases hy with ⟨hw, hv⟩ | ⟨hw, rfl⟩
  · simp only [hw, if_true]; exact ⟨v, hv, h⟩
  · simp only [hw, Bool.false_eq_true, if_false]; exact h

theorem YieldsJ.of_same {o : Oper} {v : Value} {a a' : Act} (hy : YieldsJ P ops C o v a) (he : execOp a'.eval o = execOp a.eval o)
    (hw : Region.wanted o (yielded ops a'.tmps) = Region.wanted o (yielded ops a.tmps)) : YieldsJ P ops C o v a' := by
  unfold YieldsJ Oper.quietAt at *
  rw [he, hw]
  exact hy

theorem yieldsJ_of_jOp {i : Nat} {o : Oper} {a : Act} {K : Act → Prop} (hi : ops[i]? = some o) (h : jOp P ops C i K a) : ∃ v, YieldsJ P ops C o v a ∧ K (a.put o.dst v) := by
  unfold jOp at h
  simp only [hi] at h
  by_cases hw : Region.wanted o (yielded ops a.tmps) = true
  · simp only [hw, if_true] at h
    obtain ⟨v, h1, h2⟩ := h
    exact ⟨v, .inl ⟨hw, h1⟩, h2⟩
  · simp only [hw] at h
    exact ⟨undef, .inr ⟨by simpa using hw, rfl⟩, h⟩

theorem jOp_put {j : Nat} {oi oj : Oper} {v : Value} (hj : ops[j]? = some oj) (hap : oi.apart ops oj = true)
    (hsi : ∀ cs b, oi.op ≠ .select cs b) (hsj : ∀ cs b, oj.op ≠ .select cs b) {K : Act → Prop} {a : Act}
    (hy : YieldsJ P ops C oi v a) (h : jOp P ops C j K (a.put oi.dst v)) :
    jOp P ops C j (fun a' => YieldsJ P ops C oi v a' ∧ K (a'.put oi.dst v)) a := by
  obtain ⟨h1, h2, h3⟩ := Oper.apart_spec hap
  have keep : ∀ (a : Act), YieldsJ P ops C oi v a → ∀ u, YieldsJ P ops C oi v (a.put oj.dst u) := fun a hy u =>
    hy.of_same (execOp_put oi hsi a oj.dst u h3) (wanted_put oi a oj.dst u h3)
  unfold jOp at *
  simp only [hj] at *
  rw [wanted_put oj a oi.dst v h1] at h
  split
  · rename_i hw
    simp only [hw, if_true] at h
    obtain ⟨u, hu, hn⟩ := h
    refine ⟨u, fun s w hw' => ?_, keep a hy u, by rw [← Act.put_comm a v u h2]; exact hn⟩
    have := hu s w hw'
    unfold Oper.quietAt at *
    rwa [execOp_put oj hsj a oi.dst v h1] at this
  · rename_i hw
    simp only [hw] at h
    exact ⟨keep a hy _, by rw [← Act.put_comm a v undef h2]; exact h⟩

def newPtr (g : Nat) : Value := .pointer (some ⟨g, 0, none⟩)

/-- Whatever order is picked from here on; op p makes a new block, at any place. -/
def anyJ (P : Program) (md : Region.Mode) (ops : Array Oper) (C : Option Nat → World → Prop) (p : Nat) (d : Tmp) (n : Nat) (L : Option Nat → Array Bool → Act → Prop) : Nat → Option Nat → Array Bool → Act → Prop
  | 0, s, listed, a => L s listed a
  | f + 1, s, listed, a => Region.ready md ops listed ≠ [] ∧ ∀ i ∈ Region.ready md ops listed, i < n ∧
      if i = p then s = none ∧ ∀ g, anyJ P md ops C p d n L f (some g) (listed.setIfInBounds i true) (a.put (some d) (newPtr g))
      else jOp P ops C i (anyJ P md ops C p d n L f s (listed.setIfInBounds i true)) a

/-- The op that makes a new block of zero values. -/
def Makes (P : Program) (ops : Array Oper) (C : Option Nat → World → Prop) (p : Nat) (d : Tmp) : Prop :=
  ∃ o, ops[p]? = some o ∧ o.dst = some d ∧ (∃ t, o.op = .alloc t) ∧ o.guard = none ∧ ∀ (a : Act) w, C none w → ∃ w', (execOp a.eval o).run P w = .ok (.value (newPtr w.heap.size)) w' ∧ C (some w.heap.size) w'

theorem wpAny_of_anyJ {n p g : Nat} {d : Tmp} {L : Option Nat → Array Bool → Act → Prop} {Q' : Exit → Act → World → Prop} (hM : Makes P ops C p d) (hL : ∀ s listed a w, C s w → L s listed a → wpAny P md ops Q' g listed a w) :
    ∀ (f : Nat) (s : Option Nat) (listed : Array Bool) (a : Act) (w : World), C s w → anyJ P md ops C p d n L f s listed a → wpAny P md ops Q' (f + g) listed a w
  | 0, s, listed, a, w, hw, h => by rw [Nat.zero_add]; exact hL _ _ _ _ hw h
  | f + 1, s, listed, a, w, hw, h => by
    rw [show f + 1 + g = (f + g) + 1 by omega]
    refine ⟨fun h0 => absurd h0 h.1, fun i hi => ?_⟩
    have h1 := (h.2 i hi).2
    by_cases hip : i = p
    · rw [if_pos hip] at h1
      obtain ⟨rfl, h2⟩ := h1
      subst hip
      obtain ⟨o, ho, hd, _, hg, hr⟩ := hM
      obtain ⟨w', hr', hc'⟩ := hr a w hw
      unfold wpOp
      simp only [ho]
      rw [if_pos (by unfold Region.wanted; rw [hg])]
      refine .inl ?_
      unfold Oper.wp
      rw [hr']
      simp only [Oper.upon]
      rw [hd]
      exact wpAny_of_anyJ ⟨o, ho, hd, ‹_›, hg, hr⟩ hL f _ _ _ _ hc' (h2 w.heap.size)
    · rw [if_neg hip] at h1
      exact wpOp_of_qOp hw (fun a' w' hw' h' => wpAny_of_anyJ hM hL f _ _ a' w' hw' h') (qOp_of_jOp s h1)

theorem anyJ_first {n p i : Nat} {d : Tmp} {oi : Oper} {v : Value} {L : Option Nat → Array Bool → Act → Prop} (hM : Makes P ops C p d) (hip : i ≠ p) (hi : ops[i]? = some oi) (hsel : ∀ (j : Nat) (o : Oper) cs b, ops[j]? = some o → o.op ≠ .select cs b)
    (hs : Region.sinkB md ops n = true) (hc : Region.chainB md ops n = true) (hn : n < ops.size) (hin : i < n)
    (hdone : ∀ s listed a, L s listed a → ∀ j ∈ Region.ready md ops listed, n ≤ j) :
    ∀ (f : Nat) (s : Option Nat) (listed : Array Bool) (a : Act), HeadInv md ops n listed →
      (∀ j oj, ops[j]? = some oj → j ≠ i → listed.getD j true = false → (∀ e ∈ oj.after, Region.binds md e = true → e.on ≠ i) → oi.apart ops oj = true) →
      i ∈ Region.ready md ops listed → YieldsJ P ops C oi v a →
      anyJ P md ops C p d n L f s (listed.setIfInBounds i true) (a.put oi.dst v) → anyJ P md ops C p d n L (f + 1) s listed a := by
  intro f
  induction f with
  | zero =>
    intro s listed a inv _ hr hy H
    have hun := (mem_ready.1 hr).1
    refine ⟨fun h => (by rw [h] at hr; cases hr), fun j hj => ?_⟩
    have hjn : j < n := by
      rcases Nat.lt_or_ge j n with h | h
      · exact h
      · exact absurd hj (tail_waits hs hc hn inv _ i rfl hin hun j h)
    refine ⟨hjn, ?_⟩
    by_cases hji : j = i
    · subst hji; rw [if_neg hip]; exact hy.jOp hi H
    · have := hdone _ _ _ H j (ready_mono hj hji)
      omega
  | succ f ih =>
    intro s listed a inv hfree hr hy H
    have hun := (mem_ready.1 hr).1
    refine ⟨fun h => (by rw [h] at hr; cases hr), fun j hj => ?_⟩
    have hjn : j < n := by
      rcases Nat.lt_or_ge j n with h | h
      · exact h
      · exact absurd hj (tail_waits hs hc hn inv _ i rfl hin hun j h)
    refine ⟨hjn, ?_⟩
    by_cases hji : j = i
    · subst hji; rw [if_neg hip]; exact hy.jOp hi H
    · have h1 := (H.2 j (ready_mono hj hji)).2
      obtain ⟨hjun, oj, hoj, hall⟩ := mem_ready.1 hj
      have hnot : ∀ e ∈ oj.after, Region.binds md e = true → e.on ≠ i := fun e he hb heq => by
        have h1 := hall e he hb
        rw [heq, getD_both hun] at h1
        cases h1
      have hfree' : ∀ k ok, ops[k]? = some ok → k ≠ i → (listed.setIfInBounds j true).getD k true = false →
          (∀ e ∈ ok.after, Region.binds md e = true → e.on ≠ i) → oi.apart ops ok = true := fun k ok hk hki hun hno => by
        refine hfree k ok hk hki ?_ hno
        by_cases hjk : j = k
        · subst hjk; exact hjun
        · rw [getD_set_ne true hjk] at hun; exact hun
      have hap := hfree j oj hoj hji hjun hnot
      by_cases hjp : j = p
      · rw [if_pos hjp] at h1 ⊢
        obtain ⟨h0, h2⟩ := h1
        refine ⟨h0, fun g => ?_⟩
        obtain ⟨k1, k2, k3⟩ := Oper.apart_spec hap
        have hd : oj.dst = some d := by
          obtain ⟨o, ho, hd, _⟩ := hM
          rw [hjp, ho] at hoj
          cases hoj
          exact hd
        refine ih (some g) (listed.setIfInBounds j true) _ (inv.set hj hjn) hfree' (ready_mono hr (Ne.symm hji)) ?_ ?_
        · rw [← hd]
          exact hy.of_same (execOp_put oi (fun cs b => hsel i oi cs b hi) a oj.dst _ k3) (wanted_put oi a oj.dst _ k3)
        · rw [Array.setIfInBounds_comm _ _ hji, ← hd, ← Act.put_comm a v _ k2, hd]
          exact h2 g
      · rw [if_neg hjp] at h1 ⊢
        have h2 := jOp_put hoj hap (fun cs b => hsel i oi cs b hi) (fun cs b => hsel j oj cs b hoj) hy h1
        refine jOp_mono (fun a' h3 => ih s (listed.setIfInBounds j true) a' (inv.set hj hjn) hfree' (ready_mono hr (Ne.symm hji)) h3.1 ?_) h2
        rw [Array.setIfInBounds_comm _ _ hji]
        exact h3.2

theorem anyJ_lex {n g p : Nat} {d : Tmp} {Lq : Nat → Act → Prop} (hM : Makes P ops C p d) (hpn : p + 1 = n) (hsel : Region.noSelect ops = true) (hs : Region.sinkB md ops n = true) (hc : Region.chainB md ops n = true) (hn : n < ops.size) :
    ∀ (l : List Oper) (k : Nat) (listed : Array Bool) (a : Act), (∀ j, j < l.length → l[j]? = ops[k + j]?) → k + l.length = p → HeadInv md ops n listed →
    Region.lexHead md ops g (l.length + 1) k listed = true → wpJ P ops C (fun a' => ∀ g, Lq g (a'.put (some d) (newPtr g))) l a →
    anyJ P md ops C p d n (fun s listed' a' => Region.seqB md ops g n listed' = true ∧ ∃ b, s = some b ∧ Lq b a') (l.length + 1) none listed a
  | [], k, listed, a, _, hk, inv, hB, h => by
    have : k = p := by simpa using hk
    subst this
    simp only [List.length_nil, Region.lexHead, Bool.and_eq_true] at hB
    obtain ⟨⟨hr, hf⟩, hB'⟩ := hB
    have hr' : k ∈ Region.ready md ops listed := by simpa using hr
    have hun := (mem_ready.1 hr').1
    refine ⟨fun h => (by rw [h] at hr'; cases hr'), fun j hj => ?_⟩
    have hjn : j < n := by
      rcases Nat.lt_or_ge j n with h | h
      · exact h
      · exact absurd hj (tail_waits hs hc hn inv _ k rfl (by omega) hun j h)
    refine ⟨hjn, ?_⟩
    by_cases hjk : j = k
    · subst hjk
      rw [if_pos rfl]
      rw [hpn] at hB'
      exact ⟨rfl, fun b => ⟨hB', b, rfl, h b⟩⟩
    · have h3 := seqB_ready hB' j (ready_mono hj hjk)
      omega
  | o :: l, k, listed, a, hl, hk, inv, hB, h => by
    have h0 : ops[k]? = some o := by simpa using (hl 0 (by simp)).symm
    rw [List.length_cons, Region.lexHead] at hB
    simp only [Bool.and_eq_true] at hB
    obtain ⟨⟨hr, hf⟩, hB'⟩ := hB
    have hkn : k < n := by simp only [List.length_cons] at hk; omega
    have hkp : k ≠ p := by simp only [List.length_cons] at hk; omega
    have hr' : k ∈ Region.ready md ops listed := by simpa using hr
    have hst : jOp P ops C k (wpJ P ops C (fun a' => ∀ g, Lq g (a'.put (some d) (newPtr g))) l) a := by unfold jOp; simp only [h0]; exact h
    obtain ⟨v, hy, hK⟩ := yieldsJ_of_jOp h0 hst
    exact anyJ_first hM hkp h0 (Region.noSelect_spec hsel) hs hc hn hkn (fun s listed' a' hL => seqB_ready hL.1) (l.length + 1) none listed a inv (Region.free_spec h0 hf) hr' hy
      (anyJ_lex hM hpn hsel hs hc hn l (k + 1) _ _ (fun j hj => by have := hl (j + 1) (by simp; omega); simpa [Nat.add_assoc, Nat.add_comm 1 j] using this) (by simp only [List.length_cons] at hk; omega) (inv.set hr' hkn) hB' hK)

/-- A region that draws its order: a head of p operations that yield one value each, in the classes 'none' (ahead of the new block) and 'some g' (behind it); operation p makes a new block; the tail goes in the text's order. -/
theorem region_alloc {id : Nat} {Q : Exit → Act → World → Prop} {a : Act} {w : World} {l : List Oper} (C : Option Nat → World → Prop) (p : Nat) (d : Tmp) (hm : P.follows .mixedOrders = true) (hB : Region.lexTailB .any l.toArray (p + 1) = true) (hC : C none w.drew)
    (hM : Makes P l.toArray C p d)
    (h : wpJ P l.toArray C (fun a' => ∀ g, ∀ w', C (some g) w' → wpList P l.toArray Q (l.drop (p + 1)) (a'.put (some d) (newPtr g)) w') (l.take p) a) : (Code.region id l.toArray true).wp P Q a w := by
  simp only [Region.lexTailB, Bool.and_eq_true, decide_eq_true_eq] at hB
  obtain ⟨⟨⟨⟨hsel, hn⟩, hs⟩, hc⟩, hlex⟩ := hB
  have hn' : p + 1 < l.length := by simpa using hn
  have htl : (l.take p).length = p := by simp; omega
  have hdl : (l.drop (p + 1)).length = l.toArray.size - (p + 1) := by simp
  have inv0 : HeadInv .any l.toArray (p + 1) (Array.replicate l.toArray.size false) :=
    ⟨by simp, fun j oj _ hl => (by rw [getD_replicate_false] at hl; cases hl), fun t _ ht => getD_in (by simpa using ht) (getD_replicate_false _ _)⟩
  have H := anyJ_lex (md := .any) (g := l.toArray.size - (p + 1)) (Lq := fun g a' => ∀ w', C (some g) w' → wpList P l.toArray Q (l.drop (p + 1)) a' w') hM rfl hsel hs hc hn (l.take p) 0 _ a (fun j hj => by
    have hj' : j < p := by rw [htl] at hj; exact hj
    simp [hj']) (by simpa using htl) inv0 (by rw [htl]; exact hlex) h
  refine wp_region_any hm ?_
  have := wpAny_of_anyJ (Q' := Q) (g := l.toArray.size - (p + 1)) hM (fun s listed a' w' hw hL => by
    obtain ⟨h1, b, rfl, h2⟩ := hL
    have := wpAny_of_seq (md := .any) (Q' := Q) (l.drop (p + 1)) (p + 1) listed a' w' (fun j => by simp [List.getElem?_drop]) (by rw [hdl]; exact h1) (h2 w' hw)
    rwa [hdl] at this) _ _ _ _ _ hC H
  rw [htl, show p + 1 + (l.toArray.size - (p + 1)) = l.toArray.size by omega] at this
  exact this

/-! ### One operation of such a head -/
variable {Q : Act → Prop} {a : Act} {o : Oper} {rest : List Oper}
theorem j_nil (h : Q a) : wpJ P ops C Q [] a := h
theorem j_run (v : Value) (hg : o.guard = none) (hr : ∀ s w, C s w → (execOp a.eval o).run P w = .ok (.value v) w) (h : wpJ P ops C Q rest (a.put o.dst v)) : wpJ P ops C Q (o :: rest) a := by
  unfold wpJ
  rw [if_pos (by unfold Region.wanted; rw [hg])]
  exact ⟨v, fun s w hw => by unfold Oper.quietAt; rw [hr s w hw]; exact ⟨rfl, rfl⟩, h⟩
theorem j_call (v : Value) (f : FuncId) (args : Array Value) (hg : o.guard = none) (hr : ∀ w, (execOp a.eval o).run P w = .ok (.enter f args) w) (hc : ∀ s w, C s w → Calls P f args w fun e w' => e = .returned v ∧ C s w')
    (h : wpJ P ops C Q rest (a.put o.dst v)) : wpJ P ops C Q (o :: rest) a := by
  unfold wpJ
  rw [if_pos (by unfold Region.wanted; rw [hg])]
  exact ⟨v, fun s w hw => by unfold Oper.quietAt; rw [hr w]; exact ⟨rfl, hc s w hw⟩, h⟩

/-- The classes of a region that makes one new block z of type T, from the world w1 on: S holds throughout. -/
def NewB (w1 : World) (S : World → Prop) (z : List Value) (T : TypeId) : Option Nat → World → Prop
  | none, w' => S w' ∧ Fr (fun _ => False) w1 w'
  | some b, w' => S w' ∧ Fr (fun _ => False) w1 w' ∧ Blk w' b z T ∧ w1.heap.size ≤ b
theorem NewB.frame {w1 : World} {S : World → Prop} {z : List Value} {T : TypeId} (hS : ∀ w w', S w → Fr (fun _ => False) w w' → S w') {s : Option Nat} {w w' : World} (h : NewB w1 S z T s w) (hf : Fr (fun _ => False) w w') : NewB w1 S z T s w' := by
  cases s with
  | none => exact ⟨hS _ _ h.1 hf, h.2.trans hf (fun _ h => h.elim)⟩
  | some b => exact ⟨hS _ _ h.1 hf, h.2.1.trans hf (fun _ h => h.elim), h.2.2.1.frame hf (fun h => h), h.2.2.2⟩
theorem NewB.all {w1 : World} {S : World → Prop} {z : List Value} {T : TypeId} {s : Option Nat} {w : World} (h : NewB w1 S z T s w) : S w := by
  cases s with
  | none => exact h.1
  | some b => exact h.1
theorem makes_new {w1 : World} {S : World → Prop} {z : List Value} {T : TypeId} (hS : ∀ w w', S w → Fr (fun _ => False) w w' → S w') {p : Nat} {d : Tmp} (o : Oper) (ty : TypeId) (ho : ops[p]? = some o) (hd : o.dst = some d) (hop : o.op = .alloc ty) (hg : o.guard = none)
    (hr : ∀ (a : Act) w, (execOp a.eval o).run P w = .ok (.value (newPtr w.heap.size)) (w.alloc (.cells z.toArray T))) : Makes P ops (NewB w1 S z T) p d := by
  refine ⟨o, ho, hd, ⟨ty, hop⟩, hg, fun a w hw => ⟨_, hr a w, ?_⟩⟩
  have hf : Fr (fun _ => False) w (w.alloc (.cells z.toArray T)) := (Fr.refl _ w).alloc _
  exact ⟨hS _ _ hw.1 hf, hw.2.trans hf (fun _ h => h.elim), Blk.new w z T, hw.2.size⟩
end
end Go.Proofs.Ytmllbdiljjimmaa
