/- Plain laws on regions that draw their order: some operations taken first, then a quiet head, and then a tail in whatever order its edges allow. -/
import Derived.Test.YtmllbdiljjimmaaRegion4
namespace Go.Proofs.Ytmllbdiljjimmaa
open Go.RowKit

section
variable {P : Program} {ops : Array Oper} {md : Region.Mode} {C : World → Prop}

/-- Each operation of the head from k on is waited for by a later one, up to n. -/
def sinkK (md : Region.Mode) (ops : Array Oper) (k n : Nat) : Bool :=
  (List.range n).all fun i => decide (i < k) || (List.range (n + 1)).any fun j => decide (i < j) && Region.waitsFor md ops j i

theorem tail_waits3 {k n : Nat} {listed : Array Bool} (hs : sinkK md ops k n = true) (hc : chain2B md ops n = true) (hn : n < ops.size) (inv : HeadInv md ops n listed) (hk : ∀ i, i < k → listed.getD i true = true) :
    ∀ (d i : Nat), n - i = d → i < n → listed.getD i true = false → ∀ t, n ≤ t → t ∉ Region.ready md ops listed := by
  intro d
  induction d using Nat.strongRecOn with
  | _ d ih =>
    intro i hd hi hun t ht hr
    obtain ⟨_, ot, hot, hall⟩ := mem_ready.1 hr
    have htlt : t < ops.size := (Array.getElem?_eq_some_iff.1 hot).1
    by_cases htn : t = n
    · subst htn
      have h1 := List.all_eq_true.1 hs i (List.mem_range.2 hi)
      rw [Bool.or_eq_true] at h1
      rcases h1 with h1 | h1
      · rw [hk i (of_decide_eq_true h1)] at hun; cases hun
      obtain ⟨j, hj, hj2⟩ := List.any_eq_true.1 h1
      simp only [Bool.and_eq_true, decide_eq_true_eq] at hj2
      obtain ⟨oj, hoj, e, he, hb, hon⟩ := Region.waitsFor_spec hj2.2
      have hjle : j ≤ t := by have := List.mem_range.1 hj; omega
      by_cases hjt : j = t
      · subst hjt
        have : oj = ot := Option.some.inj (hoj.symm.trans hot)
        subst this
        have h2 := hall e he hb
        rw [hon, getD_both hun] at h2
        cases h2
      · cases hl : listed.getD j false with
        | true =>
          have h2 := inv.closed j oj hoj hl e he hb
          rw [hon, getD_both hun] at h2
          cases h2
        | false =>
          have hjs : j < listed.size := by rw [inv.size]; omega
          exact ih (t - j) (by omega) j rfl (by omega) (getD_in hjs hl) t (Nat.le_refl _) hr
    · have h1 := List.all_eq_true.1 hc t (List.mem_range.2 htlt)
      simp only [Bool.or_eq_true, decide_eq_true_eq] at h1
      rcases h1 with h1 | h1
      · omega
      · obtain ⟨s, hs', h1⟩ := List.any_eq_true.1 h1
        simp only [Bool.and_eq_true, decide_eq_true_eq] at h1
        have hst := List.mem_range.1 hs'
        obtain ⟨o', ho', e, he, hb, hon⟩ := Region.waitsFor_spec h1.2
        have : o' = ot := Option.some.inj (ho'.symm.trans hot)
        subst this
        have h2 := hall e he hb
        rw [hon, getD_both (inv.tail s h1.1 (by omega))] at h2
        cases h2

theorem keep_listed {k i : Nat} {listed : Array Bool} (hk : ∀ j, j < k → listed.getD j true = true) : ∀ j, j < k → (listed.setIfInBounds i true).getD j true = true := by
  intro j hj
  by_cases h : i = j
  · subst h
    by_cases hb : i < listed.size
    · simp [hb]
    · rw [Array.setIfInBounds_eq_of_size_le (by omega)]; exact hk i hj
  · rw [getD_set_ne true h]; exact hk j hj

theorem anyHead_first3 {k n i : Nat} {oi : Oper} {v : Value} {L : Array Bool → Act → Prop} (hi : ops[i]? = some oi) (hsel : ∀ (j : Nat) (o : Oper) cs b, ops[j]? = some o → o.op ≠ .select cs b)
    (hs : sinkK md ops k n = true) (hc : chain2B md ops n = true) (hn : n < ops.size) (hin : i < n)
    (hdone : ∀ listed a, L listed a → ∀ j ∈ Region.ready md ops listed, n ≤ j) :
    ∀ (f : Nat) (listed : Array Bool) (a : Act), HeadInv md ops n listed → (∀ i, i < k → listed.getD i true = true) →
      (∀ j oj, ops[j]? = some oj → j ≠ i → listed.getD j true = false → (∀ e ∈ oj.after, Region.binds md e = true → e.on ≠ i) → oi.apart ops oj = true) →
      i ∈ Region.ready md ops listed → YieldsIn P ops C oi v a →
      anyHead P md ops C n L f (listed.setIfInBounds i true) (a.put oi.dst v) → anyHead P md ops C n L (f + 1) listed a := by
  intro f
  induction f with
  | zero =>
    intro listed a inv hkl _ hr hy H
    have hun := (mem_ready.1 hr).1
    refine ⟨fun h => (by rw [h] at hr; cases hr), fun j hj => ?_⟩
    have hjn : j < n := by
      rcases Nat.lt_or_ge j n with h | h
      · exact h
      · exact absurd hj (tail_waits3 hs hc hn inv hkl _ i rfl hin hun j h)
    refine ⟨hjn, ?_⟩
    by_cases hji : j = i
    · subst hji; exact hy.qOp hi H
    · have := hdone _ _ H j (ready_mono hj hji)
      omega
  | succ f ih =>
    intro listed a inv hkl hfree hr hy H
    have hun := (mem_ready.1 hr).1
    refine ⟨fun h => (by rw [h] at hr; cases hr), fun j hj => ?_⟩
    have hjn : j < n := by
      rcases Nat.lt_or_ge j n with h | h
      · exact h
      · exact absurd hj (tail_waits3 hs hc hn inv hkl _ i rfl hin hun j h)
    refine ⟨hjn, ?_⟩
    by_cases hji : j = i
    · subst hji; exact hy.qOp hi H
    · have h1 := (H.2 j (ready_mono hj hji)).2
      obtain ⟨hjun, oj, hoj, hall⟩ := mem_ready.1 hj
      have hnot : ∀ e ∈ oj.after, Region.binds md e = true → e.on ≠ i := fun e he hb heq => by
        have h1 := hall e he hb
        rw [heq, getD_both hun] at h1
        cases h1
      have h2 := qOp_put hoj (hfree j oj hoj hji hjun hnot) (fun cs b => hsel i oi cs b hi) (fun cs b => hsel j oj cs b hoj) hy h1
      have hfree' : ∀ k ok, ops[k]? = some ok → k ≠ i → (listed.setIfInBounds j true).getD k true = false →
          (∀ e ∈ ok.after, Region.binds md e = true → e.on ≠ i) → oi.apart ops ok = true := fun k ok hk hki hun hno => by
        refine hfree k ok hk hki ?_ hno
        by_cases hjk : j = k
        · subst hjk; exact hjun
        · rw [getD_set_ne true hjk] at hun; exact hun
      refine qOp_mono (fun a' h3 => ih (listed.setIfInBounds j true) a' (inv.set hj hjn) (keep_listed hkl) hfree' (ready_mono hr (Ne.symm hji)) h3.1 ?_) h2
      rw [Array.setIfInBounds_comm _ _ hji]
      exact h3.2

theorem anyHead_lex3 {k0 n : Nat} {mask : Array Bool} {Lq : Act → Prop} (hsel : Region.noSelect ops = true) (hs : sinkK md ops k0 n = true) (hc : chain2B md ops n = true) (hn : n < ops.size) (hready : ∀ j ∈ Region.ready md ops mask, n ≤ j) :
    ∀ (l : List Oper) (k : Nat) (listed : Array Bool) (a : Act), (∀ j, j < l.length → l[j]? = ops[k + j]?) → k + l.length = n → HeadInv md ops n listed → (∀ i, i < k0 → listed.getD i true = true) → maskFrom l.length k listed = mask →
    lexHeadT md ops l.length k listed = true → wpQuiet P ops C Lq l a →
    anyHead P md ops C n (fun listed' a' => listed' = mask ∧ Lq a') l.length listed a
  | [], k, listed, a, _, hk, _, _, hmask, hB, h => ⟨hmask, h⟩
  | o :: l, k, listed, a, hl, hk, inv, hkl, hmask, hB, h => by
    have h0 : ops[k]? = some o := by simpa using (hl 0 (by simp)).symm
    simp only [List.length_cons, lexHeadT, Bool.and_eq_true] at hB
    obtain ⟨⟨hr, hf⟩, hB'⟩ := hB
    have hkn : k < n := by simp only [List.length_cons] at hk; omega
    have hr' : k ∈ Region.ready md ops listed := by simpa using hr
    have hst : qOp P ops C k (wpQuiet P ops C Lq l) a := by unfold qOp; simp only [h0]; exact h
    obtain ⟨v, hy, hK⟩ := yieldsIn_of_qOp h0 hst
    exact anyHead_first3 h0 (Region.noSelect_spec hsel) hs hc hn hkn (fun listed' a' hL => by rw [hL.1]; exact hready) l.length listed a inv hkl (Region.free_spec h0 hf) hr' hy
      (anyHead_lex3 hsel hs hc hn hready l (k + 1) _ _ (fun j hj => by have := hl (j + 1) (by simp; omega); simpa [Nat.add_assoc, Nat.add_comm 1 j] using this) (by simp only [List.length_cons] at hk; omega) (inv.set hr' hkn) (keep_listed hkl) hmask hB' hK)

/-- Which may be taken first, whatever order they stand in: the list says which. -/
def takenB (md : Region.Mode) (ops : Array Oper) (n : Nat) : List Nat → Array Bool → Bool
  | [], _ => true
  | i :: l, listed => (Region.ready md ops listed).contains i && decide (i < n) && takenB md ops n l (listed.setIfInBounds i true)
def maskOf (l : List Nat) (m : Array Bool) : Array Bool := l.foldl (fun m i => m.setIfInBounds i true) m
theorem taken_inv {n : Nat} : ∀ (l : List Nat) (listed : Array Bool), HeadInv md ops n listed → takenB md ops n l listed = true → HeadInv md ops n (maskOf l listed)
  | [], _, inv, _ => inv
  | i :: l, listed, inv, h => by
    simp only [takenB, Bool.and_eq_true, decide_eq_true_eq] at h
    exact taken_inv l _ (inv.set (by simpa using h.1.1) h.1.2) h.2

def lexTailK (ops : Array Oper) (k n : Nat) : Bool :=
  Region.noSelect ops && decide (k ≤ n) && decide (n < ops.size) && sinkK .any ops k n && chain2B .any ops n && takenB .any ops n (List.range k) (Array.replicate ops.size false) && (List.range k).all (fun i => (maskOf (List.range k) (Array.replicate ops.size false)).getD i true)
    && lexHeadT .any ops (n - k) k (maskOf (List.range k) (Array.replicate ops.size false)) && (Region.ready .any ops (maskFrom (n - k) k (maskOf (List.range k) (Array.replicate ops.size false)))).all (fun j => decide (n ≤ j))

/-- Some operations have been taken first: then a quiet head up to n, then the others in whatever order. -/
theorem any_classT {Q : Exit → Act → World → Prop} {a : Act} {w : World} {l : List Oper} (C : World → Prop) (k n : Nat) (hB : lexTailK l.toArray k n = true) (hC : C w)
    (h : wpQuiet P l.toArray C (fun a' => ∀ w', C w' → wpAny P .any l.toArray Q (l.length - n) (maskFrom (n - k) k (maskOf (List.range k) (Array.replicate l.length false))) a' w') ((l.take n).drop k) a) :
    wpAny P .any l.toArray Q (l.length - k) (maskOf (List.range k) (Array.replicate l.length false)) a w := by
  simp only [lexTailK, Bool.and_eq_true, decide_eq_true_eq, List.all_eq_true] at hB
  obtain ⟨⟨⟨⟨⟨⟨⟨⟨hsel, hkn⟩, hn⟩, hs⟩, hc⟩, htk⟩, hml⟩, hlex⟩, hready⟩ := hB
  have hn' : n < l.length := by simpa using hn
  have htl : ((l.take n).drop k).length = n - k := by simp; omega
  have hsz : l.toArray.size = l.length := by simp
  rw [hsz] at hlex hready htk hml
  have inv0 : HeadInv .any l.toArray n (Array.replicate l.length false) :=
    ⟨by simp, fun j oj _ hl => (by rw [getD_replicate_false] at hl; cases hl), fun t _ ht => getD_in (by simpa using ht) (getD_replicate_false _ _)⟩
  have inv1 := taken_inv (List.range k) _ inv0 htk
  have H := anyHead_lex3 (md := .any) (mask := maskFrom (n - k) k (maskOf (List.range k) (Array.replicate l.length false))) hsel hs hc hn hready ((l.take n).drop k) k _ a (fun j hj => by
    have hj' : j < n - k := by rw [htl] at hj; exact hj
    rw [List.getElem?_drop, List.getElem?_take, if_pos (by omega)]; simp) (by rw [htl]; omega) inv1 (fun i hi => hml i (List.mem_range.2 hi)) (by rw [htl]) (by rw [htl]; exact hlex) h
  have := wpAny_of_anyHead (Q' := Q) (g := l.length - n) (fun listed a' w' hw hL => by
    rw [hL.1]
    exact hL.2 w' hw) _ _ _ _ hC H
  rw [htl, show n - k + (l.length - n) = l.length - k by omega] at this
  exact this
/-- A region whose first operation hangs on nothing and may come up at any time: it is taken first; then a quiet head up to n, then the others in whatever order. -/
theorem region_take1 {id : Nat} {Q : Exit → Act → World → Prop} {a : Act} {w : World} {l : List Oper} (C : World → Prop) (n : Nat) {o : Oper} {d : Tmp} (v : Value) (hm : P.follows .mixedOrders = true) (h0 : l.toArray[0]? = some o) (hd : o.dst = some d)
    (hB : (Region.free .any l.toArray (Array.replicate l.toArray.size false) 0 && lexTailK l.toArray 1 n) = true) (hQ : ∀ c a w, Q (.panic c) (a.put (some d) v) w → Q (.panic c) a w) (hy : Yields P l.toArray o v a) (hC : C w.drew)
    (h : wpQuiet P l.toArray C (fun a' => ∀ w', C w' → wpAny P .any l.toArray Q (l.length - n) (maskFrom (n - 1) 1 (maskOf (List.range 1) (Array.replicate l.length false))) a' w') ((l.take n).drop 1) (a.put (some d) v)) : (Code.region id l.toArray true).wp P Q a w := by
  rw [Bool.and_eq_true] at hB
  refine wp_region_any hm ?_
  have hB2 := hB.2
  have hlen : l.toArray.size = l.length - 1 + 1 := by
    have : 0 < l.toArray.size := (Array.getElem?_eq_some_iff.1 h0).1
    simp at this ⊢; omega
  simp only [lexTailK, Bool.and_eq_true, decide_eq_true_eq, List.all_eq_true] at hB2
  obtain ⟨⟨⟨⟨⟨⟨⟨⟨hsel, hkn⟩, hn⟩, hs⟩, hc⟩, htk⟩, hml⟩, hlex⟩, hready⟩ := hB2
  simp only [takenB, List.range_succ, List.range_zero, List.nil_append, Bool.and_eq_true] at htk
  have hfin := any_classT (P := P) (Q := Q) (w := w.drew) C 1 n hB.2 hC h
  have hf := hB.1
  rw [hlen] at hf htk ⊢
  refine wpAny_take (md := .any) h0 hsel hf htk.1.1 (by rw [hd]; exact hQ) hy ?_
  rw [hd]
  have hm1 : maskOf (List.range 1) (Array.replicate l.length false) = (Array.replicate (l.length - 1 + 1) false).setIfInBounds 0 true := by
    rw [show l.length - 1 + 1 = l.length by simp at hlen; omega]
    rfl
  rw [hm1] at hfin
  exact hfin
end
end Go.Proofs.Ytmllbdiljjimmaa
