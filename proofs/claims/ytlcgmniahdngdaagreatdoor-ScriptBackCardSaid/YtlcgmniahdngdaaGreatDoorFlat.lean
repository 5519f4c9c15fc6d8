/- How arguments of plain types read: each cell of a struct, an array or a slice of these is a number, a bool, a float or a string. -/
import Derived.Test.YtlcgmniahdngdaaGreatDoorBase
import Derived.Deep.Slices
import Derived.ProofKit
namespace Go.Proofs.YtlcgmniahdngdaaGreatDoor
open Go.RowKit

/-- The kind of one cell. -/
inductive Sc where
  | int (k : IntKind)
  | bool
  | float (k : FloatKind)
  | str

def Sc.ok : Sc → Value → Prop
  | .int k, v => ∃ n, v = .int k n ∧ (Lit.int k n).wf = true
  | .bool, v => ∃ b, v = .bool b
  | .float k, v => ∃ b, v = .float k b ∧ (Lit.float k b).wf = true
  | .str, v => ∃ s : ByteArray, v = .string s ∧ s.size ≤ maxLen

def flatFields (P : Program) (rec : TypeId → Option (List Sc)) : Nat → List Field → Option (List Sc)
  | _, [] => some []
  | off, f :: fs => if f.offset = off then
      match rec f.type with
      | some l => if l.length = P.cellsOf f.type then (flatFields P rec (off + l.length) fs).map (l ++ ·) else none
      | none => none
    else none

/-- The kinds of a plain type's cells, in order. -/
def flat (P : Program) : Nat → TypeId → Option (List Sc)
  | 0, _ => none
  | d + 1, t =>
    match P.underlying t with
    | some .bool => some [.bool]
    | some (.int k) => some [.int k]
    | some (.float k) => some [.float k]
    | some .string => some [.str]
    | some (.struct fs) => (flatFields P (flat P d) 0 fs.toList).bind fun l => if l.length = P.cellsOf t then some l else none
    | some (.array n e) => (flat P d e).bind fun l => if l.length = P.cellsOf e ∧ n * l.length = P.cellsOf t then some (List.replicate n l).flatten else none
    | _ => none

def AllOk : List Sc → List Value → Prop
  | [], [] => True
  | s :: L, v :: cs => s.ok v ∧ AllOk L cs
  | _, _ => False

theorem AllOk.length : ∀ {L : List Sc} {cs : List Value}, AllOk L cs → cs.length = L.length
  | [], [], _ => rfl
  | s :: L, v :: cs, h => by simp [AllOk.length h.2]
  | [], _ :: _, h => h.elim
  | _ :: _, [], h => h.elim

theorem AllOk.append : ∀ {L M : List Sc} {cs ds : List Value}, AllOk L cs → AllOk M ds → AllOk (L ++ M) (cs ++ ds)
  | [], _, [], _, _, h2 => h2
  | _ :: _, _, _ :: _, _, h1, h2 => ⟨h1.1, AllOk.append h1.2 h2⟩
  | [], _, _ :: _, _, h, _ => h.elim
  | _ :: _, _, [], _, h, _ => h.elim

theorem AllOk.get : ∀ {L : List Sc} {cs : List Value}, AllOk L cs → ∀ (i : Nat) (s : Sc), L[i]? = some s → ∃ v, cs[i]? = some v ∧ s.ok v
  | [], [], _, i, s, h => by simp at h
  | s :: L, v :: cs, h, 0, s', hs => by simp at hs; subst hs; exact ⟨v, rfl, h.1⟩
  | s :: L, v :: cs, h, i + 1, s', hs => by simpa using AllOk.get h.2 i s' (by simpa using hs)
  | [], _ :: _, h, _, _, _ => h.elim
  | _ :: _, [], h, _, _, _ => h.elim

section
variable {H : Type} {enc : TypeId × Value → H} {P : Program} {w : World} {base : Nat} {spare : Nat → Bool} {held : Bool}

theorem flatFields_ok (rec : TypeId → Option (List Sc)) (n : Nat) (hrec : ∀ t L cs x, rec t = some L → DataW.trod enc P w base spare held n t cs = some x → AllOk L cs) (cs : List Value) :
    ∀ (fs : List Field) (off : Nat) (L : List Sc), flatFields P rec off fs = some L → off + L.length = cs.length →
      (∀ f ∈ fs, ∃ y, DataW.trod enc P w base spare held n f.type ((cs.drop f.offset).take (P.cellsOf f.type)) = some y) → AllOk L (cs.drop off)
  | [], off, L, h, hl, _ => by
    simp only [flatFields, Option.some.injEq] at h
    subst h
    have : cs.drop off = [] := List.drop_eq_nil_of_le (by simp at hl; omega)
    rw [this]; trivial
  | f :: fs, off, L, h, hl, hf => by
    unfold flatFields at h
    split at h
    · rename_i ho
      split at h
      · rename_i l hr
        split at h
        · rename_i hc
          simp only [Option.map_eq_some_iff] at h
          obtain ⟨M, hM, rfl⟩ := h
          obtain ⟨y, hy⟩ := hf f (by simp)
          rw [ho, ← hc] at hy
          have h1 := hrec _ _ _ _ hr hy
          have h2 := flatFields_ok rec n hrec cs fs (off + l.length) M hM (by simp at hl; omega) (fun g hg => hf g (by simp [hg]))
          have := h1.append h2
          rwa [← List.drop_drop, List.take_append_drop] at this
        · cases h
      · cases h
    · cases h

theorem flat_rep (n : Nat) (l : List Sc) (hpos : 0 < l.length) : ∀ (k : Nat) (cs : List Value), cs.length = k * l.length → (∀ i, i < k → AllOk l ((cs.drop (i * l.length)).take l.length)) → AllOk (List.replicate k l).flatten cs
  | 0, cs, hl, _ => by
    have : cs = [] := List.eq_nil_of_length_eq_zero (by simpa using hl)
    subst this; trivial
  | k + 1, cs, hl, h => by
    rw [List.replicate_succ, List.flatten_cons]
    have h0 := h 0 (by omega)
    simp only [Nat.zero_mul, List.drop_zero] at h0
    have h1 := flat_rep n l hpos k (cs.drop l.length) (by rw [List.length_drop, hl, Nat.succ_mul]; omega) (fun i hi => by
      have := h (i + 1) (by omega)
      rw [List.drop_drop]
      rwa [show l.length + i * l.length = (i + 1) * l.length by rw [Nat.succ_mul]; omega])
    have := h0.append h1
    rwa [List.take_append_drop] at this

theorem trod_flat : ∀ (d : Nat) (t : TypeId) (L : List Sc), flat P d t = some L → ∀ fuel cs x, DataW.trod enc P w base spare held fuel t cs = some x → AllOk L cs
  | 0, _, _, h, _, _, _, _ => by cases h
  | d + 1, t, L, h, fuel, cs, x, hx => by
    unfold flat at h
    split at h
    · rename_i ht
      simp only [Option.some.injEq] at h; subst h
      cases fuel with
      | zero => simp [DataW.trod] at hx
      | succ n =>
        unfold DataW.trod at hx
        rw [ht] at hx
        split at hx <;> simp_all [AllOk, Sc.ok]
    · rename_i k ht
      simp only [Option.some.injEq] at h; subst h
      obtain ⟨n, rfl, _, hw⟩ := DataW.trod_int ht hx
      exact ⟨⟨n, rfl, hw⟩, trivial⟩
    · rename_i k ht
      simp only [Option.some.injEq] at h; subst h
      cases fuel with
      | zero => simp [DataW.trod] at hx
      | succ n =>
        unfold DataW.trod at hx
        rw [ht] at hx
        split at hx <;> simp_all [AllOk, Sc.ok]
    · rename_i ht
      simp only [Option.some.injEq] at h; subst h
      obtain ⟨s, rfl, _, hw⟩ := DataW.trod_string ht hx
      exact ⟨⟨s, rfl, hw⟩, trivial⟩
    · rename_i fs ht
      simp only [Option.bind_eq_some_iff] at h
      obtain ⟨l, h1, h2⟩ := h
      split at h2
      · rename_i hlen
        simp only [Option.some.injEq] at h2; subst h2
        obtain ⟨xs, n, rfl, _, hl, hxs, hf⟩ := DataW.trod_struct ht hx
        have := flatFields_ok (flat P d) n (fun t L cs x h hx => trod_flat d t L h n cs x hx) cs fs.toList 0 l h1 (by rw [hl]; omega) (fun f hf' => by
          obtain ⟨i, hi⟩ := List.getElem?_of_mem hf'
          have hi' : fs[i]? = some f := by simpa using hi
          have hlt : i < xs.length := by rw [hxs]; exact (Array.getElem?_eq_some_iff.1 hi').1
          exact ⟨xs[i], by rw [hf i f hi']; simp [hlt]⟩)
        simpa using this
      · cases h2
    · rename_i n e ht
      simp only [Option.bind_eq_some_iff] at h
      obtain ⟨l, h1, h2⟩ := h
      split at h2
      · rename_i hlen
        simp only [Option.some.injEq] at h2; subst h2
        obtain ⟨xs, m, rfl, _, hl, hxs, hf⟩ := DataW.trod_array ht hx
        rcases Nat.eq_zero_or_pos l.length with h0 | h0
        · have hl0 : l = [] := List.eq_nil_of_length_eq_zero h0
          have hc0 : cs = [] := List.eq_nil_of_length_eq_zero (by rw [hl, ← hlen.2, h0]; simp)
          subst hl0; subst hc0
          rw [show (List.replicate n ([] : List Sc)).flatten = [] by simp]
          trivial
        · refine flat_rep n l h0 n cs (by rw [hl]; exact hlen.2.symm) (fun i hi => ?_)
          have := hf i hi
          rw [← hlen.1] at this
          have hlt : i < xs.length := by omega
          rw [show xs[i]? = some xs[i] by simp [hlt]] at this
          exact trod_flat d e l h1 m _ _ this
      · cases h2
    · cases h

/-- What a slice of a plain type that came in is: its elements' cells, one behind the other. -/
def RowsOf (L : List Sc) (w : World) (p : Option Addr) (len : Nat) : Prop :=
  ∀ i, i < len → ∃ b off cs, p = some ⟨b, off, none⟩ ∧ AllOk L cs ∧ ∀ j v, cs[j]? = some v → w.cell? ⟨b, off + i * L.length + j, none⟩ = some v

theorem cells?_get {a : Addr} {n : Nat} {cs : List Value} (h : w.cells? base a n = some cs) : ∀ j v, cs[j]? = some v → w.cell? (a.add j) = some v := by
  intro j v hv
  unfold World.cells? at h
  split at h
  · have hlen := mapM_some_length h
    have hj : j < n := by have := (List.getElem?_eq_some_iff.1 hv).1; simp at hlen; omega
    have := mapM_some_get h j j (by simp [hj])
    rw [this, hv]
  · cases h

theorem rows_of_trod {t e : TypeId} {d : Nat} {L : List Sc} {p : Option Addr} {len cap : Nat} {x : DataW H} {ps : List MemPlace} (ht : P.underlying t = some (.slice e)) (hf : flat P d e = some L) (hc : P.cellsOf e = L.length) (hpos : 0 < L.length)
    (h : DataW.Trod enc P w base spare held t (.slice p len cap) x ps) : RowsOf L w p len ∧ len ≤ cap ∧ cap ≤ maxLen := by
  obtain ⟨fuel, h⟩ := h
  rcases Deep.open_slice ht h with ⟨h0, _⟩ | ⟨a, len', cap', m, n, D, Pl, h0, _, hl, hm, hmm, _, hel⟩
  · simp only [Value.cells] at h0
    simp only [List.cons.injEq, Value.slice.injEq, and_true] at h0
    obtain ⟨rfl, rfl, rfl⟩ := h0
    exact ⟨fun i hi => absurd hi (by omega), by omega, by unfold maxLen; omega⟩
  · simp only [Value.cells] at h0
    simp only [List.cons.injEq, Value.slice.injEq, and_true] at h0
    obtain ⟨rfl, rfl, rfl⟩ := h0
    refine ⟨fun i hi => ?_, hl, hm⟩
    have hlm : len ≤ m := by rw [hmm]; split <;> omega
    have key : ∀ i, i < len → ∃ cs, AllOk L cs ∧ ∀ j v, cs[j]? = some v → w.cell? ((a.add (i * L.length)).add j) = some v := by
      intro i hi
      obtain ⟨cs, h1, h2⟩ := hel i (by omega)
      rw [hc] at h1
      exact ⟨cs, trod_flat d e L hf n cs _ h2, cells?_get h1⟩
    obtain ⟨b, off, spot⟩ := a
    have hs : spot = none := by
      cases spot with
      | none => rfl
      | some s =>
        obtain ⟨cs, h1, h2⟩ := key 0 (by omega)
        have hl1 := h1.length
        have h3 := h2 0 (cs[0]'(by omega)) (by simp)
        simp only [Nat.zero_mul, World.cell?, Addr.add, if_pos] at h3
        split at h3 <;> simp_all
    subst hs
    obtain ⟨cs, h1, h2⟩ := key i hi
    refine ⟨b, off, cs, rfl, h1, fun j v hv => ?_⟩
    have := h2 j v hv
    rw [Deep.add_add] at this
    have ha : (⟨b, off, none⟩ : Addr).add (i * L.length + j) = ⟨b, off + i * L.length + j, none⟩ := by
      unfold Addr.add; split
      · rename_i h; rw [Nat.add_assoc, h]; rfl
      · simp [Nat.add_assoc]
    rwa [ha] at this

theorem RowsOf.frame {L : List Sc} {w w' : World} {p : Option Addr} {len : Nat} (h : RowsOf L w p len) (hf : Fr (fun _ => False) w w') : RowsOf L w' p len := fun i hi =>
  let ⟨b, off, cs, hp, h1, h2⟩ := h i hi
  ⟨b, off, cs, hp, h1, fun j v hv => (World.cell?_of_block (w := w) (hf.block b (cell_lt (h2 j v hv)) (fun h => h))).trans (h2 j v hv)⟩

/-- A struct or an array that came in by value. -/
theorem agg_of_trod {r : Reach} {b0 : Nat} {t : TypeId} {d : Nat} {L : List Sc} {v : Value} {x : DataW H} {ps : List MemPlace} (hv : Value.okWide P w r b0 t v) (hag : (∃ fs, P.underlying t = some (.struct fs)) ∨ ∃ n e, P.underlying t = some (.array n e))
    (hf : flat P d t = some L) (h : DataW.Trod enc P w base spare held t v x ps) : ∃ cs, v = .agg cs.toArray ∧ AllOk L cs := by
  have : ∃ cs, v = .agg cs := by
    unfold Value.okWide at hv
    rcases hag with ⟨fs, ht⟩ | ⟨n, e, ht⟩ <;> rw [ht] at hv <;> obtain ⟨cs, h, _⟩ := hv <;> exact ⟨cs, h⟩
  obtain ⟨cs, rfl⟩ := this
  obtain ⟨fuel, h⟩ := h
  exact ⟨cs.toList, by simp, trod_flat d t L hf fuel _ _ h⟩
end
end Go.Proofs.YtlcgmniahdngdaaGreatDoor
