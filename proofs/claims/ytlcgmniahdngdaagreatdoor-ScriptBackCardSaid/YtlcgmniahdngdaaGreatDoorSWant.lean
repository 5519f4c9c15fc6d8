/- What the law of ScriptBack wants: rows of the document's operations; the one NaN. -/
import Derived.Test.YtlcgmniahdngdaaGreatDoorSRSame
namespace Go.Proofs.YtlcgmniahdngdaaGreatDoor
open Go.RowKit Go.Great

def canonO (o : OpR) : OpR := { o with q := canonF o.q }
theorem text_canon (q : Nat) : textF (canonF q) = textF q := by
  unfold canonF
  split
  · rename_i h
    rw [text_nan]; unfold textF; rw [if_pos h]
  · rfl
theorem field_canon (o : OpR) (h : Nat) (c : UInt8) : fieldB (canonO o) h c = fieldB o h c := by
  unfold fieldB canonO
  simp only [text_canon]
theorem fields_canon (o : OpR) : ∀ (s : List UInt8) (h : Nat), fieldsO (canonO o) h s = fieldsO o h s
  | [], _ => rfl
  | c :: s, h => by
    show fieldB (canonO o) h c :: fieldsO (canonO o) (upH h c) s = _
    rw [field_canon, fields_canon o s]; rfl
theorem line_canon (o : OpR) : lineB (canonO o) = lineB o := by
  unfold lineB
  rw [fields_canon]; rfl
theorem textO_canon (os : List OpR) : textO (os.map canonO) = textO os := by
  unfold textO
  rw [List.map_map]
  congr 1
  exact List.map_congr_left (fun o _ => line_canon o)
theorem canon_twice (q : Nat) : canonF (canonF q) = canonF q := by
  by_cases h : kindF q = 4
  · rw [canon_nan h]; exact canon_nan (by decide)
  · rw [canon_num h]; exact canon_num h
theorem canon_ok {o : OpR} (h : o.Ok) : (canonO o).Ok := ⟨h.k, h.a, h.b, h.i, h.p, h.f, h.g, h.x, canon_lt h.q⟩
theorem canon_zero {q : Nat} (h : q = 0) : canonF q = 0 := by subst h; exact canon_num (by decide)
theorem canon_good {o : OpR} (h : goodO o = true) : goodO (canonO o) = true := by
  obtain ⟨hk, hr⟩ := Bool.and_eq_true_iff.1 h
  refine Bool.and_eq_true_iff.2 ⟨hk, ?_⟩
  unfold rightS badB at hr ⊢
  show (!((!(shB o.k).contains 97 && o.a != 0) || (!(shB o.k).contains 98 && o.b != 0) || (!(shB o.k).contains 105 && o.i != 0) || (!(shB o.k).contains 119 && o.x != 0) || (!(shB o.k).contains 102 && canonF o.q != 0)) && ((shB o.k).contains 104 || (o.p == 0 && o.f == 0 && o.g == 0))) = true
  by_cases hc : (shB o.k).contains 102 = true
  · rw [hc] at hr ⊢; simpa using hr
  · have hq : o.q = 0 := (right_fields (by unfold rightS badB; exact hr)).2.2.2.2.1 (by simpa using hc)
    rw [hq] at hr
    rw [canon_zero hq]
    exact hr
/-- The document's Right at any operation. -/
theorem right_any (o : OpR) (w : World) : Calls Tryz.prog 6 #[o.rval] w (RtPost w (goodO o)) := by
  unfold goodO
  cases hk : isK o.k
  · rw [Bool.false_and]; exact right_bad o hk w
  · rw [Bool.true_and]; exact right_of o hk w
/-- The rows wanted: the first ones with the one NaN for any. -/
def wantR (os : List OpR) (i : Nat) : List (OpR × Nat) := (os.take i).map (fun o => (o, canonF o.q)) ++ (os.drop i).map (fun o => (o, o.q))
theorem wantR_len (os : List OpR) (i : Nat) : (wantR os i).length = os.length := by
  unfold wantR
  rw [List.length_append, List.length_map, List.length_map, List.length_take, List.length_drop]
  omega
theorem wantR_at {os : List OpR} {i : Nat} {o : OpR} (h : os[i]? = some o) : (wantR os i)[i]? = some (o, o.q) := by
  have hi := (List.getElem?_eq_some_iff.1 h).1
  unfold wantR
  have hl : ((os.take i).map (fun o => (o, canonF o.q))).length = i := by rw [List.length_map, List.length_take]; omega
  rw [List.getElem?_append_right (by omega), hl, Nat.sub_self, List.getElem?_map, List.getElem?_drop, Nat.add_zero, h]
  rfl
theorem wantR_step {os : List OpR} {i : Nat} {o : OpR} (h : os[i]? = some o) : wantR os (i + 1) = (wantR os i).set i (o, canonF o.q) := by
  have hi := (List.getElem?_eq_some_iff.1 h).1
  unfold wantR
  have hl : ((os.take i).map (fun o => (o, canonF o.q))).length = i := by rw [List.length_map, List.length_take]; omega
  rw [List.set_append_right _ _ (by omega), hl, Nat.sub_self]
  have hd : os.drop i = o :: os.drop (i + 1) := by
    rw [List.drop_eq_getElem_cons hi]
    congr 1
    rw [List.getElem?_eq_getElem hi] at h
    exact Option.some.inj h
  rw [hd, List.take_add_one, h, List.map_append, List.map_cons, List.set_cons_zero]
  simp
theorem wantR_same {os : List OpR} {i : Nat} {o : OpR} (h : os[i]? = some o) (hk : canonF o.q = o.q) : wantR os (i + 1) = wantR os i := by
  rw [wantR_step h, hk]
  apply List.ext_getElem?
  intro j
  rw [List.getElem?_set]
  split
  · rename_i e
    subst e
    rw [wantR_at h, if_pos (by rw [wantR_len]; exact (List.getElem?_eq_some_iff.1 h).1)]
  · rfl
theorem wantR_zero (os : List OpR) : wantR os 0 = os.map fun o => (o, o.q) := rfl
theorem wantR_all (os : List OpR) : wantR os os.length = os.map fun o => (o, canonF o.q) := by unfold wantR; rw [List.take_length, List.drop_length]; simp
theorem rRow_set : ∀ (rs : List (OpR × Nat)) (i : Nat) (o : OpR) (b b' : Nat), rs[i]? = some (o, b) → (rRow rs).set (i * 10 + 9) (.int .u64 (b' : Int)) = rRow (rs.set i (o, b'))
  | x :: os, 0, o, b, b', h => by
    cases h
    show (rc (o, b) ++ rRow os).set (0 * 10 + 9) _ = rc (o, b') ++ rRow os
    rw [Nat.zero_mul, Nat.zero_add, List.set_append_left _ _ (by show 9 < 10; omega)]
    rfl
  | x :: os, i + 1, o, b, b', h => by
    show (rc x ++ rRow os).set ((i + 1) * 10 + 9) _ = rc x ++ rRow (os.set i (o, b'))
    rw [List.set_append_right _ _ (by show 10 ≤ _; omega), show (i + 1) * 10 + 9 - (rc x).length = i * 10 + 9 by show _ - 10 = _; omega, rRow_set os i o b b' h]
theorem own_set {w : World} {B : Nat} {e : TypeId} {size n cap g k : Nat} {xs : List Value} (h : w.ownsRow B e size (.slice (some ⟨g, 0, none⟩) n cap) n xs) (hk : k < n * size) (u : Value) : (w.setCell ⟨g, k, none⟩ u).ownsRow B e size (.slice (some ⟨g, 0, none⟩) n cap) n (xs.set k u) := by
  obtain ⟨hl, hh⟩ := h
  refine ⟨by rw [List.length_set]; exact hl, ?_⟩
  rcases hh with ⟨h0, _⟩ | ⟨g', cap', cur, hv, hb, hg, hn, hm, hs, ht⟩
  · cases h0
  · cases hv
    refine .inr ⟨g, cap, (cur.toList.set k u).toArray, rfl, hb, ?_, hn, hm, by simp [hs], ?_⟩
    · have : Blk w g cur.toList e := by unfold Blk; simpa using hg
      exact this.set k u
    · rw [← ht]
      simp only [List.toList_toArray]
      rw [List.take_set]
theorem rat_of {w : World} {B : Nat} {v : Value} {rs : List (OpR × Nat)} (h : w.ownsRow B 34 10 v rs.length (rRow rs)) : ∃ p cap, v = .slice p rs.length cap ∧ RAt w p rs ∧ (∀ g off, p = some ⟨g, off, none⟩ → off = 0 ∧ B ≤ g ∧ ∀ k, w.frozen? ⟨g, k, none⟩ = false) ∧ (rs ≠ [] → ∃ g, p = some ⟨g, 0, none⟩) := by
  rcases h.2 with ⟨rfl, h0⟩ | ⟨g, cap, cur, rfl, hB, hg, _⟩
  · have : rs = [] := List.eq_nil_of_length_eq_zero h0
    subst this
    exact ⟨none, 0, rfl, fun i o ho => by simp at ho, fun g off h => by (cases h), fun h => absurd rfl h⟩
  · refine ⟨some ⟨g, 0, none⟩, cap, rfl, fun i o ho => ⟨g, 0, rfl, (Array.getElem?_eq_some_iff.1 hg).1, fun j x hx => ?_⟩, ?_, fun _ => ⟨g, rfl⟩⟩
    · have hc := h.cells (g := g) rfl (i * 10 + j) x (rRow_at rs i o ho j x hx)
      have ha : (⟨g, 0, none⟩ : Addr).add (i * 10 + j) = ⟨g, 0 + i * 10 + j, none⟩ := by rw [Addr.add_mid, Nat.add_assoc]
      rw [ha] at hc
      exact hc
    · intro g' off' e
      cases e
      have hb : Blk w g cur.toList 34 := by unfold Blk; simpa using hg
      exact ⟨rfl, hB, fun k => hb.free k⟩
end Go.Proofs.YtlcgmniahdngdaaGreatDoor
