/- Append of some elements to a row that is owned: where the new row lies. -/
import Derived.Test.YtmllbdiljjimmaaTwo
import Derived.Test.YtmllbdiljjimmaaNobody
namespace Go.Proofs.Ytmllbdiljjimmaa
open Go.RowKit

theorem run_append_some {P : Program} (w : World) (t ty e : TypeId) (i : TypeInfo) (z : Value) (bytes : Nat) (ht : P.underlying t = some (.slice e)) (hi : P.info? e = some i) (hz : i.zero = some z)
    (hsize : i.size = 1) (hby : i.bytes = bytes) (hzs : z.cells.size = 1)
    (v : Value) (n : Nat) (xs : List Value) (hown : w.ownsRow 0 e 1 v n xs)
    (a : Addr) (m c : Nat) (news : List Value) (hl : news.length = m) (hnews : ∀ j u, news[j]? = some u → w.cell? (a.add j) = some u) (h1 : ∀ u ∈ news, u.oneCell' = true)
    (hm : 0 < m ∨ v ≠ .slice none 0 0)
    (h63 : n + m ≤ maxLen) (hbytes : (n + m) * bytes ≤ 140737488355328) :
    ∃ g cap w', (Builtin.append_ #[t, t] ty #[v, .slice (some a) m c]).run P w = .ok (.slice (some ⟨g, 0, none⟩) (n + m) cap) w' ∧
      w'.ownsRow 0 e 1 (.slice (some ⟨g, 0, none⟩) (n + m) cap) (n + m) (xs ++ news) ∧ Fr (fun k => v.ownBlock = some k) w w' ∧ (v.ownBlock = some g ∨ w.heap.size ≤ g) := by
  by_cases hroom : ∃ g cap, v = .slice (some ⟨g, 0, none⟩) n cap ∧ n + m ≤ cap
  · obtain ⟨g, cap, rfl, hr⟩ := hroom
    obtain ⟨hlen, hh⟩ := hown
    rcases hh with ⟨h, _⟩ | ⟨g', cap', cur, hv, hb, hg, hnc, hcm, hcs, htake⟩
    · cases h
    · cases hv
      have hrun := run_append_room (P := P) w t ty e i ht hi g n cap cur hg a m c news (by simp [hsize, hl]) hnews h1 hr (by simp [hsize, hcs]; omega)
      refine ⟨g, cap, _, hrun, ⟨by simp [hlen, hl], .inr ⟨g, cap, _, rfl, hb, setRow_heap w g cur _ e _ hg, hr, hcm, ?_, ?_⟩⟩, ⟨rfl, rfl, rfl, by simp, fun k _ hk => setRow_other w g k _ (fun e => hk (by simp [Value.ownBlock, e]))⟩, .inl rfl⟩
      · simp [hsize, hcs, hl]; omega
      · simp only [hsize, Nat.mul_one] at htake ⊢
        rw [htake]
        have : xs.length = n := by simpa using hlen
        rw [← this, ← hl, ← List.length_append]
        exact List.take_left
  · have hm' : 0 < m := by
      rcases hm with h | h
      · exact h
      · rcases Nat.eq_zero_or_pos m with h0 | h0
        · exfalso
          obtain ⟨hlen, hh⟩ := hown
          rcases hh with ⟨h', _⟩ | ⟨g', cap', cur, hv, hb, hg, hnc, _⟩
          · exact h h'
          · exact hroom ⟨g', cap', hv, by omega⟩
        · exact h0
    obtain ⟨v', w', hrun, hown', hgr, hnil⟩ := run_append_own (P := P) w 0 t ty e i z 1 bytes ht hi hz hsize hby hzs (by decide) v n xs hown a m c news (by simp [hl]) hnews h1 h63 hbytes (Nat.zero_le _)
    have hnew : ∃ g cap, v' = .slice (some ⟨g, 0, none⟩) (n + m) cap := by
      rcases hown'.2 with ⟨_, h⟩ | ⟨g, cap, _, h, _⟩
      · omega
      · exact ⟨g, cap, h⟩
    obtain ⟨g, cap, rfl⟩ := hnew
    refine ⟨g, cap, w', hrun, hown', Fr.of_grown hgr, .inr ?_⟩
    obtain ⟨hlen, hh⟩ := hown
    rcases hh with ⟨rfl, rfl⟩ | ⟨g', cap', cur, rfl, hb, hg, hnc, hcm, hcs, htake⟩
    · have hx : xs = [] := List.eq_nil_of_length_eq_zero (by simpa using hlen)
      simp only [maxLen] at h63
      have hr := run_append_nil (P := P) w t ty e i z ht hi hz a m c news (by simp [hsize, hl]) hnews (by omega) (by omega) (by rw [hby]; rw [Nat.zero_add] at hbytes; exact Nat.le_trans hbytes (by decide))
      rw [hr] at hrun
      have := congrArg (fun r : Result Value => match r with | .ok (.slice (some p) _ _) _ => p.block | _ => 0) hrun
      simp at this
      omega
    · have hnr : ¬ n + m ≤ cap' := fun h => hroom ⟨g', cap', rfl, h⟩
      have holds : ∀ j u, xs[j]? = some u → w.cell? ((⟨g', 0, none⟩ : Addr).add j) = some u := (show w.ownsRow 0 e 1 _ n xs from ⟨hlen, .inr ⟨g', cap', cur, rfl, hb, hg, hnc, hcm, hcs, htake⟩⟩).cells (g := g') rfl
      have hr := run_append_grow (P := P) w t ty e i z ht hi hz ⟨g', 0, none⟩ n cap' xs (by simp [hlen, hsize]) holds a m c news (by simp [hsize, hl]) hnews (by omega) (by simp only [maxLen] at h63; omega) (growslice_fits (by omega) (by rw [hby]; exact hbytes))
      rw [hr] at hrun
      have := congrArg (fun r : Result Value => match r with | .ok (.slice (some p) _ _) _ => p.block | _ => 0) hrun
      simp at this
      omega

theorem wpList_append_some {P : Program} {w : World} {ops : Array Oper} {rest : List Oper} {o : Oper} {a : Act} {Q : Exit → Act → World → Prop} (hgd : o.guard = none) (s x : Operand) (t : TypeId)
    (ho : o.op = .call { callee := .builtin .append, args := #[s, x], argTypes := #[t, t] })
    (e : TypeId) (i : TypeInfo) (z : Value) (bytes : Nat) (ht : P.underlying t = some (.slice e)) (hi : P.info? e = some i) (hz : i.zero = some z)
    (hsize : i.size = 1) (hby : i.bytes = bytes) (hzs : z.cells.size = 1)
    (v : Value) (n : Nat) (xs : List Value) (hs : a.eval s = v) (hown : w.ownsRow 0 e 1 v n xs)
    (ad : Addr) (m c : Nat) (news : List Value) (hx : a.eval x = .slice (some ad) m c) (hl : news.length = m) (hnews : ∀ j u, news[j]? = some u → w.cell? (ad.add j) = some u) (h1 : ∀ u ∈ news, u.oneCell' = true)
    (hm : 0 < m ∨ v ≠ .slice none 0 0)
    (h63 : n + m ≤ maxLen) (hbytes : (n + m) * bytes ≤ 140737488355328)
    (h : ∀ g cap w', w'.ownsRow 0 e 1 (.slice (some ⟨g, 0, none⟩) (n + m) cap) (n + m) (xs ++ news) → Fr (fun k => v.ownBlock = some k) w w' → (v.ownBlock = some g ∨ w.heap.size ≤ g) →
      wpList P ops Q rest (a.put o.dst (.slice (some ⟨g, 0, none⟩) (n + m) cap)) w') : wpList P ops Q (o :: rest) a w := by
  refine wpList_plain hgd fun K hK => ?_
  obtain ⟨g, cap, w', hr, h2, h3, h4⟩ := run_append_some (P := P) w t o.type e i z bytes ht hi hz hsize hby hzs v n xs hown ad m c news hl hnews h1 hm h63 hbytes
  unfold Oper.wp execOp
  simp only [ho, resolve, invoke, builtin, Sem.run_bind, Sem.run_pure, Result.andThen_ok, List.map_toArray, List.map_cons, List.map_nil, hs, hx, hr]
  exact hK _ _ (h g cap w' h2 h3 h4)

/-! ### Floats that cancel -/
/-- What the law adds. -/
def pairs : List Nat → List Nat
  | [] => []
  | g :: l => if kindF g < 3 then g :: flipF g :: pairs l else pairs l
theorem pairs_take {gs : List Nat} {k g : Nat} (h : gs[k]? = some g) : pairs (gs.take (k + 1)) = pairs (gs.take k) ++ if kindF g < 3 then [g, flipF g] else [] := by
  induction gs generalizing k with
  | nil => simp at h
  | cons a l ih =>
    cases k with
    | zero => simp at h; subst h; simp [pairs]
    | succ k =>
      rw [List.take_succ_cons, List.take_succ_cons, pairs, pairs, ih (by simpa using h)]
      split <;> rfl
theorem xor_twice (x c : Nat) : (x ^^^ c) ^^^ c = x := by rw [Nat.xor_assoc, Nat.xor_self, Nat.xor_zero]
theorem flip_flip (x : Nat) : flipF (flipF x) = x := xor_twice x 9223372036854775808
theorem flip_eq {b : Nat} (hb : b < 18446744073709551616) : flipF b = if 9223372036854775808 ≤ b then b - 9223372036854775808 else b + 9223372036854775808 := by
  by_cases h : 9223372036854775808 ≤ b
  · rw [if_pos h]
    obtain ⟨c, hc⟩ : ∃ c, c = b - 9223372036854775808 := ⟨_, rfl⟩
    have h1 := flip_low (b := c) (by omega)
    have h2 := flip_flip c
    rw [h1, show c + 9223372036854775808 = b by omega] at h2
    rw [h2, hc]
  · rw [if_neg h, flip_low (by omega)]
theorem flip_neg {b : Nat} (hb : b < 18446744073709551616) : flipF b < 18446744073709551616 ∧ rungF (flipF b) = rungF b ∧ negF (flipF b) = !negF b := by
  have hd : flipF b = if 9223372036854775808 ≤ b then b - 9223372036854775808 else b + 9223372036854775808 := flip_eq hb
  rw [hd]
  unfold rungF negF
  by_cases h : 9223372036854775808 ≤ b
  · rw [if_pos h]
    refine ⟨by omega, by omega, ?_⟩
    rw [decide_eq_true h]; simp; omega
  · rw [if_neg h]
    refine ⟨by omega, by omega, ?_⟩
    rw [decide_eq_false h]; simp

theorem kind_flip {b : Nat} (hb : b < 18446744073709551616) : kindF (flipF b) = kindF b ∧ magF (flipF b) = magF b := by
  obtain ⟨_, h, _⟩ := flip_neg hb
  unfold kindF
  rw [expo_rung (flipF b), frac_rung (flipF b), expo_rung b, frac_rung b, mag_rung (flipF b), mag_rung b, h]
  exact ⟨rfl, rfl⟩
theorem contrib_flip {b : Nat} (hb : b < 18446744073709551616) (hk : kindF b < 3) : contrib b + contrib (flipF b) = 0 := by
  obtain ⟨_, _, h⟩ := flip_neg hb
  obtain ⟨h1, h2⟩ := kind_flip hb
  unfold contrib svalF
  rw [h1, h2, h, if_pos hk, if_pos hk]
  cases negF b
  · rw [if_neg Bool.false_ne_true]; show (magF b : Int) + (if true = true then _ else _) = 0; rw [if_pos rfl]; omega
  · rw [if_pos rfl]; show -(magF b : Int) + (if false = true then _ else _) = 0; rw [if_neg Bool.false_ne_true]; omega

/-- The same but for zeroes that cancel. -/
def SameBut (g h : Got) : Prop := h.total = g.total ∧ h.nan = g.nan ∧ h.plus = g.plus ∧ h.minus = g.minus
theorem sameBut_pair {g : Got} {x : Nat} (hb : x < 18446744073709551616) (hk : kindF x < 3) : SameBut g ((g.add x).add (flipF x)) := by
  obtain ⟨h1, _⟩ := kind_flip hb
  have hc := contrib_flip hb hk
  unfold Got.add SameBut
  dsimp only
  rw [h1]
  have e1 : (kindF x == 4) = false := by rw [beq_eq_false_iff_ne]; omega
  have e3 : (kindF x == 3) = false := by rw [beq_eq_false_iff_ne]; omega
  rw [e1, e3]
  refine ⟨by omega, by simp, by simp, by simp⟩
theorem Got.of_append (l m : List Nat) : Got.of (l ++ m) = m.foldl Got.add (Got.of l) := List.foldl_append ..
theorem sameBut_pairs (gs : List Nat) (hl : ∀ g ∈ gs, g < 18446744073709551616) : ∀ g h : Got, SameBut g h → SameBut g ((pairs gs).foldl Got.add h) := by
  induction gs with
  | nil => intro g h k; exact k
  | cons x l ih =>
    intro g h k
    have ih' := ih (fun y hy => hl y (List.mem_cons_of_mem _ hy))
    unfold pairs
    by_cases hk : kindF x < 3
    · rw [if_pos hk, List.foldl_cons, List.foldl_cons]
      refine ih' g _ ?_
      obtain ⟨a1, a2, a3, a4⟩ := sameBut_pair (g := h) (hl x List.mem_cons_self) hk
      obtain ⟨b1, b2, b3, b4⟩ := k
      exact ⟨a1.trans b1, a2.trans b2, a3.trans b3, a4.trans b4⟩
    · rw [if_neg hk]; exact ih' g h k
theorem pairs_lt {gs : List Nat} (hl : ∀ g ∈ gs, g < 18446744073709551616) : ∀ g ∈ pairs gs, g < 18446744073709551616 := by
  induction gs with
  | nil => intro g hg; simp [pairs] at hg
  | cons x l ih =>
    have ih' := ih (fun y hy => hl y (List.mem_cons_of_mem _ hy))
    have hx := hl x List.mem_cons_self
    intro g hg
    unfold pairs at hg
    split at hg
    · rcases List.mem_cons.1 hg with rfl | hg
      · exact hx
      · rcases List.mem_cons.1 hg with rfl | hg
        · exact (flip_neg hx).1
        · exact ih' g hg
    · exact ih' g hg
theorem pairs_len (gs : List Nat) : (pairs gs).length ≤ 2 * gs.length := by
  induction gs with
  | nil => simp [pairs]
  | cons x l ih => unfold pairs; split <;> simp <;> omega

theorem whole_total {g : Got} (h1 : g.nan = false) (h2 : g.plus = false) (h3 : g.minus = false) : g.whole = if g.total < 0 ∨ (0 < g.count ∧ g.zeroes = g.count) then rnd g.total.natAbs + 9223372036854775808 else rnd g.total.natAbs := by
  unfold Got.whole
  rw [h1, h2, h3]
  rw [if_neg (by decide), if_neg (by decide), if_neg (by decide)]
theorem whole_zero {g : Got} (h1 : g.nan = false) (h2 : g.plus = false) (h3 : g.minus = false) (h : g.total = 0) : kindF g.whole = 0 := by
  rw [whole_total h1 h2 h3, h, Int.natAbs_zero, rnd_zero]
  split <;> decide

/-- Floats that cancel leave the whole, but for a zero's sign. -/
theorem cancel_whole (fs gs : List Nat) (hf : ∀ f ∈ fs, f < 18446744073709551616) (hg : ∀ f ∈ gs, f < 18446744073709551616) :
    (Got.of (fs ++ pairs gs)).whole = (Got.of fs).whole ∨ (kindF (Got.of fs).whole = 0 ∧ kindF (Got.of (fs ++ pairs gs)).whole = 0) := by
  obtain ⟨a1, a2, a3, a4⟩ := sameBut_pairs gs hg (Got.of fs) (Got.of fs) ⟨rfl, rfl, rfl, rfl⟩
  rw [← Got.of_append] at a1 a2 a3 a4
  obtain ⟨⟨_, _, _, _, c1, _, z1⟩, _⟩ := alike_of fs hf
  obtain ⟨⟨_, _, _, _, c2, _, z2⟩, _⟩ := alike_of (fs ++ pairs gs) (fun f h => by
    rcases List.mem_append.1 h with h | h
    · exact hf f h
    · exact pairs_lt hg f h)
  generalize Got.of (fs ++ pairs gs) = h at *
  generalize Got.of fs = g at *
  by_cases c : (g.nan || (g.plus && g.minus)) = true
  · left; unfold Got.whole; rw [a2, a3, a4, if_pos c, if_pos c]
  · by_cases cp : g.plus = true
    · left; unfold Got.whole; rw [a2, a3, a4, if_neg c, if_pos cp, if_neg c, if_pos cp]
    · by_cases cm : g.minus = true
      · left; unfold Got.whole; rw [a2, a3, a4, if_neg c, if_neg cp, if_pos cm, if_neg c, if_neg cp, if_pos cm]
      · have n1 : g.nan = false := by
          rw [Bool.or_eq_true, not_or] at c
          exact Bool.not_eq_true _ ▸ c.1
        rw [Bool.not_eq_true] at cp cm
        by_cases ht : g.total = 0
        · right; exact ⟨whole_zero n1 cp cm ht, whole_zero (a2.trans n1) (a3.trans cp) (a4.trans cm) (a1.trans ht)⟩
        · left
          rw [whole_total n1 cp cm, whole_total (a2.trans n1) (a3.trans cp) (a4.trans cm), a1]
          have k1 : ¬ (0 < g.count ∧ g.zeroes = g.count) := fun k => ht (z1 (k.2.trans c1))
          have k2 : ¬ (0 < h.count ∧ h.zeroes = h.count) := fun k => ht (a1.symm.trans (z2 (k.2.trans c2)))
          by_cases hn : g.total < 0
          · rw [if_pos (.inl hn), if_pos (.inl hn)]
          · rw [if_neg (by rintro (k | k); exact hn k; exact k2 k), if_neg (by rintro (k | k); exact hn k; exact k1 k)]
end Go.Proofs.Ytmllbdiljjimmaa
