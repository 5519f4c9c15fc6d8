/- The walk of the law ExactMerges. -/
import Derived.Test.YtmllbdiljjimmaaCancels
import Derived.Deep.RegionLaw
namespace Go.Proofs.Ytmllbdiljjimmaa
open Go.RowKit

theorem add_swap (g : Got) (x y : Nat) : (g.add x).add y = (g.add y).add x := by
  unfold Got.add
  dsimp only
  congr 1
  · omega
  · rw [Bool.or_assoc, Bool.or_assoc, Bool.or_comm (kindF x == 4)]
  · rw [Bool.or_assoc, Bool.or_assoc, Bool.or_comm (kindF x == 3 && _)]
  · rw [Bool.or_assoc, Bool.or_assoc, Bool.or_comm (kindF x == 3 && _)]
  · omega
theorem fold_perm {l m : List Nat} (h : l.Perm m) : ∀ g : Got, l.foldl Got.add g = m.foldl Got.add g := by
  induction h with
  | nil => intro g; rfl
  | cons x _ ih => intro g; exact ih _
  | swap x y l => intro g; rw [List.foldl_cons, List.foldl_cons, List.foldl_cons, List.foldl_cons, add_swap]
  | trans _ _ i1 i2 => intro g; rw [i1, i2]
theorem got_perm {l m : List Nat} (h : l.Perm m) : Got.of l = Got.of m := fold_perm h _
theorem merge_fold (g : Got) (l : List Nat) : ∀ h : Got, g.merge (l.foldl Got.add h) = l.foldl Got.add (g.merge h) := by
  induction l with
  | nil => intro h; rfl
  | cons x l ih =>
    intro h
    rw [List.foldl_cons, List.foldl_cons, ih]
    congr 1
    unfold Got.merge Got.add
    dsimp only
    congr 1
    · omega
    · rw [Bool.or_assoc]
    · rw [Bool.or_assoc]
    · rw [Bool.or_assoc]
    · omega
theorem merge_none (g : Got) : g.merge Got.none = g := by
  unfold Got.merge Got.none
  cases g
  simp
theorem merge_of (l m : List Nat) : (Got.of l).merge (Got.of m) = Got.of (l ++ m) := by
  rw [Got.of_append]
  show (Got.of l).merge (m.foldl Got.add Got.none) = _
  rw [merge_fold, merge_none]
theorem merge_parts (fs : List Nat) (k : Nat) (hk : k ≤ fs.length) : (Got.of (fs.take k)).merge (Got.of (fs.reverse.take (fs.length - k))) = Got.of fs := by
  rw [merge_of]
  refine got_perm ?_
  rw [List.take_reverse, show fs.length - (fs.length - k) = k by omega]
  have h1 : (fs.take k ++ (fs.drop k).reverse).Perm (fs.take k ++ fs.drop k) := List.Perm.append_left _ (List.reverse_perm _)
  rwa [List.take_append_drop] at h1
theorem round_parts (fs : List Nat) (k : Nat) : Got.of (fs.drop k ++ fs.take k) = Got.of fs := by
  refine got_perm ?_
  have h1 : (fs.drop k ++ fs.take k).Perm (fs.take k ++ fs.drop k) := List.perm_append_comm
  rwa [List.take_append_drop] at h1

/-- append of some elements to a row that is owned, as one step of a region that draws. -/
theorem step_append_some {P : Program} {ops : Array Oper} {o : Oper} {a : Act} {w : World} {K : Act → World → Prop} {Q : Exit → Act → World → Prop} {E : Prop} (hgd : o.guard = none) (s x : Operand) (t : TypeId)
    (ho : o.op = .call { callee := .builtin .append, args := #[s, x], argTypes := #[t, t] })
    (e : TypeId) (i : TypeInfo) (z : Value) (bytes : Nat) (ht : P.underlying t = some (.slice e)) (hi : P.info? e = some i) (hz : i.zero = some z)
    (hsize : i.size = 1) (hby : i.bytes = bytes) (hzs : z.cells.size = 1)
    (v : Value) (n : Nat) (xs : List Value) (hs : a.eval s = v) (hown : w.ownsRow 0 e 1 v n xs)
    (ad : Addr) (m c : Nat) (news : List Value) (hx : a.eval x = .slice (some ad) m c) (hl : news.length = m) (hnews : ∀ j u, news[j]? = some u → w.cell? (ad.add j) = some u) (h1 : ∀ u ∈ news, u.oneCell' = true)
    (hm : 0 < m ∨ v ≠ .slice none 0 0)
    (h63 : n + m ≤ maxLen) (hbytes : (n + m) * bytes ≤ 140737488355328)
    (h : ∀ g cap w', w'.ownsRow 0 e 1 (.slice (some ⟨g, 0, none⟩) (n + m) cap) (n + m) (xs ++ news) → Fr (fun k => v.ownBlock = some k) w w' → (v.ownBlock = some g ∨ w.heap.size ≤ g) →
      K (a.put o.dst (.slice (some ⟨g, 0, none⟩) (n + m) cap)) w') : if Region.wanted o (yielded ops a.tmps) = true then Oper.wp P o a w K Q else E := by
  have hw : Region.wanted o (yielded ops a.tmps) = true := by simp [Region.wanted, hgd]
  rw [if_pos hw]
  obtain ⟨g, cap, w', hr, h2, h3, h4⟩ := run_append_some (P := P) w t o.type e i z bytes ht hi hz hsize hby hzs v n xs hown ad m c news hl hnews h1 hm h63 hbytes
  unfold Oper.wp
  simp only [execOp, ho, resolve, invoke, builtin, Sem.run_bind, Sem.run_pure, Result.andThen_ok, List.map_toArray, List.map_cons, List.map_nil, hs, hx, hr]
  exact h g cap w' h2 h3 h4

theorem cut_of (cut : Int) (len : Nat) : ∃ k : Nat, (IntKind.u64.wrap cut).tmod ((len : Int) + 1) = (k : Int) ∧ k ≤ len := by
  have h1 : 0 ≤ IntKind.u64.wrap cut := by
    have : IntKind.u64.wrap cut = cut % 18446744073709551616 := by rfl
    rw [this]; exact Int.emod_nonneg _ (by decide)
  generalize IntKind.u64.wrap cut = x at *
  refine ⟨(x % ((len : Int) + 1)).toNat, ?_, ?_⟩
  · rw [Int.tmod_eq_emod_of_nonneg h1]
    have := Int.emod_nonneg x (show ((len : Int) + 1) ≠ 0 by omega)
    omega
  · have := Int.emod_lt_of_pos x (show 0 < ((len : Int) + 1) by omega)
    omega
theorem turn_of (turn len : Nat) (h : 0 < len) : ∃ t : Nat, ((turn : Int)).tmod (len : Int) = (t : Int) ∧ t < len :=
  ⟨turn % len, by rw [Int.tmod_eq_emod_of_nonneg (by omega)]; omega, Nat.mod_lt _ h⟩

theorem frow_shape {W w : World} {v : Value} {fs : List Nat} (h : FRow W v fs w) (h0 : 0 < fs.length) : ∃ g cap, v = .slice (some ⟨g, 0, none⟩) fs.length cap ∧ fs.length ≤ cap ∧ W.heap.size ≤ g ∧ g < w.heap.size := by
  have hlt := h.lt
  obtain ⟨ho, hb, hl, _⟩ := h
  rcases ho.2 with ⟨rfl, h1⟩ | ⟨g, cap, cur, rfl, _, hg, hnc, _⟩
  · omega
  · exact ⟨g, cap, rfl, hnc, hb g rfl, hlt g rfl⟩

theorem frow_flts {W w : World} {p : Option Addr} {n cap : Nat} {fs : List Nat} (h : FRow W (.slice p n cap) fs w) : Flts w p n fs := by
  obtain ⟨p', cap', e, h', _⟩ := flts_of_row h
  cases e
  exact h'

theorem own_empty (w : World) : (w.alloc (.cells #[] 26)).ownsRow 0 26 1 (.slice (some ⟨w.heap.size, 0, none⟩) 0 0) 0 [] :=
  ⟨rfl, .inr ⟨w.heap.size, 0, #[], rfl, Nat.zero_le _, heap_alloc_new w _, Nat.le_refl _, by decide, rfl, rfl⟩⟩

theorem flts_of_own {w : World} {g n cap : Nat} {xs : List Nat} (ho : w.ownsRow 0 26 1 (.slice (some ⟨g, 0, none⟩) n cap) n (fvals xs)) (hl : ∀ f ∈ xs, f < 18446744073709551616) : Flts w (some ⟨g, 0, none⟩) n xs := by
  have hn : xs.length = n := by have := ho.1; unfold fvals at this; simpa using this
  refine ⟨hn, fun i hi => ?_⟩
  have hc := ho.cells (g := g) rfl i (.float .f64 xs[i]) (by unfold fvals; simp [show i < xs.length by omega])
  refine ⟨g, 0, xs[i], rfl, by simp [show i < xs.length by omega], hl _ (List.getElem_mem _), ?_⟩
  have ha : (⟨g, 0, none⟩ : Addr).add i = ⟨g, 0 + i, none⟩ := by unfold Addr.add; split <;> simp_all
  rw [ha] at hc
  exact hc
theorem flts_news {w : World} {g n : Nat} {fs : List Nat} (h : Flts w (some ⟨g, 0, none⟩) n fs) (t : Nat) : ∀ j u, (fvals (fs.drop t))[j]? = some u → w.cell? ((⟨g, t, none⟩ : Addr).add j) = some u := by
  intro j u hj
  unfold fvals at hj
  rw [List.getElem?_map, List.getElem?_drop] at hj
  cases hf : fs[t + j]? with
  | none => rw [hf] at hj; cases hj
  | some f =>
    rw [hf] at hj
    have hlt : t + j < n := by have := h.1; have := (List.getElem?_eq_some_iff.1 hf).1; omega
    obtain ⟨pb, off, f', e, hx, _, hc⟩ := h.2 (t + j) hlt
    cases e
    rw [hx] at hf
    cases hf
    have ha : (⟨g, t, none⟩ : Addr).add j = ⟨g, 0 + (t + j), none⟩ := by rw [Nat.zero_add]; unfold Addr.add; split <;> simp_all
    rw [ha, hc]
    simpa using hj
theorem fvals_cells (fs : List Nat) : ∀ u ∈ fvals fs, u.oneCell' = true := by
  intro u hu
  unfold fvals at hu
  obtain ⟨f, _, rfl⟩ := List.mem_map.1 hu
  rfl
theorem fvals_take {w : World} {g n : Nat} {fs : List Nat} (h : Flts w (some ⟨g, 0, none⟩) n fs) (t : Nat) : ∀ j u, (fvals (fs.take t))[j]? = some u → w.cell? ((⟨g, 0, none⟩ : Addr).add j) = some u := by
  intro j u hj
  refine flts_news h 0 j u ?_
  unfold fvals at hj ⊢
  rw [List.drop_zero]
  rw [List.getElem?_map, List.getElem?_take] at hj
  rw [List.getElem?_map]
  split at hj
  · exact hj
  · cases hj

/-- Where the law stands. -/
def MrgRel (W : World) (v : Value) (fs : List Nat) (bA bB : Nat) (A B : List Nat) (wr : World) : Prop :=
  SumG wr bA (Got.of A) ∧ SumG wr bB (Got.of B) ∧ FRow W v fs wr

set_option maxRecDepth 100000 in
set_option maxHeartbeats 3200000 in
theorem ExactMerges_any (p1 : Option Addr) (len1 cap1 : Nat) (fs : List Nat) (turn : Nat) (cut : Int) (W : World) (h1 : Words W p1 len1 fs) (hturn : turn < 256) :
    Calls Try.prog 6 #[.slice p1 len1 cap1, .int .u8 (turn : Int), .int .i64 cut] W (LawPost W) := by
  have HLIVE := Lib.hid lives_any
  by_cases h0 : len1 = 0
  · subst h0
    clear h1
    go_enter Try.func6, Try.ntmps6
    go_wp2_with fail
    refine (HLIVE.out W).mono ?_
    rintro e w1 ⟨rfl, hf⟩
    have HF := Lib.hid hf
    clear hf
    go_wp2
    go_ret
    exact ⟨rfl, HF.out⟩
  have d0 : ((len1 : Int) == 0) = false := by rw [beq_eq_false_iff_ne]; omega
  by_cases h60 : 200 < len1
  · have d1 : decide ((200 : Int) < (len1 : Int)) = true := by rw [decide_eq_true_eq]; omega
    clear h1 h0 h60
    go_enter Try.func6, Try.ntmps6
    go_wp2_with fail
    refine (HLIVE.out W).mono ?_
    rintro e w1 ⟨rfl, hf⟩
    have HF := Lib.hid hf
    clear hf
    go_wp2
    go_ret
    exact ⟨rfl, HF.out⟩
  have d1 : decide ((200 : Int) < (len1 : Int)) = false := by rw [decide_eq_false_iff_not]; omega
  have hi1 : (len1 : Int) ≤ 200 := by omega
  have hfl1 := h1.len
  obtain ⟨i0, hi, hz0, hz1, hz2⟩ := info_parts info_float
  have HFL1 := Lib.hid (floats_any p1 len1 cap1 fs W h1.1 h1.2 (by omega))
  have HNEW := Lib.hid new_got
  obtain ⟨k, hcut, hk⟩ := cut_of cut len1
  have hturn2 : (turn : Int) < 256 := by omega
  obtain ⟨t, htn, ht⟩ := turn_of turn len1 (by omega)
  have HOK1 := Got.ok_of fs
  have hmp := merge_parts fs k (by omega)
  have hrp := round_parts fs t
  have HW1 := h1
  clear h1 h0 h60 hturn
  go_enter Try.func6, Try.ntmps6
  go_wp2_with fail
  refine (HFL1.out).mono ?_
  rintro e w1 ⟨v1, rfl, hr1⟩
  obtain ⟨g, c1, rfl, hc1, hg1, hg2⟩ := frow_shape hr1 (by omega)
  rw [hfl1] at hc1
  rw [hfl1] at hr1 ⊢
  have HR1 := Lib.hid hr1
  have HG := Lib.hid hg1
  have HG2 := Lib.hid hg2
  clear hr1 HFL1 hg1 hg2
  go_wp2_with fail
  refine (HNEW.out w1).mono ?_
  rintro e w2 ⟨rfl, ga, fa, la⟩
  generalize hbA : w1.heap.size = bA at *
  have HGA := Lib.hid ga
  have HFA := Lib.hid fa
  have HLA := Lib.hid la
  have HBA : Hid (W.heap.size ≤ bA) := by rw [← hbA]; exact HR1.out.2.2.2.size
  clear ga fa la hbA
  go_wp2_with fail
  refine (HNEW.out w2).mono ?_
  rintro e w3 ⟨rfl, gb, fb, lb⟩
  generalize hbB : w2.heap.size = bB at *
  have HAB : Hid (bA < bB ∧ g < bA) := ⟨HLA.out, HG2.out⟩
  have HREL : Hid (MrgRel W (.slice (some ⟨g, 0, none⟩) len1 c1) fs bA bB [] [] w3) :=
    ⟨HGA.out.frame fb (fun h => h), gb, (HR1.out.frame HFA.out (fun _ _ h => h) (fun _ h => h.elim)).frame fb (fun _ _ h => h) (fun _ h => h.elim)⟩
  have HBB : Hid (W.heap.size ≤ bB) := by have := HBA.out; have := HAB.out.1; exact Lib.hid (by omega)
  clear gb fb lb HNEW hbB HGA HFA HR1 HLA HG2
  go_wp2_with fail
  go_loopw [49] (fun i wr => ∃ j : Nat, j ≤ k ∧ i = .int .i64 (j : Int) ∧ Hid (MrgRel W (.slice (some ⟨g, 0, none⟩) len1 c1) fs bA bB (fs.take j) [] wr)) (fun i _ => k - (intOf i).toNat)
  case atStart => exact ⟨0, by omega, rfl, HREL⟩
  case round =>
    clear HREL
    obtain ⟨j, hj, rfl, hr⟩ := hrel
    by_cases hlt : j < k
    · obtain ⟨hA, hB, hR⟩ := hr.out
      have hfl := frow_flts hR
      obtain ⟨pb, off, f, e2, hx, hfl3, hc⟩ := hfl.2 j (by omega)
      cases e2
      rw [Nat.zero_add] at hc
      have hz := zeroes_le (fs.take j)
      have hcnt : (Got.of (fs.take j)).count < 4611686018427387904 := by rw [hz.2, List.length_take]; omega
      have ha := add_got bA (Got.of (fs.take j)) f hfl3 wr hA hcnt hz.1
      rw [← got_take hx] at ha
      have HA := Lib.hid ha
      have HNEXT : Hid (∀ w', SumG w' bA (Got.of (fs.take (j + 1))) → Fr (fun k => k = bA) wr w' → MrgRel W (.slice (some ⟨g, 0, none⟩) len1 c1) fs bA bB (fs.take (j + 1)) [] w') := fun w' a1 a2 =>
        ⟨a1, hB.frame a2 (fun e => by have := HAB.out.1; omega), hR.frame a2 (fun i hi e => by have := HAB.out.2; simp only [Value.ownBlock, Option.some.injEq] at hi; omega) (fun i hi => by rw [hi]; exact HBA.out)⟩
      have hlti : (j : Int) < k := by omega
      clear hA hB hR hfl hz hcnt ha hx hr
      go_wp2_with fail
      refine (HA.out).mono ?_
      rintro e w5 ⟨rfl, a1, a2⟩
      have HREL := Lib.hid (HNEXT.out w5 a1 a2)
      clear a1 a2 HNEXT HA
      go_wp2
      go_roundw
      case rel => exact ⟨j + 1, by omega, by go_num, HREL⟩
      case measure => simp [intOf]; omega
    · obtain rfl : j = k := by omega
      clear hlt hj
      go_wp2_with fail
      go_loopw [13] (fun i wr => ∃ m : Nat, m ≤ len1 - j ∧ i = .int .i64 ((len1 : Int) - 1 - (m : Int)) ∧ Hid (MrgRel W (.slice (some ⟨g, 0, none⟩) len1 c1) fs bA bB (fs.take j) (fs.reverse.take m) wr)) (fun i _ => (intOf i + 1).toNat)
      case atStart => exact ⟨0, by omega, by go_num, hr⟩
      case round =>
        clear hr
        obtain ⟨m, hm, rfl, hr⟩ := hrel
        by_cases hlt : m < len1 - j
        · obtain ⟨n, hn⟩ : ∃ n : Nat, (len1 : Int) - 1 - (m : Int) = (n : Int) := ⟨len1 - 1 - m, by omega⟩
          obtain ⟨hA, hB, hR⟩ := hr.out
          have hfl := frow_flts hR
          obtain ⟨pb, off, f, e2, hx, hfl3, hc⟩ := hfl.2 n (by omega)
          cases e2
          rw [Nat.zero_add] at hc
          have hx2 : fs.reverse[m]? = some f := by
            rw [List.getElem?_reverse (by omega), show fs.length - 1 - m = n by omega]
            exact hx
          have hz := zeroes_le (fs.reverse.take m)
          have hcnt : (Got.of (fs.reverse.take m)).count < 4611686018427387904 := by rw [hz.2, List.length_take, List.length_reverse]; omega
          have ha := add_got bB (Got.of (fs.reverse.take m)) f hfl3 wr hB hcnt hz.1
          rw [← got_take hx2] at ha
          have HA := Lib.hid ha
          have HNEXT : Hid (∀ w', SumG w' bB (Got.of (fs.reverse.take (m + 1))) → Fr (fun k => k = bB) wr w' → MrgRel W (.slice (some ⟨g, 0, none⟩) len1 c1) fs bA bB (fs.take j) (fs.reverse.take (m + 1)) w') := fun w' a1 a2 =>
            ⟨hA.frame a2 (fun e => by have := HAB.out.1; omega), a1, hR.frame a2 (fun i hi e => by have := HAB.out; simp only [Value.ownBlock, Option.some.injEq] at hi; omega) (fun i hi => by rw [hi]; exact HBB.out)⟩
          have hlti : (j : Int) ≤ n := by omega
          have hnl : (n : Int) < len1 := by omega
          rw [hn]
          clear hA hB hR hfl hz hcnt ha hx hx2 hr
          go_wp2_with fail
          refine (HA.out).mono ?_
          rintro e w5 ⟨rfl, a1, a2⟩
          have HREL := Lib.hid (HNEXT.out w5 a1 a2)
          clear a1 a2 HNEXT HA
          go_wp2
          go_roundw
          case rel => exact ⟨m + 1, by omega, by go_num, HREL⟩
          case measure => first | (simp [intOf]; done) | (simp [intOf]; omega)
        · obtain rfl : m = len1 - j := by omega
          have hn : (len1 : Int) - 1 - ((len1 - j : Nat) : Int) = (j : Int) - 1 := by omega
          rw [hn]
          have hd : decide ((j : Int) ≤ (j : Int) - 1) = false := by rw [decide_eq_false_iff_not]; omega
          rw [hfl1] at hmp
          clear hlt hm hn
          obtain ⟨hA, hB, hR⟩ := hr.out
          have hzA := zeroes_le (fs.take j)
          have hzB := zeroes_le (fs.reverse.take (len1 - j))
          have hcA : (Got.of (fs.take j)).count < 4611686018427387904 := by rw [hzA.2, List.length_take]; omega
          have hcB : (Got.of (fs.reverse.take (len1 - j))).count < 4611686018427387904 := by rw [hzB.2, List.length_take, List.length_reverse]; omega
          have HOKB := Got.ok_of (fs.reverse.take (len1 - j))
          have HWB : Hid (∀ w', SumG w' bB (Got.of (fs.reverse.take (len1 - j))) → Calls Try.prog 25 #[.pointer (some ⟨bB, 0, none⟩)] w' (FPost w' (Got.of (fs.reverse.take (len1 - j))).whole)) := fun w' h => whole_got bB _ w' h HOKB hcB
          have HMG : Hid (∀ w', SumG w' bA (Got.of (fs.take j)) → SumG w' bB (Got.of (fs.reverse.take (len1 - j))) → Calls Try.prog 29 #[.pointer (some ⟨bA, 0, none⟩), .pointer (some ⟨bB, 0, none⟩)] w' fun e w'' => e = .returned (.tuple #[]) ∧ SumG w'' bA (Got.of fs) ∧ SumG w'' bB (Got.of (fs.reverse.take (len1 - j))) ∧ Fr (fun k => k = bA) w' w'') := fun w' h1 h2 => by
            have := merge_got bA bB (by have := HAB.out.1; omega) _ _ w' h1 h2 hcA hcB hzA.1 hzB.1
            rwa [hmp] at this
          have hzC := zeroes_le fs
          have hcC : (Got.of fs).count = len1 := hzC.2.trans hfl1
          have HCO : Hid (∀ w', SumG w' bA (Got.of fs) → Calls Try.prog 22 #[.pointer (some ⟨bA, 0, none⟩)] w' fun e w'' => e = .returned (.int .i64 (len1 : Int)) ∧ w' = w'') := fun w' h => by
            have := count_got bA _ w' h
            rwa [hcC] at this
          have HWA : Hid (∀ w', SumG w' bA (Got.of fs) → Calls Try.prog 25 #[.pointer (some ⟨bA, 0, none⟩)] w' (FPost w' (Got.of fs).whole)) := fun w' h => whole_got bA _ w' h HOK1 (by omega)
          have HOF : Hid (∀ w' p c, Flts w' p len1 fs → Calls Try.prog 17 #[.slice p len1 c] w' (FPost w' (Got.of fs).whole)) := fun w' p c h => ofs_any p len1 c fs w' h (by omega)
          have HOR : Hid (∀ w' p c, Flts w' p len1 (fs.drop t ++ fs.take t) → Calls Try.prog 17 #[.slice p len1 c] w' (FPost w' (Got.of fs).whole)) := fun w' p c h => by
            have := ofs_any p _ c _ w' h (by omega)
            rwa [hrp] at this
          have HA := Lib.hid hA
          have HB := Lib.hid hB
          have HR := Lib.hid hR
          clear hA hB hR hzA hzB hcA hcB HOKB hzC hcC hmp hrp HOK1 hr
          generalize (Got.of (fs.reverse.take (len1 - j))).whole = VB at *
          generalize Got.of (fs.reverse.take (len1 - j)) = gB at *
          generalize Got.of (fs.take j) = gA at *
          generalize (Got.of fs).whole = V at *
          generalize Got.of fs = gC at *
          have HBV := Lib.hid (bits_any V)
          have HBB2 := Lib.hid (bits_any VB)
          go_wp2_with fail
          refine (HWB.out wr HB.out).mono ?_
          rintro e w5 ⟨rfl, hf5⟩
          have HF5 := Lib.hid hf5
          clear hf5
          go_wp2_with fail
          refine (HBB2.out w5).mono ?_
          rintro e w' ⟨rfl, rfl⟩
          go_wp2_with fail
          refine (HMG.out w5 (HA.out.frame HF5.out (fun h => h)) (HB.out.frame HF5.out (fun h => h))).mono ?_
          rintro e w6 ⟨rfl, a1, a2, a3⟩
          have HR6 : Hid (FRow W (.slice (some ⟨g, 0, none⟩) len1 c1) fs w6) := (HR.out.frame HF5.out (fun _ _ h => h) (fun _ h => h.elim)).frame a3 (fun i hi e => by have := HAB.out; simp only [Value.ownBlock, Option.some.injEq] at hi; omega) (fun i hi => by rw [hi]; exact HBA.out)
          have HA6 := Lib.hid a1
          have HB6 := Lib.hid a2
          clear a1 a2 a3 HF5 HA HB HR HMG
          go_upto_region 20 with fail
          have hti : (t : Int) ≤ c1 := by omega
          have hti2 : (t : Int) ≤ len1 := by omega
          have htc : ¬ c1 = t := by omega
          refine wp_region_any (by kernel_rfl) ?_
          change wpAny _ _ _ _ _ _ _ (World.drew _)
          have hf67 : Fr (fun _ => False) w6 w6.drew := (Fr.refl _ w6).drew
          have HR7 := Lib.hid (HR6.out.frame hf67 (fun _ _ h => h) (fun _ h => h.elim))
          have HA7 := Lib.hid (HA6.out.frame hf67 (fun h => h))
          have HB7 := Lib.hid (HB6.out.frame hf67 (fun h => h))
          clear HR6 HA6 HB6 hf67
          generalize w6.drew = w7 at *
          refine wpAny_take (i := 1) (v := .slice (some ⟨g, 0, none⟩) len1 c1) rfl (by kernel_rfl) (by kernel_rfl) (by kernel_rfl) (fun _ _ _ h => h) (Or.inl ⟨by rfl, fun w => BigFrame.run_move (.tmp 7) rfl w⟩) ?_
          refine wpAny_take (i := 2) (v := .int .i64 (t : Int)) rfl (by kernel_rfl) (by kernel_rfl) (by kernel_rfl) (fun _ _ _ h => h) (Or.inl ⟨by rfl, fun w => BigFrame.run_move (.tmp 15) rfl w⟩) ?_
          refine wpAny_take (i := 3) (v := .slice (some ⟨g, t, none⟩) (len1 - t) (c1 - t)) rfl (by kernel_rfl) (by kernel_rfl) (by kernel_rfl) (fun _ _ _ h => h) (Or.inl ⟨by rfl, fun w => by go_simp⟩) ?_
          refine wpAny_take (i := 5) (v := .slice (some ⟨g, 0, none⟩) len1 c1) rfl (by kernel_rfl) (by kernel_rfl) (by kernel_rfl) (fun _ _ _ h => h) (Or.inl ⟨by rfl, fun w => BigFrame.run_move (.tmp 7) rfl w⟩) ?_
          refine wpAny_take (i := 6) (v := .int .i64 (t : Int)) rfl (by kernel_rfl) (by kernel_rfl) (by kernel_rfl) (fun _ _ _ h => h) (Or.inl ⟨by rfl, fun w => BigFrame.run_move (.tmp 15) rfl w⟩) ?_
          refine wpAny_take (i := 7) (v := .slice (some ⟨g, 0, none⟩) t c1) rfl (by kernel_rfl) (by kernel_rfl) (by kernel_rfl) (fun _ _ _ h => h) (Or.inl ⟨by rfl, fun w => by go_simp⟩) ?_
          simp only [Act.put]
          refine wpAny_ready (rs := [0]) (by kernel_rfl) (by simp) ?_
          refine AllReady.cons rfl (fun K hK => ?_) AllReady.nil
          go_simp
          refine hK _ _ ?_
          clear hK K
          have hf78 : Fr (fun _ => False) w7 (w7.alloc (.cells #[] 26)) := (Fr.refl _ w7).alloc _
          have hR8 := HR7.out.frame hf78 (fun _ _ h => h) (fun _ h => h.elim)
          have hl1 : (fvals (fs.drop t)).length = len1 - t := by unfold fvals; rw [List.length_map, List.length_drop, hfl1]
          have hl2 : (fvals (fs.take t)).length = t := by unfold fvals; rw [List.length_map, List.length_take]; omega
          refine wpAny_ready (rs := [4]) (by kernel_rfl) (by simp) ?_
          refine AllReady.cons rfl (fun K hK => ?_) AllReady.nil
          refine step_append_some rfl (.tmp 82) (.tmp 85) 24 rfl 26 i0 (.float .f64 0) 8 Try.underlying24 hi hz0 hz1 hz2 rfl (.slice (some ⟨w7.heap.size, 0, none⟩) 0 0) 0 [] rfl (own_empty w7) ⟨g, t, none⟩ (len1 - t) (c1 - t) (fvals (fs.drop t)) rfl hl1 (flts_news (frow_flts hR8) t) (fvals_cells _) (.inl (by omega)) (by unfold maxLen; omega) (by omega) ?_
          intro g1 cap2 w9 ho9 hf9 hg9
          refine hK _ _ ?_
          clear hK K
          have hblk : ∀ k, (Value.slice (some ⟨w7.heap.size, 0, none⟩) 0 0).ownBlock = some k → k = w7.heap.size := fun k hk => by simp only [Value.ownBlock, Option.some.injEq] at hk; exact hk.symm
          have hgl : g < w7.heap.size := HR7.out.lt g rfl
          have hAl := HA7.out.lt
          have hBl := HB7.out.lt
          have hWl : W.heap.size ≤ w7.heap.size := HR7.out.2.2.2.size
          have hg1 : w7.heap.size ≤ g1 := by
            rcases hg9 with h | h
            · have := hblk _ h; omega
            · have := hf78.size; omega
          have hR9 := hR8.frame hf9 (fun i hi e => by have := hblk _ e; simp only [Value.ownBlock, Option.some.injEq] at hi; omega) (fun i hi => by have := hblk _ hi; omega)
          have hA9 := (HA7.out.frame hf78 (fun h => h)).frame hf9 (fun e => by have := hblk _ e; omega)
          have hB9 := (HB7.out.frame hf78 (fun h => h)).frame hf9 (fun e => by have := hblk _ e; omega)
          clear hf9 hg9 hblk hR8 hf78 HR7 HA7 HB7
          rw [List.nil_append] at ho9
          simp only [Act.put]
          refine wpAny_ready (rs := [8]) (by kernel_rfl) (by simp) ?_
          refine AllReady.cons rfl (fun K hK => ?_) AllReady.nil
          refine step_append_some rfl (.tmp 86) (.tmp 89) 24 rfl 26 i0 (.float .f64 0) 8 Try.underlying24 hi hz0 hz1 hz2 rfl (.slice (some ⟨g1, 0, none⟩) (0 + (len1 - t)) cap2) (0 + (len1 - t)) (fvals (fs.drop t)) rfl ho9 ⟨g, 0, none⟩ t c1 (fvals (fs.take t)) rfl hl2 (fvals_take (frow_flts hR9) t) (fvals_cells _) (.inr (by intro h; cases h)) (by unfold maxLen; omega) (by omega) ?_
          intro g2 cap3 w10 ho10 hf10 hg10
          refine hK _ _ ?_
          clear hK K
          have hblk : ∀ k, (Value.slice (some ⟨g1, 0, none⟩) (0 + (len1 - t)) cap2).ownBlock = some k → k = g1 := fun k hk => by simp only [Value.ownBlock, Option.some.injEq] at hk; exact hk.symm
          have hR10 := hR9.frame hf10 (fun i hi e => by have := hblk _ e; simp only [Value.ownBlock, Option.some.injEq] at hi; omega) (fun i hi => by have := hblk _ hi; omega)
          have hA10 := hA9.frame hf10 (fun e => by have := hblk _ e; omega)
          have hB10 := hB9.frame hf10 (fun e => by have := hblk _ e; omega)
          have hX10 : Flts w10 (some ⟨g2, 0, none⟩) len1 (fs.drop t ++ fs.take t) := by
            rw [show len1 = 0 + (len1 - t) + t by omega]
            refine flts_of_own (cap := cap3) ?_ (fun f hf => ?_)
            · rw [show fvals (fs.drop t ++ fs.take t) = fvals (fs.drop t) ++ fvals (fs.take t) by unfold fvals; simp]; exact ho10
            · rcases List.mem_append.1 hf with h | h
              · exact HW1.2 f (List.mem_of_mem_drop h)
              · exact HW1.2 f (List.mem_of_mem_take h)
          have HR10 := Lib.hid hR10
          have HA10 := Lib.hid hA10
          have HB10 := Lib.hid hB10
          have HX10 := Lib.hid hX10
          clear hf10 hg10 hblk hR9 hA9 hB9 hR10 hA10 hB10 hX10 ho9 ho10 hl1 hl2 hAl hBl hWl hg1 hgl
          simp only [Act.put]
          refine wpAny_ready (rs := [9]) (by kernel_rfl) (by simp) ?_
          refine AllReady.cons rfl (fun K hK => ?_) AllReady.nil
          go_simp
          refine hK _ _ ?_
          clear hK K
          refine wpAny_done (by kernel_rfl) ?_ _
          have htt : len1 - t + t = len1 := by omega
          go_wp2_with fail
          rw [htt]
          clear htt hti hti2 htc
          have hqV : ((V : Int) == (V : Int)) = true := by rw [beq_iff_eq]
          have hqB : ((VB : Int) == (VB : Int)) = true := by rw [beq_iff_eq]
          have hqL : ((len1 : Int) == (len1 : Int)) = true := by rw [beq_iff_eq]
          refine (HOF.out w10 _ _ (frow_flts HR10.out)).mono ?_
          rintro e w11 ⟨rfl, hf11⟩
          have HF11 := Lib.hid hf11
          clear hf11 HOF
          go_wp2_with fail
          refine (HBV.out w11).mono ?_
          rintro e w' ⟨rfl, rfl⟩
          go_wp2_with fail
          refine (HWA.out w11 (HA10.out.frame HF11.out (fun h => h))).mono ?_
          rintro e w12 ⟨rfl, hf12⟩
          have HF12 := Lib.hid (HF11.out.then hf12)
          clear hf12 HF11
          go_wp2_with fail
          refine (HBV.out w12).mono ?_
          rintro e w' ⟨rfl, rfl⟩
          go_wp2_with fail
          refine (HOR.out w12 _ _ (HX10.out.frame HF12.out (fun _ _ _ h => h))).mono ?_
          rintro e w13 ⟨rfl, hf13⟩
          have HF13 := Lib.hid (HF12.out.then hf13)
          clear hf13 HF12
          go_wp2_with fail
          refine (HBV.out w13).mono ?_
          rintro e w' ⟨rfl, rfl⟩
          go_wp2_with fail
          refine (HWB.out w13 (HB10.out.frame HF13.out (fun h => h))).mono ?_
          rintro e w14 ⟨rfl, hf14⟩
          have HF14 := Lib.hid (HF13.out.then hf14)
          clear hf14 HF13
          go_wp2_with fail
          refine (HBB2.out w14).mono ?_
          rintro e w' ⟨rfl, rfl⟩
          go_wp2_with fail
          refine (HCO.out w14 (HA10.out.frame HF14.out (fun h => h))).mono ?_
          rintro e w' ⟨rfl, rfl⟩
          go_wp2_with fail
          refine (HLIVE.out _).mono ?_
          rintro e w15 ⟨rfl, hf15⟩
          have HF15 := Lib.hid (HR10.out.2.2.2.then (HF14.out.then hf15))
          clear hf15
          go_wp2
          go_ret
          exact ⟨rfl, HF15.out⟩

theorem ExactMerges_of {a : Option Addr} {len1 cap1 : Nat} {z : List Int} {W : World} {b c : Int} (h : Nums .u64 W a len1 z) (hz : ∀ n ∈ z, (Lit.int .u64 n).wf = true) (hb : (Lit.int .u8 b).wf = true) :
    Calls Try.prog 6 #[.slice a len1 cap1, .int .u8 b, .int .i64 c] W (LawPost W) := by
  simp only [Lit.wf, Bool.and_eq_true, decide_eq_true_eq] at hb
  have e1 : IntKind.u8.min = 0 := by rfl
  have e2 : IntKind.u8.max = 255 := by rfl
  obtain ⟨n, rfl⟩ : ∃ n : Nat, b = (n : Int) := ⟨b.toNat, by omega⟩
  exact ExactMerges_any a len1 cap1 _ n c W (words_of h hz) (by omega)
end Go.Proofs.Ytmllbdiljjimmaa
